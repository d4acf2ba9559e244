/-
  Texts of mine, merged: RefK RefL InvP JoinP ClrP MatA MatB MatC.
-/
import Derived.Test.YtdoeelfcihdmbaaG4
import Derived.Test.YtdoeelfcihdmbaaG6
import Derived.Test.YtdoeelfcihdmbaaG8
import Derived.Handy
/-
  Layer 8, the reference: a shard is read.
-/
namespace Go.Proofs.Ytdoeelfcihdmbaa
open Go.RowKit Gf
set_option maxRecDepth 20000
set_option linter.unusedVariables false

/-- What is known while a shard is read. -/
structure Prt (w0 wr : World) (gs : Nat) (h : HeadP) (rs : List (List E)) : Prop where
  ext : Ext w0 wr
  box : ∃ v, Blk wr gs 50 (shardC h v) ∧ Rows8 w0.heap.size wr v rs
  res : Blk wr w0.heap.size 50 (shardC zeroH (.slice none 0 0))
  ls : w0.heap.size < gs
theorem Prt.beyond {w0 w w' : World} {gs : Nat} {h : HeadP} {rs : List (List E)} (p : Prt w0 w gs h rs) (hx : Ext w w') : Prt w0 w' gs h rs := by
  obtain ⟨v, h1, h2⟩ := p.box
  exact ⟨p.ext.trans hx, ⟨v, h1.below hx h1.lt, h2.ext hx⟩, p.res.below hx p.res.lt, p.ls⟩
theorem Prt.fin {w0 w w1 w2 : World} {gs : Nat} {h : HeadP} {rs : List (List E)} {v v2 u : Value} {r : List E} {V : List Value} (p : Prt w0 w gs h rs) (hb : Blk w gs 50 (shardC h v)) (hV : Own w w0.heap.size 24 v V) (hl : V.length = rs.length)
    (hr : ∀ (i : Nat) (u : Value), V[i]? = some u → Own w w0.heap.size 5 u (bs (rs.getD i []))) (hx : Ext w w1) (hu : Own w1 w0.heap.size 5 u (bs r)) (h2 : Own w2 w0.heap.size 24 v2 (V ++ [u])) (hm : Moved (w1.alloc (.cells #[u] 24)) w2 v v2) :
    Prt w0 (w2.setCell ⟨gs, 16, none⟩ v2) gs h (rs ++ [r]) := by
  have p1 := (p.beyond hx).beyond ((Ext.refl w1).alloc (.cells #[u] 24))
  have hV1 := (hV.ext hx).alloc (.cells #[u] 24)
  have hb1 := (hb.below hx hb.lt).alloc (.cells #[u] 24)
  have hb2 : Blk w2 gs 50 (shardC h v) := hm.blkFar hb1 hV1 (by decide)
  have hs2 := hm.blkFar p1.res hV1 (by decide)
  have hx2 : Ext w0 w2 := p1.ext.below.trans (hm.below p1.ext.le fun g hg => (hV1.lt g hg).1)
  have h8 : Rows8 w0.heap.size w2 v2 (rs ++ [r]) := Rows8.hang hV hl hr hx hu h2 hm
  exact ⟨hx2.new (p := ⟨gs, 16, none⟩) (Nat.le_of_lt p.ls) _, ⟨v2, hb2.set_eq 16 _ (shardC_set h v v2), h8.far hb2 (by decide) (by decide) 16 _⟩, hs2.far (p := ⟨gs, 16, none⟩) (Nat.ne_of_lt p.ls) _, p.ls⟩
/-- The places that hold a shard's answer, and the empty one. -/
structure Psh (w wr : World) : Prop where
  ext : Ext w wr
  res : Blk wr w.heap.size 50 (shardC zeroH (.slice none 0 0))
  zer : Blk wr (w.heap.size + 1) 50 (shardC zeroH (.slice none 0 0))
theorem Psh.beyond {w wr w' : World} (h : Psh w wr) (hx : Ext wr w') : Psh w w' := ⟨h.ext.trans hx, h.res.below hx h.res.lt, h.zer.below hx h.zer.lt⟩
theorem Psh.new (w : World) : Psh w ((w.alloc (.cells (shardC zeroH (.slice none 0 0)) 50)).alloc (.cells (shardC zeroH (.slice none 0 0)) 50)) := by
  refine ⟨((Ext.refl w).alloc _).alloc _, (Blk.new w 50 (shardC zeroH (.slice none 0 0))).alloc _, ?_⟩
  have := Blk.new (w.alloc (.cells (shardC zeroH (.slice none 0 0)) 50)) 50 (shardC zeroH (.slice none 0 0))
  simpa using this
theorem Psh.touch {w wr w' : World} {g : Nat} (h : Psh w wr) (hg : w.heap.size + 1 < g) (ht : Touch (fun b => b = g) wr w') : Psh w w' :=
  ⟨ht.extNew h.ext (by omega), h.res.touch ht (fun e => by omega), h.zer.touch ht (fun e => by omega)⟩
set_option maxHeartbeats 16000000 in
theorem rparse_n (A : Option Addr) (n c : Nat) (b : List E) (w : World) (hn : b.length = n) (hA : Rd w A (bs b)) (hc : n ≤ c) (hlen : n ≤ 100000000000) :
    Calls Try.prog 36 #[.slice A n c] w (ParseOut b w) := by
  have hmo : Try.prog.follows Departure.mixedOrders = true := by kernel_rfl
  have HN := Lib.hid hn
  have HA := Lib.hid hA
  have HPS := Lib.hid (Psh.new w)
  clear hn hA
  go_enter Try.func36, Try.ntmps36
  go_wp2_with fail
  refine (rparsehead_n A n c b _ HN.out (HA.out.ext HPS.out.ext) hc hlen).mono ?_
  rintro e w1 ⟨ho, hx1⟩
  have HP1 := Lib.hid (HPS.out.beyond hx1)
  clear hx1 HPS
  have hg1 : w.heap.size + 1 < w1.heap.size := HP1.out.zer.lt
  rcases ho with ⟨h, hph, rfl⟩ | ⟨hph, z, hz, rfl⟩
  · have HPH := Lib.hid hph
    have HPX := Lib.hid (parseHead_some hph)
    clear hph
    go_wp2_with (first | (refine wpList_store_at rfl 43 _ _ rfl w1.heap.size 0 (headC h) rfl rfl 43 (headC zeroH) (Blk.new _ _ _) (by kernel_rfl) (Nat.le_refl 16) (headC_ones h) ?_; intro w2 k0 k2; have k1 : Blk w2 w1.heap.size 43 (headC h) := (seg_all (headC zeroH) (headC h) rfl) ▸ k0) | (refine wpList_load_at rfl 43 _ rfl ⟨w1.heap.size, 0, none⟩ rfl (headC h) _ k1.cells Try.underlying43 rfl (by kernel_rfl) ?_))
    have hp2 := (HP1.out.beyond ((Ext.refl w1).alloc (.cells (headC zeroH) 43))).touch hg1 k2
    obtain ⟨gh, hgh⟩ : ∃ g, g = w1.heap.size := ⟨_, rfl⟩
    rw [← hgh] at k1 hg1 ⊢
    have HH2 := Lib.hid k1
    have HP2 := Lib.hid hp2
    clear k0 k1 k2 hp2 hgh HP1
    have hlP : lenP h ≤ 1000000000 := by
      have ho := HPX.out.1
      have h1 := sum4_le (l := sizesP h.k h.blk h.size) (n := 65536) fun y hy => Nat.le_trans (sizesP_le (k := h.k) (blk := h.blk) (size := h.size) (by have := ho.1.1; have := ho.1.2.1; omega) y hy) ho.1.2.2.2.2
      have h2 : (sizesP h.k h.blk h.size).length ≤ 4096 := by rw [sizesP_length]; exact ho.2.2.2.2.1
      have h3 := Nat.mul_le_mul_right (65536 + 4) h2
      have h4 := ho.2.2.1
      rw [lenP]
      unfold sum4 at h1
      omega
    refine (rlength_n h _ HPX.out.1).mono ?_
    rintro e w3 ⟨rfl, hx3⟩
    have HH3 := Lib.hid (HH2.out.below hx3 HH2.out.lt)
    have HP3 := Lib.hid (HP2.out.beyond hx3)
    obtain ⟨L, hL⟩ : ∃ L, L = lenP h := ⟨_, rfl⟩
    rw [← hL] at hlP ⊢
    have HLL := Lib.hid hL
    clear hx3 HH2 HP2 hL
    rcases Nat.lt_trichotomy n L with hlt | heq | hgt
    · have HP : Hid (parseP b = none) := Lib.hid (parseP_len HPH.out (by rw [HN.out, ← HLL.out]; omega))
      go_wp2_with (first | (refine wpList_load_at rfl 50 _ rfl ⟨w.heap.size + 1, 0, none⟩ rfl (shardC zeroH (.slice none 0 0)) _ HP3.out.zer.cells Try.underlying50 rfl (by kernel_rfl) ?_) | (refine wpList_store_at rfl 50 _ _ rfl w.heap.size 0 (shardC zeroH (.slice none 0 0)) rfl rfl 50 (shardC zeroH (.slice none 0 0)) HP3.out.res (by kernel_rfl) (Nat.le_refl 17) (shardC_ones zeroH rfl) ?_; intro w9 k3 k4))
      rw [zeroS_fill _ rfl] at k3
      exact bodyPost_ret (results_cell2 Try.results36 _ w9 ⟨w.heap.size, 0, none⟩ (shardC zeroH (.slice none 0 0)) _ rfl k3.cells Try.underlying50 rfl (by kernel_rfl)) rfl ⟨.inr ⟨HP.out, 70, by decide, rfl⟩, k4.extNew HP3.out.ext (Nat.le_refl _)⟩
    · subst heq
      go_wp2_with fail
      refine (rspoilt_n A n c b h _ HN.out (HA.out.ext HP3.out.ext) hc hlen HPH.out HLL.out).mono ?_
      rintro e w4 ⟨⟨A9, m9, c9, rfl, hm⟩, hx4⟩
      have HH4 := Lib.hid (HH3.out.below hx4 HH3.out.lt)
      have HP4 := Lib.hid (HP3.out.beyond hx4)
      have HPE := Lib.hid (parseP_yes HPH.out (by rw [HN.out, HLL.out]))
      rw [← sumP_parse HPH.out] at HPE
      clear hx4 HH3 HP3
      by_cases hm0 : m9 = 0
      · have HOK := Lib.hid (hm.1 hm0)
        subst hm0
        have HPY : Hid (parseP b = some (h, piecesF (sizesP h.k h.blk h.size) (b.drop (40 + h.key.length)))) := Lib.hid (by rw [HPE.out, HOK.out]; rfl)
        clear hm HOK HPE
        have hgh4 := HH4.out.lt
        have i11 : (headC h)[11]? = some (.string (strB h.key)) := rfl
        have i12 : (headC h)[12]? = some (.int .i64 (h.size : Int)) := rfl
        obtain ⟨hs1, hs2, hs3, hs4, hs5, hs6, hs7, hs8⟩ := HPX.out.1.small
        go_wp2_with (first | (refine wpList_load_at rfl 43 _ rfl ⟨gh, 0, none⟩ rfl (headC h) _ HH4.out.cells Try.underlying43 rfl (by kernel_rfl) ?_) | (refine wpList_build_to rfl 50 #[(0, .tmp 49)] rfl (shardC h (.slice none 0 0)) ?_ ?_; (simp only [List.map_toArray, List.map_cons, List.map_nil]; exact built_shard h)) | (refine wpList_store_at rfl 50 _ _ rfl w4.heap.size 0 (shardC h (.slice none 0 0)) rfl rfl 50 (shardC zeroH (.slice none 0 0)) (Blk.new _ _ _) (by kernel_rfl) (Nat.le_refl 17) (shardC_ones h rfl) ?_; intro w5 k0 k2; have k1 : Blk w5 w4.heap.size 50 (shardC h (.slice none 0 0)) := (zeroS_fill (shardC zeroH (.slice none 0 0)) rfl h (.slice none 0 0)) ▸ k0; have hh5 : Blk w5 gh 43 (headC h) := (HH4.out.alloc _).touch k2 (Nat.ne_of_lt hgh4); have c12 := (hh5.cell 12).trans i12) | (refine wpList_load_at rfl 39 _ rfl ⟨gh, 8, none⟩ rfl (shapeC h) _ (hh5.sub 8 (shapeC h) (shape_in h)) Try.underlying39 rfl (by kernel_rfl) ?_))
        have hg4 : w.heap.size + 1 < w4.heap.size := HP4.out.zer.lt
        have hp5 : Prt w w5 w4.heap.size h [] := ⟨k2.extNew (HP4.out.ext.alloc _) HP4.out.ext.le, ⟨.slice none 0 0, k1, Rows8.nil _ _⟩, (HP4.out.res.alloc _).touch k2 (by omega), by omega⟩
        obtain ⟨gs, hgs⟩ : ∃ g, g = w4.heap.size := ⟨_, rfl⟩
        rw [← hgs] at hp5 ⊢
        have HP5 := Lib.hid hp5
        have HH5 := Lib.hid hh5
        clear k0 k1 k2 hp5 hh5 c12 hgs hg4 hgh4 HH4 HP4
        obtain ⟨ns, hns⟩ : ∃ ns, ns = sizesP h.k h.blk h.size := ⟨_, rfl⟩
        obtain ⟨kl, hkl⟩ : ∃ kl, kl = h.key.length := ⟨_, rfl⟩
        have hkb : kl ≤ 255 := by omega
        obtain ⟨q, hq⟩ : ∃ q, q = ns.length := ⟨_, rfl⟩
        have hql : q ≤ 4096 := by rw [hq, hns, sizesP_length]; exact HPX.out.1.2.2.2.2.1
        obtain ⟨bb, hbb⟩ : ∃ bb, bb = b.drop (40 + kl) := ⟨_, rfl⟩
        have hsz := strB_size h.key
        rw [← hkl] at hsz
        rw [← hns, ← hkl, ← hbb] at HPY
        have HNL : Hid (n = 40 + kl + sum4 ns) := Lib.hid (by rw [HLL.out, lenP, hkl, hns]; rfl)
        have HNS := Lib.hid hns
        have HQ := Lib.hid hq
        have HBB := Lib.hid hbb
        have HNB : Hid (∀ x ∈ ns, x ≤ 65536) := Lib.hid fun x hx => Nat.le_trans (sizesP_le (k := h.k) (blk := h.blk) (size := h.size) (by have := HPX.out.1.1.1; have := HPX.out.1.1.2.1; omega) x (by rw [← hns]; exact hx)) HPX.out.1.1.2.2.2.2
        refine (rsizes_n h.k h.m h.blk h.size _ (by omega) (by omega) (by omega)).mono ?_
        rintro e w6 ⟨⟨v, z, rfl, hz0, how⟩, hx⟩
        obtain rfl : z = 0 := hz0.2 ⟨HPX.out.1.1, HPX.out.1.size_⟩
        have how6 := how rfl
        rw [← HNS.out] at how6
        obtain ⟨A6, c6, rfl, hr, hc1, hc2, -⟩ := how6.slice
        rw [ints_length, ← HQ.out] at hc1 how6 ⊢
        have HOW : Hid (Own w6 w.heap.size 3 (.slice A6 q c6) (ints ns)) := Lib.hid (how6.mono HP5.out.ext.le)
        have hh6 := HH5.out.below hx HH5.out.lt
        have c11 := (hh6.cell 11).trans i11
        have HP6 := Lib.hid (HP5.out.beyond hx)
        clear how how6 hr hx hz0 hc2 HH5 HP5 hh6 hns hkl hq hbb i11 i12
        go_wp2_with fail
        clear c11
        go_loopw [14, 15] (fun at_ i wr => ∃ j : Nat, j ≤ q ∧ i = .int .i64 j ∧ at_ = .int .i64 ((40 + kl + sum4 (ns.take j) : Nat) : Int) ∧ Prt w wr gs h (piecesF (ns.take j) bb) ∧ Own wr w.heap.size 3 (.slice A6 q c6) (ints ns)) (fun _ i _ => q - (intOf i).toNat)
        case atStart => exact ⟨0, by omega, rfl, by simp [sum4], HP6.out, HOW.out⟩
        case round =>
          clear HP6 HOW
          obtain ⟨W, rfl⟩ : ∃ W, W = wr := ⟨_, rfl⟩
          obtain ⟨j, hj, rfl, rfl, hp, how⟩ := hrel
          by_cases hlt : j < q
          · have hjn : j < ns.length := by rw [← HQ.out]; exact hlt
            obtain ⟨x, hxx⟩ : ∃ x, x = ns[j] := ⟨_, rfl⟩
            have hint : (ints ns)[j]? = some (.int .i64 (x : Int)) := by rw [ints_at, List.getElem?_eq_getElem hjn, hxx]; rfl
            obtain ⟨ad6, rfl, hc6⟩ := how.rd.at_ hint
            have hxb : x ≤ 65536 := HNB.out x (by rw [hxx]; exact List.getElem_mem hjn)
            have hsp := sum4_split ns j
            have hsd := sum4_drop ns j hjn
            rw [← hxx] at hsd
            obtain ⟨s, hs⟩ : ∃ s, s = 40 + kl + sum4 (ns.take j) := ⟨_, rfl⟩
            have hsn : s + x + 4 ≤ n := by have := HNL.out; omega
            have HS1 : Hid (40 + kl + sum4 (ns.take (j + 1)) = s + x + 4) := Lib.hid (by rw [take_snoc' _ j hjn, sum4_snoc, ← hxx, hs]; omega)
            rw [← hs]
            obtain ⟨blk, hblk⟩ : ∃ l, l = (b.drop s).take x := ⟨_, rfl⟩
            have HBL : Hid (blk.length = x) := Lib.hid (by rw [hblk, List.length_take, List.length_drop, HN.out]; omega)
            have HPC : Hid (piecesF (ns.take (j + 1)) bb = piecesF (ns.take j) bb ++ [blk]) := Lib.hid (by rw [take_snoc' _ j hjn, piecesF_snoc, ← hxx, HBB.out, List.drop_drop, ← hs, ← hblk])
            have hsl := fun w => slice_lh tyU8 oneU8 A n c s (s + x) .i64 .i64 (s : Int) ((s : Int) + (x : Int)) rfl (by omega) (by omega) (by omega) w
            obtain ⟨A7, hA7⟩ : ∃ A7, A7 = cutA A c s := ⟨_, rfl⟩
            rw [← hA7, show s + x - s = x by omega] at hsl
            have HR7 : Hid (Rd w A7 (bs blk)) := Lib.hid (by
              rw [hA7, hblk, bs_take, bs_drop]
              exact HA.out.piece (by rw [bs_length, HN.out]; omega) (by rw [bs_length, HN.out]; exact hc))
            obtain ⟨v, hvb, V, hV, hVl, hVr⟩ := hp.box
            have hle := hp.ext.le
            obtain ⟨Av, nv, cv, rfl⟩ : ∃ A n c, v = Value.slice A n c := by obtain ⟨A, c, h⟩ := hV.anySlice; exact ⟨_, _, _, h⟩
            have d16 : ∀ w', Ext W w' → w'.cell? ⟨gs, 16, none⟩ = some (.slice Av nv cv) := fun w' hx => by
              rw [(hvb.below hx hvb.lt).cell]; rfl
            have d12 : ∀ w', Ext W w' → w'.cell? (ad6.add j) = some (.int .i64 (x : Int)) := fun w' hx => by
              obtain ⟨a, e, h⟩ := (how.ext hx).rd.at_ hint
              injection e with e
              subst e
              exact h
            have HP1 := Lib.hid (And.intro hp (And.intro hvb (And.intro hV (And.intro hVl hVr))))
            have HOW1 := Lib.hid how
            have hvl : V.length = j := by rw [hVl, piecesF_length, List.length_take]; omega
            have HVL := Lib.hid hvl
            have HINT := Lib.hid hint
            clear hxx hsp hsd hs hblk hA7 hp how hvb hV hVl hVr hvl hint
            go_wp2_with fail
            clear hc6
            obtain ⟨W0, hW0⟩ : ∃ W0, W0 = W.drew := ⟨_, rfl⟩
            have hxd : Ext W W0 := by rw [hW0]; exact (Ext.refl W).drewN 1
            refine wp_region_mix (fun i => [3, 0, 3, 3, 3, 3, 3, 3, 0, 3, 3, 1, 1, 1, 2, 3, 2].getD i 0) (fun w' => Ext W w') hmo (by kernel_rfl) (by kernel_rfl) ((Ext.refl _).drewN 1) ?_
            rw [← hW0]
            clear hW0
            refine mix_pure (.pointer (some ⟨gs, 16, none⟩)) rfl (fun w' => by go_simp) ?_
            refine mix_still (.slice Av nv cv) rfl (fun w' hw' => by have := d16 w' hw'; go_simp) ?_
            refine mix_pure (.slice A n c) rfl (fun w' => by go_simp) ?_
            refine mix_pure (.int .i64 (s : Int)) rfl (fun w' => by go_simp) ?_
            refine mix_pure (.int .i64 (s : Int)) rfl (fun w' => by go_simp) ?_
            refine mix_pure (.slice (some ad6) q c6) rfl (fun w' => by go_simp) ?_
            refine mix_pure (.int .i64 (j : Int)) rfl (fun w' => by go_simp) ?_
            refine mix_pure (.pointer (some (ad6.add j))) rfl (fun w' => by go_simp) ?_
            refine mix_still (.int .i64 (x : Int)) rfl (fun w' hw' => by have := d12 w' hw'; go_simp) ?_
            have wr2 : IntKind.i64.wrap ((s : Int) + (x : Int)) = (s : Int) + (x : Int) := by rw [IntKind.wrap_i64]; omega
            refine mix_pure (.int .i64 ((s : Int) + (x : Int))) rfl (fun w' => by go_simp) ?_
            refine mix_pure (.slice A7 x (c - s)) rfl (fun w' => by go_simp) ?_
            refine mix_laid (.slice (some ⟨W0.heap.size, 0, none⟩) 1 1) (W0.alloc (.cells #[.slice A7 x (c - s)] 24)) rfl (by go_simp) (hxd.alloc _) ?_
            have hrr := rdRows_new (w := W0) (V := [.slice A7 x (c - s)]) (rs := [blk]) ⟨⟨A7, c - s, by rw [HBL.out], HR7.out.ext (HP1.out.1.ext.trans hxd)⟩, trivial⟩ 24
            refine mix_call 111 #[.slice (some ⟨W0.heap.size, 0, none⟩) 1 1] rfl (by go_simp) ?_
            have hfl : [blk].flatten = blk := by simp
            refine (join_n (some ⟨W0.heap.size, 0, none⟩) 1 1 [blk] _ rfl hrr (by decide) (by rw [hfl, HBL.out]; omega)).mono ?_
            rw [hfl]
            rintro e w7 ⟨u7, rfl, ho7, hx7⟩
            obtain ⟨Au, nu, cu, rfl⟩ : ∃ A n c, u7 = Value.slice A n c := by obtain ⟨A, c, h⟩ := ho7.anySlice; exact ⟨_, _, _, h⟩
            have hx1 : Ext W w7 := (hxd.alloc _).trans hx7
            refine ⟨_, rfl, hx1, ?_⟩
            refine mix_laid (.slice (some ⟨w7.heap.size, 0, none⟩) 1 1) (w7.alloc (.cells #[.slice Au nu cu] 24)) rfl (by go_simp) (hx1.alloc _) ?_
            have hu : Own w7 w.heap.size 5 (.slice Au nu cu) (bs blk) := ho7.mono (by have := hxd.le; simp; omega)
            have hbd : (V.length + 1) * 24 ≤ 140737488355328 := by rw [HVL.out]; omega
            obtain ⟨v2, w2, hrun, h2, h3, -⟩ := run_app2 (P := Try.prog) (w7.alloc (.cells #[.slice Au nu cu] 24)) eltRowU8 32 w.heap.size (.slice Av nv cv) V ((HP1.out.2.2.1.ext hx1).alloc _) (some ⟨w7.heap.size, 0, none⟩) 1 1 [.slice Au nu cu] (rd_new w7 _ _) rfl (by simp [Value.oneCell']) hbd (by have := hx1.le; simp; omega)
            obtain ⟨Aw, nw, cw, rfl⟩ : ∃ A n c, v2 = Value.slice A n c := by obtain ⟨A, c, h⟩ := h2.anySlice; exact ⟨_, _, _, h⟩
            refine mix_last (.slice Aw nw cw) w2 rfl (append_run (by rfl) (by go_simp) (by go_simp) hrun) ?_
            refine mix_pure (.pointer (some ⟨gs, 16, none⟩)) rfl (fun w' => by go_simp) ?_
            have hV1 := (HP1.out.2.2.1.ext hx1).alloc (.cells #[.slice Au nu cu] 24)
            have hb2 : Blk w2 gs 50 (shardC h (.slice Av nv cv)) := h3.blkFar ((HP1.out.2.1.below hx1 HP1.out.2.1.lt).alloc _) hV1 (by decide)
            have f16 := hb2.frozen 16
            have c16 : w2.cell? ⟨gs, 16, none⟩ = some (.slice Av nv cv) := by rw [hb2.cell]; rfl
            have HOWF : Hid (Own (w2.setCell ⟨gs, 16, none⟩ (.slice Aw nw cw)) w.heap.size 3 (.slice (some ad6) q c6) (ints ns)) := Lib.hid (by
              have k1 := (HOW1.out.ext hx1).alloc (.cells #[.slice Au nu cu] 24)
              have k2 := k1.kept h3.grown (k1.types hV1 (by decide))
              exact k2.far (p := ⟨gs, 16, none⟩) (k2.notBlk hb2 (by decide)) _)
            have HF : Hid (Prt w (w2.setCell ⟨gs, 16, none⟩ (.slice Aw nw cw)) gs h (piecesF (ns.take (j + 1)) bb)) := Lib.hid (by
              rw [HPC.out]
              exact HP1.out.1.fin HP1.out.2.1 HP1.out.2.2.1 HP1.out.2.2.2.1 HP1.out.2.2.2.2 hx1 hu h2 h3)
            obtain ⟨WF, hWF⟩ : ∃ WF, WF = w2.setCell ⟨gs, 16, none⟩ (.slice Aw nw cw) := ⟨_, rfl⟩
            clear hrun h2 h3 hV1 hb2 hu ho7 hx7 hxd hx1 hrr hfl hbd d16 d12 hsl
            refine mix_store WF rfl (by rw [hWF]; go_simp) ?_
            rw [← hWF] at HF HOWF
            clear hWF f16 c16 HP1 HOW1
            refine mix_nil ?_
            obtain ⟨a6, e6, hc6⟩ := HOWF.out.rd.at_ (k := j) (u := .int .i64 (x : Int)) HINT.out
            injection e6 with e6
            subst e6
            go_simp
            go_wp2_with fail
            go_roundw
            case rel => exact ⟨j + 1, by omega, by go_num, by rw [HS1.out]; go_num, HF.out, HOWF.out⟩
            case measure => simp [intOf]; omega
          · obtain rfl : q = j := by omega
            rw [List.take_of_length_le (by rw [HQ.out]; exact Nat.le_refl _)] at hp
            obtain ⟨v, hvb, h8⟩ := hp.box
            have hv1 : v.oneCell' = true := by obtain ⟨V, k, -⟩ := h8; exact k.oneCell
            have HP9 := Lib.hid hp
            have HBS := Lib.hid hvb
            have H8 := Lib.hid h8
            clear hp how hvb h8
            go_wp2_with (first | (refine wpList_load_at rfl 50 _ rfl ⟨gs, 0, none⟩ rfl (shardC h v) _ HBS.out.cells Try.underlying50 rfl (by kernel_rfl) ?_) | (refine wpList_store_at rfl 50 _ _ rfl w.heap.size 0 (shardC h v) rfl rfl 50 (shardC zeroH (.slice none 0 0)) HP9.out.res (by kernel_rfl) (Nat.le_refl 17) (shardC_ones h hv1) ?_; intro w7 k1 k2))
            rw [zeroS_fill _ rfl] at k1
            have h87 : Rows8 w.heap.size w7 v (piecesF ns bb) := by
              obtain ⟨V, q1, q2, q3⟩ := H8.out
              refine ⟨V, q1.touch k2 (fun g hg e => ?_), q2, fun i u hi => (q3 i u hi).touch k2 fun g hg e => ?_⟩
              · exact q1.notBlk HP9.out.res (by decide) (by rw [hg, e])
              · exact (q3 i u hi).notBlk HP9.out.res (by decide) (by rw [hg, e])
            exact bodyPost_ret (results_cell2 Try.results36 _ w7 ⟨w.heap.size, 0, none⟩ (shardC h v) _ rfl k1.cells Try.underlying50 rfl (by kernel_rfl)) rfl ⟨.inl ⟨h, _, v, HPY.out, rfl, h87⟩, k2.extNew HP9.out.ext (Nat.le_refl _)⟩
      · have HP : Hid (parseP b = none) := Lib.hid (by rw [HPE.out, if_neg (fun e => hm0 (hm.2 e))])
        have g1 : 0 < (m9 : Int) := by omega
        clear hm HPE
        go_wp2_with (first | (refine wpList_load_at rfl 50 _ rfl ⟨w.heap.size + 1, 0, none⟩ rfl (shardC zeroH (.slice none 0 0)) _ HP4.out.zer.cells Try.underlying50 rfl (by kernel_rfl) ?_) | (refine wpList_store_at rfl 50 _ _ rfl w.heap.size 0 (shardC zeroH (.slice none 0 0)) rfl rfl 50 (shardC zeroH (.slice none 0 0)) HP4.out.res (by kernel_rfl) (Nat.le_refl 17) (shardC_ones zeroH rfl) ?_; intro w9 k3 k4))
        rw [zeroS_fill _ rfl] at k3
        exact bodyPost_ret (results_cell2 Try.results36 _ w9 ⟨w.heap.size, 0, none⟩ (shardC zeroH (.slice none 0 0)) _ rfl k3.cells Try.underlying50 rfl (by kernel_rfl)) rfl ⟨.inr ⟨HP.out, 82, by decide, rfl⟩, k4.extNew HP4.out.ext (Nat.le_refl _)⟩
    · have HP : Hid (parseP b = none) := Lib.hid (parseP_len HPH.out (by rw [HN.out, ← HLL.out]; omega))
      go_wp2_with (first | (refine wpList_load_at rfl 50 _ rfl ⟨w.heap.size + 1, 0, none⟩ rfl (shardC zeroH (.slice none 0 0)) _ HP3.out.zer.cells Try.underlying50 rfl (by kernel_rfl) ?_) | (refine wpList_store_at rfl 50 _ _ rfl w.heap.size 0 (shardC zeroH (.slice none 0 0)) rfl rfl 50 (shardC zeroH (.slice none 0 0)) HP3.out.res (by kernel_rfl) (Nat.le_refl 17) (shardC_ones zeroH rfl) ?_; intro w9 k3 k4))
      rw [zeroS_fill _ rfl] at k3
      exact bodyPost_ret (results_cell2 Try.results36 _ w9 ⟨w.heap.size, 0, none⟩ (shardC zeroH (.slice none 0 0)) _ rfl k3.cells Try.underlying50 rfl (by kernel_rfl)) rfl ⟨.inr ⟨HP.out, 72, by decide, rfl⟩, k4.extNew HP3.out.ext (Nat.le_refl _)⟩
  · have HP := Lib.hid (parseP_no hph)
    have g1 : (z != 0) = true := by rw [bne_iff_ne]; exact hz
    clear hph
    go_wp2_with (first | (refine wpList_store_at rfl 43 _ _ rfl w1.heap.size 0 (headC zeroH) rfl rfl 43 (headC zeroH) (Blk.new _ _ _) (by kernel_rfl) (Nat.le_refl 16) (headC_ones zeroH) ?_; intro w2 k0 k2; have hp2 := (HP1.out.beyond ((Ext.refl w1).alloc _)).touch hg1 k2) | (refine wpList_load_at rfl 50 _ rfl ⟨w.heap.size + 1, 0, none⟩ rfl (shardC zeroH (.slice none 0 0)) _ hp2.zer.cells Try.underlying50 rfl (by kernel_rfl) ?_) | (refine wpList_store_at rfl 50 _ _ rfl w.heap.size 0 (shardC zeroH (.slice none 0 0)) rfl rfl 50 (shardC zeroH (.slice none 0 0)) hp2.res (by kernel_rfl) (Nat.le_refl 17) (shardC_ones zeroH rfl) ?_; intro w3 k3 k4))
    rw [zeroS_fill _ rfl] at k3
    exact bodyPost_ret (results_cell2 Try.results36 _ w3 ⟨w.heap.size, 0, none⟩ (shardC zeroH (.slice none 0 0)) _ rfl k3.cells Try.underlying50 rfl (by kernel_rfl)) rfl ⟨.inr ⟨HP.out, z, hz, rfl⟩, k4.extNew hp2.ext (Nat.le_refl _)⟩
end Go.Proofs.Ytdoeelfcihdmbaa
/-
  Layer 8, the reference: are two shards the same?
-/
namespace Go.Proofs.Ytdoeelfcihdmbaa
open Go.RowKit Gf
set_option maxRecDepth 20000
set_option linter.unusedVariables false

section
variable {P : Program}
/-- Two structs are compared. -/
theorem wpList_cmp {ops : Array Oper} {rest : List Oper} {o : Oper} {a : Act} {w : World} {Q : Exit → Act → World → Prop} (hgd : o.guard = none) (op : BinOp) (t t2 : TypeId) (x y : Operand) (ho : o.op = .binOp op t x y t2)
    (xs ys : Array Value) (hx : a.eval x = .agg xs) (hy : a.eval y = .agg ys) (hq : P.eqGuardType P.depth t = false) (r : Value) (hr : (binOp op t (.agg xs) (.agg ys)).run P w = .ok r w)
    (h : wpList P ops Q rest (a.put o.dst r) w) : wpList P ops Q (o :: rest) a w := by
  refine wpList_plain hgd fun _ hK => ?_
  unfold Oper.wp execOp
  have hg : (eqGuard op t x y (.agg xs) (.agg ys)).run P w = .ok () w := by
    unfold eqGuard
    cases op <;> simp [hq]
  simp only [ho, hx, hy, Sem.run_bind, Sem.run_pure, Result.andThen_ok, hg, hr]
  exact hK _ _ h
end
theorem strB_toList (a : List E) : (strB a).toList = bytesU a := by rw [ByteArray.toList_eq]; rfl
theorem strB_eq (a b : List E) : (((strB a).toList == (strB b).toList) = true) ↔ a = b := by
  rw [strB_toList, strB_toList, beq_iff_eq]
  exact ⟨bytesU_inj, fun h => by rw [h]⟩
/-- Rows that may be read, none empty, as they lie. -/
theorem RdRows.ne_at {w : World} {A : Option Addr} {rs : List (List E)} (h : RdRows w A rs) (hp : ∀ r ∈ rs, 0 < r.length) {i : Nat} (hi : i < rs.length) : ∃ ad bd c, A = some ad ∧ w.cell? (ad.add i) = some (.slice (some bd) rs[i].length c) ∧ Rd w (some bd) (bs rs[i]) := by
  obtain ⟨ad, B, c, h1, h2, h3, -⟩ := h.at_ hi
  obtain ⟨bd, rfl, -⟩ := h3.lt (by rw [bs_length]; exact hp _ (List.getElem_mem hi))
  exact ⟨ad, bd, c, h1, h2, h3⟩
/-- What Same answers. -/
def RSameOut (h g : HeadP) (xs ys : List (List E)) (w : World) (e : Ending) (w' : World) : Prop := (∃ r : Bool, e = .returned (.bool r) ∧ (r = true ↔ (h = g ∧ xs = ys))) ∧ Ext w w'
set_option maxHeartbeats 4000000 in
theorem rsame_n (h g : HeadP) (A B : Option Addr) (n m ca cb : Nat) (xs ys : List (List E)) (w : World) (s1 : SmallH h) (s2 : SmallH g) (hn : xs.length = n) (hm : ys.length = m) (hx : RdRows w A xs) (hy : RdRows w B ys)
    (px : ∀ r ∈ xs, 0 < r.length) (py : ∀ r ∈ ys, 0 < r.length) (hn2 : n ≤ 1000000) (hm2 : m ≤ 1000000) :
    Calls Try.prog 37 #[.agg (shardC h (.slice A n ca)), .agg (shardC g (.slice B m cb))] w (RSameOut h g xs ys w) := by
  have hmo : Try.prog.follows Departure.mixedOrders = true := by kernel_rfl
  have hcmp := cmp_head h g s1 s2
  obtain ⟨W, hW⟩ : ∃ W, W = (w.alloc (.cells (shardC h (.slice A n ca)) 50)).alloc (.cells (shardC g (.slice B m cb)) 50) := ⟨_, rfl⟩
  have hxw : Ext w W := by rw [hW]; exact ((Ext.refl w).alloc _).alloc _
  have hb1 : Blk W w.heap.size 50 (shardC h (.slice A n ca)) := by rw [hW]; exact (Blk.new w _ _).alloc _
  have hb2 : Blk W (w.heap.size + 1) 50 (shardC g (.slice B m cb)) := by
    have := Blk.new (w.alloc (.cells (shardC h (.slice A n ca)) 50)) 50 (shardC g (.slice B m cb))
    rw [hW]; simpa using this
  have c1 : W.cell? ⟨w.heap.size, 16, none⟩ = some (.slice A n ca) := hb1.cell 16
  have c2 : W.cell? ⟨w.heap.size + 1, 16, none⟩ = some (.slice B m cb) := hb2.cell 16
  have HX := Lib.hid (And.intro hn (And.intro (hx.ext hxw) px))
  have HY := Lib.hid (And.intro hm (And.intro (hy.ext hxw) py))
  have HXW := Lib.hid hxw
  have HB := Lib.hid (And.intro hb1 hb2)
  clear hn hm hx hy px py hxw hb1 hb2
  obtain ⟨r, e1, e2⟩ := hcmp W
  have HE := Lib.hid e2
  have HW := Lib.hid hW
  clear hcmp e2 s1 s2 hW
  go_enter Try.func37, Try.ntmps37
  cases r with
  | false =>
    have HNE : Hid (¬ (h = g ∧ xs = ys)) := Lib.hid fun e => by have := HE.out.2 e.1; simp at this
    go_wp2_with (first | (rw [← HW.out]; refine wpList_load_at rfl 43 _ rfl ⟨w.heap.size, 0, none⟩ rfl (headC h) _ (HB.out.1.sub 0 (headC h) (shard_head h _)) Try.underlying43 rfl (by kernel_rfl) ?_) | (refine wpList_load_at rfl 43 _ rfl ⟨w.heap.size + 1, 0, none⟩ rfl (headC g) _ (HB.out.2.sub 0 (headC g) (shard_head g _)) Try.underlying43 rfl (by kernel_rfl) ?_) | (refine wpList_cmp rfl .neq 43 43 _ _ rfl (headC h) (headC g) rfl rfl (by kernel_rfl) _ e1 ?_))
    go_ret
    exact ⟨⟨false, rfl, by simp [HNE.out]⟩, HXW.out⟩
  | true =>
    obtain rfl := HE.out.1 rfl
    by_cases hnm : n = m
    · subst hnm
      have hb1 : ((n : Int) != (n : Int)) = false := by simp
      go_wp2_with (first | (rw [← HW.out]; refine wpList_load_at rfl 43 _ rfl ⟨w.heap.size, 0, none⟩ rfl (headC h) _ (HB.out.1.sub 0 (headC h) (shard_head h _)) Try.underlying43 rfl (by kernel_rfl) ?_) | (refine wpList_load_at rfl 43 _ rfl ⟨w.heap.size + 1, 0, none⟩ rfl (headC h) _ (HB.out.2.sub 0 (headC h) (shard_head h _)) Try.underlying43 rfl (by kernel_rfl) ?_) | (refine wpList_cmp rfl .neq 43 43 _ _ rfl (headC h) (headC h) rfl rfl (by kernel_rfl) _ e1 ?_))
      go_loopw [5] (fun i wr => ∃ j : Nat, j ≤ n ∧ i = .int .i64 j ∧ Ext W wr ∧ ∀ i (h1 : i < xs.length) (h2 : i < ys.length), i < j → xs[i] = ys[i]) (fun i _ => n - (intOf i).toNat)
      case atStart => exact ⟨0, by omega, rfl, Ext.refl _, fun i h1 h2 h3 => by omega⟩
      case round =>
        obtain ⟨W2, rfl⟩ : ∃ W, W = wr := ⟨_, rfl⟩
        obtain ⟨j, hj, rfl, hx2, hq⟩ := hrel
        have HQ := Lib.hid hq
        have HX2 := Lib.hid hx2
        have d1 : W2.cell? ⟨w.heap.size, 16, none⟩ = some (.slice A n ca) := (hx2.cell (World.block_lt_of_cell? _ _ c1)).trans c1
        have d2 : W2.cell? ⟨w.heap.size + 1, 16, none⟩ = some (.slice B n cb) := (hx2.cell (World.block_lt_of_cell? _ _ c2)).trans c2
        clear hq hx2
        by_cases hlt : j < n
        · have hjx : j < xs.length := by rw [HX.out.1]; exact hlt
          have hjy : j < ys.length := by rw [HY.out.1]; exact hlt
          obtain ⟨ad, ax, cx, rfl, c3, r3⟩ := (HX.out.2.1.ext HX2.out).ne_at HX.out.2.2 hjx
          obtain ⟨bd, ay, cy, rfl, c4, r4⟩ := (HY.out.2.1.ext HX2.out).ne_at HY.out.2.2 hjy
          obtain ⟨lx, hlx⟩ : ∃ l, l = xs[j] := ⟨_, rfl⟩
          obtain ⟨ly, hly⟩ : ∃ l, l = ys[j] := ⟨_, rfl⟩
          rw [← hlx] at c3 r3
          rw [← hly] at c4 r4
          have q1 := fun w' (hx : Ext W2 w') => convert_n rfl (r3.ext hx) cx
          have q2 := fun w' (hx : Ext W2 w') => convert_n rfl (r4.ext hx) cy
          have k1 := fun w' (hx : Ext W2 w') => (hx.cell (World.block_lt_of_cell? _ _ d1)).trans d1
          have k2 := fun w' (hx : Ext W2 w') => (hx.cell (World.block_lt_of_cell? _ _ d2)).trans d2
          have k3 := fun w' (hx : Ext W2 w') => (hx.cell (World.block_lt_of_cell? _ _ c3)).trans c3
          have k4 := fun w' (hx : Ext W2 w') => (hx.cell (World.block_lt_of_cell? _ _ c4)).trans c4
          obtain ⟨sx, hsx⟩ : ∃ s, s = strB lx := ⟨_, rfl⟩
          obtain ⟨sy, hsy⟩ : ∃ s, s = strB ly := ⟨_, rfl⟩
          change ∀ w', Ext W2 w' → _ = Result.ok (Value.string (strB lx)) _ at q1
          change ∀ w', Ext W2 w' → _ = Result.ok (Value.string (strB ly)) _ at q2
          rw [← hsx] at q1
          rw [← hsy] at q2
          obtain ⟨r, hr⟩ : ∃ r, r = (sx.toList == sy.toList) := ⟨_, rfl⟩
          have HR : Hid (r = true ↔ lx = ly) := Lib.hid (by rw [hr, hsx, hsy]; exact strB_eq _ _)
          have HLX := Lib.hid hlx
          have HLY := Lib.hid hly
          clear hlx hly r3 r4 hsx hsy c3 c4
          go_wp2_with fail
          refine wp_region_mix (fun i => [3, 0, 3, 3, 0, 0, 3, 0, 3, 3, 0, 0, 3].getD i 0) (fun w' => Ext W2 w') hmo (by kernel_rfl) (by kernel_rfl) ((Ext.refl _).drewN 1) ?_
          refine mix_pure (.pointer (some ⟨w.heap.size, 16, none⟩)) rfl (fun w' => by go_simp) ?_
          refine mix_still (.slice (some ad) n ca) rfl (fun w' hw' => by have := k1 w' hw'; go_simp) ?_
          refine mix_pure (.int .i64 (j : Int)) rfl (fun w' => by go_simp) ?_
          refine mix_pure (.pointer (some (ad.add j))) rfl (fun w' => by go_simp) ?_
          refine mix_still (.slice (some ax) lx.length cx) rfl (fun w' hw' => by have := k3 w' hw'; go_simp) ?_
          refine mix_still (.string sx) rfl (fun w' hw' => by have := q1 w' hw'; go_simp) ?_
          refine mix_pure (.pointer (some ⟨w.heap.size + 1, 16, none⟩)) rfl (fun w' => by go_simp) ?_
          refine mix_still (.slice (some bd) n cb) rfl (fun w' hw' => by have := k2 w' hw'; go_simp) ?_
          refine mix_pure (.int .i64 (j : Int)) rfl (fun w' => by go_simp) ?_
          refine mix_pure (.pointer (some (bd.add j))) rfl (fun w' => by go_simp) ?_
          refine mix_still (.slice (some ay) ly.length cy) rfl (fun w' hw' => by have := k4 w' hw'; go_simp) ?_
          refine mix_still (.string sy) rfl (fun w' hw' => by have := q2 w' hw'; go_simp) ?_
          refine mix_pure (.bool (!r)) rfl (fun w' => by rw [hr]; go_simp) ?_
          refine mix_nil ?_
          obtain ⟨W3, hW3⟩ : ∃ W3, W3 = W2.drew := ⟨_, rfl⟩
          have HX3 : Hid (Ext W W3) := Lib.hid (by rw [hW3]; exact HX2.out.trans ((Ext.refl _).drewN 1))
          rw [← hW3]
          clear hW3 hr k1 k2 k3 k4 q1 q2 d1 d2
          cases r with
          | true =>
            have HE2 := Lib.hid (HR.out.1 rfl)
            clear HR
            go_simp
            go_wp2_with fail
            go_roundw
            case rel => exact ⟨j + 1, by omega, by go_num, HX3.out, fun i h1 h2 h3 => by
              rcases Nat.lt_or_ge i j with h | h
              · exact HQ.out i h1 h2 h
              · obtain rfl : i = j := by omega
                rw [← HLX.out, ← HLY.out, HE2.out]⟩
            case measure => simp [intOf]; omega
          | false =>
            have HNE : Hid (¬ (h = h ∧ xs = ys)) := Lib.hid fun e => by
              have h3 := HLX.out
              have h4 := HLY.out
              have h5 := e.2
              subst h5
              have := HR.out.2 (by rw [h3, h4])
              simp at this
            clear HR
            go_simp
            go_wp2_with fail
            go_ret
            exact ⟨⟨false, rfl, by simp [HNE.out]⟩, HXW.out.trans HX3.out⟩
        · obtain rfl : n = j := by omega
          have HYE : Hid (h = h ∧ xs = ys) := Lib.hid ⟨rfl, List.ext_getElem (by rw [HX.out.1, HY.out.1]) fun i h1 h2 => HQ.out i h1 h2 (by rw [← HX.out.1]; exact h1)⟩
          go_wp2_with fail
          go_ret
          exact ⟨⟨true, rfl, by simp [HYE.out]⟩, HXW.out.trans HX2.out⟩
    · have HNE : Hid (¬ (h = h ∧ xs = ys)) := Lib.hid fun e => hnm (by rw [← HX.out.1, ← HY.out.1, e.2])
      have hb1 : ((n : Int) != (m : Int)) = true := by rw [bne_iff_ne]; omega
      go_wp2_with (first | (rw [← HW.out]; refine wpList_load_at rfl 43 _ rfl ⟨w.heap.size, 0, none⟩ rfl (headC h) _ (HB.out.1.sub 0 (headC h) (shard_head h _)) Try.underlying43 rfl (by kernel_rfl) ?_) | (refine wpList_load_at rfl 43 _ rfl ⟨w.heap.size + 1, 0, none⟩ rfl (headC h) _ (HB.out.2.sub 0 (headC h) (shard_head h _)) Try.underlying43 rfl (by kernel_rfl) ?_) | (refine wpList_cmp rfl .neq 43 43 _ _ rfl (headC h) (headC h) rfl rfl (by kernel_rfl) _ e1 ?_))
      go_ret
      exact ⟨⟨false, rfl, by simp [HNE.out]⟩, HXW.out⟩
end Go.Proofs.Ytdoeelfcihdmbaa
/-
  Layer 4, plain: any k rows of the code say what the data are.
-/
namespace Go.Proofs.Ytdoeelfcihdmbaa
open Go.RowKit Gf
set_option linter.unusedVariables false

theorem sumN_swap (n m : Nat) (f : Nat → Nat → E) : sumN n (fun i => sumN m fun j => f i j) = sumN m fun j => sumN n fun i => f i j := by
  induction n with
  | zero => exact (sumN_zero fun j _ => rfl).symm
  | succ n ih =>
    show sumN n (fun i => sumN m fun j => f i j) + sumN m (fun j => f n j) = sumN m fun j => sumN n (fun i => f i j) + f n j
    rw [ih, sumN_add]
theorem wrow_getD (k i j : Nat) (h : j < k) : (wrow (ptsK k) k i).getD j 0 = wgt (ptsK k) (E.of i) j := by
  rw [List.getD_eq_getElem?_getD, List.getElem?_eq_getElem (by rw [wrow_length]; exact h), wrow_get]; rfl
/-- Rows of the code at k places take nothing but nothing to nothing. -/
theorem code_inj {k : Nat} {at_ : List Nat} (hk : at_.length = k) (hn : at_.Nodup) (hl : ∀ i ∈ at_, i < 256) (hk2 : k ≤ 256) (v : Nat → E)
    (h : ∀ i, i < k → sumN k (fun j => (wrow (ptsK k) k (at_.getD i 0)).getD j 0 * v j) = 0) : ∀ j, j < k → v j = 0 := by
  obtain ⟨f, f1, f2, f3⟩ := lagrange (ptsK_nodup hk2) ((List.range k).map v) (ptsK k).length (Nat.le_refl _)
  rw [ptsK_length] at f1 f2 f3
  have hv : ∀ j, j < k → ((List.range k).map v).getD j 0 = v j := fun j hj => by
    rw [List.getD_eq_getElem?_getD, List.getElem?_map, List.getElem?_range hj]; rfl
  have hz : ser f = S.zero := by
    refine few_roots k f (at_.map E.of) (fun j hj => ser_out f j (by omega)) (pts_nodup hn hl) (by rw [List.length_map]; omega) fun x hx => ?_
    obtain ⟨a, ha, rfl⟩ := List.mem_map.1 hx
    obtain ⟨i, hi, rfl⟩ := List.mem_iff_getElem.1 ha
    have h1 := h i (by omega)
    rw [List.getD_eq_getElem?_getD, List.getElem?_eq_getElem hi, Option.getD_some] at h1
    exact (f3 _).trans ((sumN_congr fun j hj => by rw [hv j hj, wrow_getD k _ j hj]).trans h1)
  intro j hj
  have h1 := f2 j hj
  rw [ptsK_getD hj, if_pos hj, hv j hj, evL_ser (b := []) (by rw [hz]; rfl)] at h1
  rw [← h1]; rfl
/-- The rows at these places. -/
def rowsAt (at_ : List Nat) (rs : List (List E)) : List (List E) := at_.map fun i => rs.getD i []
theorem rowsAt_length (at_ : List Nat) (rs : List (List E)) : (rowsAt at_ rs).length = at_.length := List.length_map _
theorem rowsAt_getD (at_ : List Nat) (rs : List (List E)) {i : Nat} (h : i < at_.length) : (rowsAt at_ rs).getD i [] = rs.getD (at_.getD i 0) [] := by
  rw [rowsAt, List.getD_eq_getElem?_getD, List.getElem?_map, List.getElem?_eq_getElem h, List.getD_eq_getElem?_getD (l := at_), List.getElem?_eq_getElem h]; rfl
/-- What a list of rows is at a place. -/
def entry (rs : List (List E)) (i j : Nat) : E := (rs.getD i []).getD j 0
/-- B turns A round. -/
def Inv (k : Nat) (A B : List (List E)) : Prop := B.length = k ∧ (∀ r ∈ B, r.length = k) ∧ ∀ i j, i < k → j < k → (sumN k fun t => entry B i t * entry A t j) = if i = j then 1 else 0
theorem prodM_getD (mat data : List (List E)) (L i : Nat) (h : i < mat.length) : (prodM mat data L).getD i [] = prodRow (mat.getD i []) data L data.length := by
  rw [prodM, List.getD_eq_getElem?_getD, List.getElem?_map, List.getElem?_eq_getElem h, List.getD_eq_getElem?_getD (l := mat), List.getElem?_eq_getElem h]; rfl
theorem prodM_entry (mat data : List (List E)) (L i c : Nat) (h : i < mat.length) (hc : c < L) : entry (prodM mat data L) i c = sumN data.length fun t => entry mat i t * entry data t c := by
  rw [entry, prodM_getD _ _ _ _ h, List.getD_eq_getElem?_getD, prodRow_get _ _ _ _ _ hc]; rfl
theorem prodM_rows (mat data : List (List E)) (L : Nat) : ∀ r ∈ prodM mat data L, r.length = L := fun r hr => by
  obtain ⟨x, _, rfl⟩ := List.mem_map.1 hr
  exact prodRow_length _ _ _ _
theorem rows_eq {k L : Nat} {X Y : List (List E)} (hX : X.length = k) (hY : Y.length = k) (hx : ∀ r ∈ X, r.length = L) (hy : ∀ r ∈ Y, r.length = L) (h : ∀ i c, i < k → c < L → entry X i c = entry Y i c) : X = Y := by
  apply List.ext_getElem (by omega)
  intro i h1 h2
  have l1 := hx _ (List.getElem_mem h1)
  have l2 := hy _ (List.getElem_mem h2)
  apply List.ext_getElem (by omega)
  intro c h3 h4
  have := h i c (by omega) (by omega)
  rw [entry, entry, List.getD_eq_getElem?_getD (l := X), List.getElem?_eq_getElem h1, Option.getD_some, List.getD_eq_getElem?_getD (l := Y), List.getElem?_eq_getElem h2, Option.getD_some, List.getD_eq_getElem?_getD, List.getElem?_eq_getElem h3, List.getD_eq_getElem?_getD, List.getElem?_eq_getElem h4] at this
  exact this
theorem codeR_getD {k n i : Nat} (h : i < n) : (codeR k n).getD i [] = wrow (ptsK k) k i := by rw [List.getD_eq_getElem?_getD, codeR_get h]; rfl
/-- The data come back out of any k rows. -/
theorem data_back {k n L : Nat} {at_ : List Nat} {data B : List (List E)} (hk : at_.length = k) (hl : ∀ i ∈ at_, i < n) (hd : data.length = k) (hr : ∀ r ∈ data, r.length = L) (hB : Inv k (rowsAt at_ (codeR k n)) B) : prodM B (rowsAt at_ (encM k n L data)) L = data := by
  obtain ⟨b1, b2, b3⟩ := hB
  refine rows_eq (by rw [prodM_length, b1]) hd (prodM_rows _ _ _) hr fun i c hi hc => ?_
  rw [prodM_entry _ _ _ _ _ (by omega) hc, rowsAt_length, hk]
  have h1 : ∀ t, t < k → entry (rowsAt at_ (encM k n L data)) t c = sumN k fun j => entry (rowsAt at_ (codeR k n)) t j * entry data j c := fun t ht => by
    have hm : at_.getD t 0 < n := by
      rw [List.getD_eq_getElem?_getD, List.getElem?_eq_getElem (by omega)]
      exact hl _ (List.getElem_mem _)
    have h2 := prodM_entry (codeR k n) data L (at_.getD t 0) c (by rw [codeR_length]; exact hm) hc
    rw [hd] at h2
    show ((rowsAt at_ (encM k n L data)).getD t []).getD c 0 = _
    rw [rowsAt_getD _ _ (by omega)]
    refine Eq.trans (show _ = entry (prodM (codeR k n) data L) (at_.getD t 0) c from rfl) (h2.trans (sumN_congr fun j hj => ?_))
    simp only [entry]
    rw [rowsAt_getD _ _ (by omega)]
  have h2 : (sumN k fun t => entry B i t * entry (rowsAt at_ (encM k n L data)) t c) = sumN k fun j => (sumN k fun t => entry B i t * entry (rowsAt at_ (codeR k n)) t j) * entry data j c := by
    have e1 : (sumN k fun t => entry B i t * entry (rowsAt at_ (encM k n L data)) t c) = sumN k fun t => sumN k fun j => entry B i t * entry (rowsAt at_ (codeR k n)) t j * entry data j c := sumN_congr fun t ht => by
      rw [h1 t ht, ← sumN_smul]
      exact sumN_congr fun j hj => (E.mul_assoc _ _ _).symm
    rw [e1, sumN_swap]
    refine sumN_congr fun j hj => ?_
    rw [E.mul_comm _ (entry data j c), ← sumN_smul]
    exact sumN_congr fun t ht => E.mul_comm _ _
  rw [h2, sumN_one hi fun j hj hne => ?_]
  · rw [b3 i i hi hi, if_pos rfl, E.one_mul]
  · rw [b3 i j hi hj, if_neg (fun e => hne e.symm), E.zero_mul]
/-- The first rows of the code are the data. -/
theorem enc_data {k n L : Nat} {data : List (List E)} (hk : k ≤ 256) (hkn : k ≤ n) (hd : data.length = k) (hr : ∀ r ∈ data, r.length = L) : (encM k n L data).take k = data := by
  refine rows_eq (by rw [List.length_take, encM_length]; omega) hd (fun r h => prodM_rows _ _ _ r (List.mem_of_mem_take h)) hr fun i c hi hc => ?_
  have h1 : entry ((encM k n L data).take k) i c = entry (encM k n L data) i c := by
    rw [entry, entry, List.getD_eq_getElem?_getD (l := List.take _ _), List.getElem?_take_of_lt hi, ← List.getD_eq_getElem?_getD]
  have h2 := prodM_entry (codeR k n) data L i c (by rw [codeR_length]; omega) hc
  rw [hd] at h2
  rw [h1]
  refine Eq.trans (show _ = entry (prodM (codeR k n) data L) i c from rfl) (h2.trans ?_)
  have h3 : ∀ j, j < k → entry (codeR k n) i j = if j = i then 1 else 0 := fun j hj => by
    rw [entry, codeR_getD (by omega), wrow_getD k i j hj]
    have := wgt_own (ptsK_nodup hk) (i := i) (j := j) (by rw [ptsK_length]; exact hi) (by rw [ptsK_length]; exact hj)
    rwa [ptsK_getD hi] at this
  rw [sumN_one hi fun j hj hne => by rw [h3 j hj, if_neg hne, E.zero_mul], h3 i hi, if_pos rfl, E.one_mul]
end Go.Proofs.Ytdoeelfcihdmbaa
/-
  Layer 10, plain: how the rows grow while an object is split, how the object grows while it is joined.
-/
namespace Go.Proofs.Ytdoeelfcihdmbaa
open Go.RowKit Gf
set_option linter.unusedVariables false

theorem rowP_snoc (k : Nat) : ∀ (ns : List Nat) (n : Nat) (data : List E) (i : Nat), rowP k (ns ++ [n]) data i = rowP k ns data i ++ padR n ((data.drop (k * ns.sum)).drop (i * n))
  | [], n, data, i => by simp [rowP]
  | m :: ns, n, data, i => by
    rw [List.cons_append, rowP, rowP_snoc k ns n, rowP, List.append_assoc, List.sum_cons, List.drop_drop (i := k * ns.sum), Nat.mul_add]
theorem rowP_drop (k n : Nat) (ns : List Nat) (data : List E) (i : Nat) : (rowP k (n :: ns) data i).drop n = rowP k ns (data.drop (k * n)) i := by
  rw [rowP]; exact drop_app _ _ _ (padR_length _ _)
theorem rowP_take (k n m : Nat) (ns : List Nat) (data : List E) (i : Nat) (h : m ≤ n) : (rowP k (n :: ns) data i).take m = (padR n (data.drop (i * n))).take m := by
  rw [rowP, List.take_append_of_le_length (by rw [padR_length]; exact h)]
theorem cutP_snoc : ∀ (ns : List Nat) (n : Nat) (w : List E), cutP (ns ++ [n]) w = cutP ns w ++ [(w.drop ns.sum).take n]
  | [], n, w => by simp [cutP]
  | m :: ns, n, w => by rw [List.cons_append, cutP, cutP_snoc ns n, cutP, List.cons_append, List.drop_drop, List.sum_cons]
theorem sum_split (ns : List Nat) (s : Nat) : (ns.take s).sum + (ns.drop s).sum = ns.sum := by
  conv => rhs; rw [← List.take_append_drop s ns]
  rw [List.sum_append]
theorem sum_drop_at (ns : List Nat) (s : Nat) (h : s < ns.length) : (ns.drop s).sum = ns[s] + (ns.drop (s + 1)).sum := by
  rw [List.drop_eq_getElem_cons h, List.sum_cons]
theorem sum_take_at (ns : List Nat) (s : Nat) (h : s < ns.length) : (ns.take (s + 1)).sum = (ns.take s).sum + ns[s] := by
  rw [take_snoc' _ s h, List.sum_append]; simp
/-- What is left of row i behind s stripes. -/
def restP (k : Nat) (ns : List Nat) (data : List E) (s i : Nat) : List E := rowP k (ns.drop s) (data.drop (k * (ns.take s).sum)) i
theorem restP_length (k : Nat) (ns : List Nat) (data : List E) (s i : Nat) : (restP k ns data s i).length = (ns.drop s).sum := rowP_length _ _ _ _
theorem restP_drop {k : Nat} {ns : List Nat} {data : List E} {s i : Nat} (h : s < ns.length) : (restP k ns data s i).drop ns[s] = restP k ns data (s + 1) i := by
  rw [restP, List.drop_eq_getElem_cons h, rowP_drop, restP, List.drop_drop, sum_take_at ns s h, Nat.mul_add]
/-- One piece more. -/
theorem join_step {k : Nat} {ns : List Nat} {data : List E} {s i : Nat} (h : s < ns.length) {base : Nat} (hb : base = k * (ns.take s).sum + i * ns[s]) :
    data.take base ++ (restP k ns data s i).take (min ns[s] (data.length - (data.take base).length)) = data.take (base + ns[s]) := by
  obtain ⟨n, hn⟩ : ∃ n, n = ns[s] := ⟨_, rfl⟩
  rw [restP, List.drop_eq_getElem_cons h, ← hn, rowP_take _ _ _ _ _ _ (Nat.min_le_left _ _)]
  have h1 : (data.drop (k * (ns.take s).sum)).drop (i * n) = data.drop base := by rw [List.drop_drop, hb, hn]
  have h2 : data.length - (data.take base).length = ((data.drop (k * (ns.take s).sum)).drop (i * n)).length := by rw [h1, List.length_take, List.length_drop]; omega
  rw [h2, piece_join, h1, List.take_add]
theorem rowsP_get {k : Nat} {ns : List Nat} {data : List E} {i : Nat} (h : i < k) : (rowsP k ns data)[i]? = some (rowP k ns data i) := by
  rw [rowsP, List.getElem?_map, List.getElem?_range h]; rfl
theorem rowsP_rows {k : Nat} {ns : List Nat} {data : List E} : ∀ r ∈ rowsP k ns data, r.length = ns.sum := fun r hr => by
  obtain ⟨i, _, rfl⟩ := List.mem_map.1 hr
  exact rowP_length _ _ _ _
theorem rowP_one {k n : Nat} {ns : List Nat} {data : List E} {s i : Nat} (h : s < ns.length) (hn : n = ns[s]) : rowP k (ns.take (s + 1)) data i = rowP k (ns.take s) data i ++ padR n (data.drop (k * (ns.take s).sum + i * n)) := by
  rw [take_snoc' _ s h, rowP_snoc, ← hn, List.drop_drop]
/-- The word of an object: all rows, stripe behind stripe. -/
def wordP (k n : Nat) (ns : List Nat) (data : List E) : List (List E) := encM k n ns.sum (rowsP k ns data)
theorem wordP_length (k n : Nat) (ns : List Nat) (data : List E) : (wordP k n ns data).length = n := encM_length _ _ _ _
theorem wordP_rows {k n : Nat} {ns : List Nat} {data : List E} : ∀ r ∈ wordP k n ns data, r.length = ns.sum := prodM_rows _ _ _
theorem wordP_data {k n : Nat} {ns : List Nat} {data : List E} (hk : k ≤ 256) (hkn : k ≤ n) {i : Nat} (hi : i < k) : (wordP k n ns data)[i]? = some (rowP k ns data i) := by
  have h := enc_data (n := n) hk hkn (rowsP_length k ns data) rowsP_rows
  have h2 := rowsP_get (ns := ns) (data := data) hi
  rw [← h, List.getElem?_take_of_lt hi] at h2
  exact h2
/-- The blocks of shard i. -/
def blocksP (k n : Nat) (ns : List Nat) (data : List E) (i : Nat) : List (List E) := cutP ns ((wordP k n ns data).getD i [])
theorem wordP_getD_length {k n : Nat} {ns : List Nat} {data : List E} {i : Nat} (h : i < n) : ((wordP k n ns data).getD i []).length = ns.sum := by
  rw [List.getD_eq_getElem?_getD, List.getElem?_eq_getElem (by rw [wordP_length]; exact h)]
  exact wordP_rows _ (List.getElem_mem _)
theorem blocksP_lengths {k n : Nat} {ns : List Nat} {data : List E} {i : Nat} (h : i < n) : (blocksP k n ns data i).map List.length = ns := cutP_lengths _ _ (wordP_getD_length h)
theorem blocksP_flatten {k n : Nat} {ns : List Nat} {data : List E} {i : Nat} (h : i < n) : (blocksP k n ns data i).flatten = (wordP k n ns data).getD i [] := cutP_flatten _ _ (wordP_getD_length h)
end Go.Proofs.Ytdoeelfcihdmbaa
/-
  Layer 3, plain: a column is cleared, in lists.
-/
namespace Go.Proofs.Ytdoeelfcihdmbaa
open Go.RowKit Gf
set_option linter.unusedVariables false

theorem GInv.congr {k c : Nat} {A M M' : Nat → Nat → E} (h : GInv k A c M) (hc : c ≤ k) (e : ∀ i j, i < k → j < k + k → M' i j = M i j) : GInv k A c M' := by
  refine ⟨fun i j hi hj => ?_, fun i j hi hj => ?_, fun v hv => h.inj v fun i hi => ?_⟩
  · rw [e i j hi (by omega), h.rel i j hi hj]
    exact sumN_congr fun t ht => by rw [e i (k + t) hi (by omega)]
  · rw [e i j hi (by omega)]; exact h.unit i j hi hj
  · rw [← hv i hi]
    exact sumN_congr fun j hj => by rw [e i j hi (by omega)]
/-- The rows behind a column that was cleared. -/
def clrR (R : Nat → List E) (c r m : Nat) : Nat → List E := elimTo (updR (swapR R r c) c (scaleR (E.inv (ser (R r) c)) (swapR R r c c))) c c m
theorem clrR_ser {k c r : Nat} {R : Nat → List E} (hl : ∀ i, i < k → (R i).length = k + k) (hc : c < k) (hr : r < k) {i j : Nat} (hi : i < k) (hj : j < k + k) : ser (clrR R c r k i) j = stepM (fun i j => ser (R i) j) c r i j := by
  have hs : ∀ i, swapR R r c i = if i = c then R r else if i = r then R c else R i := fun i => by
    unfold swapR sw; split
    · rfl
    · split <;> rfl
  have hl1 : ∀ i, i < k → (swapR R r c i).length = k + k := fun i hi => by rw [hs]; split; exact hl r hr; split; exact hl c hc; exact hl i hi
  obtain ⟨R1, hR1⟩ : ∃ R1, R1 = swapR R r c := ⟨_, rfl⟩
  have hM1 : (fun i j => ser (R1 i) j) = swapM (fun i j => ser (R i) j) c r := by
    funext i j
    rw [hR1, hs, swapM]
    split
    · rfl
    · split <;> rfl
  rw [clrR, ← hR1, stepM, ← hM1]
  rw [← hR1] at hl1
  obtain ⟨x, hx⟩ : ∃ x, x = E.inv (ser (R r) c) := ⟨_, rfl⟩
  rw [← hx]
  obtain ⟨R2, hR2⟩ : ∃ R2, R2 = updR R1 c (scaleR x (R1 c)) := ⟨_, rfl⟩
  have hM2 : (fun i j => ser (R2 i) j) = scaleM (fun i j => ser (R1 i) j) c x := by
    funext i j
    rw [hR2, scaleM]
    by_cases e : i = c
    · subst e; rw [if_pos rfl, updR_same, ser_scaleR, E.mul_comm]
    · rw [if_neg e, updR_other _ _ _ e]
  have hl2 : ∀ i, i < k → (R2 i).length = k + k := fun i hi => by
    rw [hR2]
    by_cases e : i = c
    · subst e; rw [updR_same, scaleR_length]; exact hl1 _ hi
    · rw [updR_other _ _ _ e]; exact hl1 i hi
  rw [← hR2, ← hM2, elimTo, clearM]
  by_cases e : i = c
  · rw [if_neg (fun h => h.2 e), if_pos e]
  · rw [if_pos ⟨hi, e⟩, if_neg e, ser_elimR (by rw [hl2 i hi, hl2 c hc]), E.mul_comm]
theorem GInv.cleared {k c r : Nat} {A : Nat → Nat → E} {R : Nat → List E} (h : GInv k A c fun i j => ser (R i) j) (hl : ∀ i, i < k → (R i).length = k + k) (hc : c < k) (hcr : c ≤ r) (hr : r < k) (hp : ser (R r) c ≠ 0) : GInv k A (c + 1) fun i j => ser (clrR R c r k i) j :=
  (h.step hc hcr hr hp).congr hc fun i j hi hj => clrR_ser hl hc hr hi hj
/-- A matrix, and the identity behind it. -/
def besideR (A : List (List E)) (k i : Nat) : List E := A.getD i [] ++ unitR k i
theorem besideR_ser {k : Nat} {A : List (List E)} (hA : A.length = k) (hr : ∀ r ∈ A, r.length = k) {i j : Nat} (hi : i < k) (hj : j < k + k) : ser (besideR A k i) j = besideM k (entry A) i j := by
  have hl : (A.getD i []).length = k := by
    rw [List.getD_eq_getElem?_getD, List.getElem?_eq_getElem (by omega)]; exact hr _ (List.getElem_mem _)
  rw [besideR, besideM]
  by_cases h : j < k
  · rw [if_pos h, ser_append_left _ _ _ (by omega), entry, ser, List.getD_eq_getElem?_getD (l := A.getD i [])]
  · rw [if_neg h, ser_append_right _ _ _ (by omega), hl, ser, unitR]
    by_cases e : j - k = i
    · rw [if_pos e, e, List.getElem?_set_self (by rw [List.length_replicate]; exact hi)]; rfl
    · rw [if_neg e, List.getElem?_set_ne (fun h => e h.symm), List.getElem?_replicate, if_pos (by omega)]; rfl
theorem besideR_length {k : Nat} {A : List (List E)} (hA : A.length = k) (hr : ∀ r ∈ A, r.length = k) {i : Nat} (hi : i < k) : (besideR A k i).length = k + k := by
  have hl : (A.getD i []).length = k := by
    rw [List.getD_eq_getElem?_getD, List.getElem?_eq_getElem (by omega)]; exact hr _ (List.getElem_mem _)
  rw [besideR, List.length_append, hl, unitR, List.length_set, List.length_replicate]
/-- The right half. -/
def rightL (R : Nat → List E) (k : Nat) : List (List E) := (List.range k).map fun i => (R i).drop k
theorem right_inv {k : Nat} {A : List (List E)} {R : Nat → List E} (h : GInv k (entry A) k fun i j => ser (R i) j) (hl : ∀ i, i < k → (R i).length = k + k) : Inv k A (rightL R k) := by
  refine ⟨by simp [rightL], fun r hr => ?_, fun i j hi hj => ?_⟩
  · obtain ⟨i, hi, rfl⟩ := List.mem_map.1 hr
    have := hl i (List.mem_range.1 hi)
    rw [List.length_drop, this]; omega
  · rw [← h.fin i j hi hj]
    refine sumN_congr fun t ht => ?_
    congr 1
    rw [entry, rightL, List.getD_eq_getElem?_getD (l := List.map _ _), List.getElem?_map, List.getElem?_range hi, Option.map_some, Option.getD_some, List.getD_eq_getElem?_getD, List.getElem?_drop, ser]
/-- The rows of the code at k places may be turned round. -/
theorem code_start {k n : Nat} {at_ : List Nat} (hk : at_.length = k) (hn : at_.Nodup) (hl : ∀ i ∈ at_, i < n) (hn2 : n ≤ 255) (hk2 : k ≤ 255) : GInv k (entry (rowsAt at_ (codeR k n))) 0 (besideM k (entry (rowsAt at_ (codeR k n)))) :=
  GInv.start fun v hv => code_inj hk hn (fun i hi => by have := hl i hi; omega) (by omega) v fun i hi => by
    refine Eq.trans (sumN_congr fun j hj => ?_) (hv i hi)
    have hm : at_.getD i 0 < n := by
      rw [List.getD_eq_getElem?_getD, List.getElem?_eq_getElem (by omega)]
      exact hl _ (List.getElem_mem _)
    rw [entry, rowsAt_getD _ _ (by omega), codeR_getD hm]
end Go.Proofs.Ytdoeelfcihdmbaa
/-
  Layer 3: what a matrix is, its first number that is not nothing, rows that are picked.
-/
namespace Go.Proofs.Ytdoeelfcihdmbaa
open Go.RowKit Gf
set_option maxRecDepth 20000
set_option linter.unusedVariables false

theorem inverse_zero {x : E} (h : x = 0) (w : World) : Calls Try.prog 127 #[.int .u8 x.val] w fun e w' => e = .returned (.tuple #[.int .u8 (E.inv x).val, .bool false]) ∧ w = w' := by
  have := inverse_any x w
  rwa [decide_eq_true h] at this
theorem inverse_some {x : E} (h : x ≠ 0) (w : World) : Calls Try.prog 127 #[.int .u8 x.val] w fun e w' => e = .returned (.tuple #[.int .u8 (E.inv x).val, .bool true]) ∧ w = w' := by
  have := inverse_any x w
  rwa [decide_eq_false h] at this
theorem isZero_yes {x : E} (h : x = 0) (w : World) : Calls Try.prog 95 #[.int .u8 x.val] w fun e w' => e = .returned (.bool true) ∧ w = w' := by
  have := isZero_any x w
  rwa [decide_eq_true h] at this
theorem isZero_no {x : E} (h : x ≠ 0) (w : World) : Calls Try.prog 95 #[.int .u8 x.val] w fun e w' => e = .returned (.bool false) ∧ w = w' := by
  have := isZero_any x w
  rwa [decide_eq_false h] at this
set_option maxHeartbeats 2000000 in
theorem fault_n (A : Option Addr) (n c m : Nat) (rs : List (List E)) (w : World) (hn : rs.length = n) (hr : RdRows w A rs) (hl : ∀ r ∈ rs, r.length = m) (hn2 : n ≤ 255) (hm : m ≤ 255) :
    Calls Try.prog 191 #[.slice A n c] w fun e w' => e = .returned (.int .i64 0) ∧ w = w' := by
  have HN := Lib.hid hn
  have HL := Lib.hid hl
  have d1 : decide (255 < (n : Int)) = false := decide_eq_false (by omega)
  have d2 : decide (255 < (m : Int)) = false := decide_eq_false (by omega)
  have hd0 : ((m : Int) != (m : Int)) = false := by simp
  clear hn hl
  go_enter Try.func191, Try.ntmps191
  go_wp2_with fail
  go_loop [3, 11] (fun rg i => ∃ q : Nat, q ≤ n ∧ i = .int .i64 q ∧ rg = .bool false) (fun _ i => n - (intOf i).toNat)
  case atStart => exact ⟨0, by omega, rfl, rfl⟩
  case round =>
    obtain ⟨q, hq, rfl, rfl⟩ := hrel
    by_cases hlt : q < n
    · obtain ⟨cd, D0, e0, hC, hz0, -, -, -⟩ := hr.at_ (show 0 < rs.length by rw [HN.out]; omega)
      subst hC
      rw [add_zero', HL.out _ (List.getElem_mem _)] at hz0
      obtain ⟨cd', D1, e1, hC, hz1, -, -, -⟩ := hr.at_ (show q < rs.length by rw [HN.out]; exact hlt)
      cases hC
      rw [HL.out _ (List.getElem_mem _)] at hz1
      have hn0 : (0 : Int) < (n : Int) := by omega
      go_wp2_with fail
      go_round
      case rel => exact ⟨q + 1, by omega, by go_num, rfl⟩
      case measure => simp [intOf]; omega
    · obtain rfl : n = q := by omega
      go_wp2
      go_ret
      exact ⟨rfl, rfl⟩
set_option maxHeartbeats 1000000 in
theorem columns_n (A : Option Addr) (n c m : Nat) (rs : List (List E)) (w : World) (hn : rs.length = n) (hr : RdRows w A rs) (hl : ∀ r ∈ rs, r.length = m) (hn0 : 0 < n) :
    Calls Try.prog 192 #[.slice A n c] w fun e w' => e = .returned (.int .i64 (m : Int)) ∧ w = w' := by
  obtain ⟨cd, D0, e0, hC, hz0, -, -, -⟩ := hr.at_ (show 0 < rs.length by rw [hn]; omega)
  subst hC
  rw [add_zero', hl _ (List.getElem_mem _)] at hz0
  have h0 : ((n : Int) == 0) = false := by rw [beq_eq_false_iff_ne]; omega
  have h1 : (0 : Int) < (n : Int) := by omega
  clear hr hl hn
  go_enter Try.func192, Try.ntmps192
  go_wp2
  go_ret
  exact ⟨rfl, rfl⟩
set_option maxHeartbeats 4000000 in
/-- The first number that is not nothing, by its inverse: one. -/
theorem one_n (A : Option Addr) (n c m : Nat) (rs : List (List E)) (w : World) (hn : rs.length = n) (hr : RdRows w A rs) (hl : ∀ r ∈ rs, r.length = m) (hn2 : n ≤ 255) (hm : m ≤ 255) (hex : ∃ r ∈ rs, ∃ x ∈ r, x ≠ 0) :
    Calls Try.prog 193 #[.slice A n c] w fun e w' => e = .returned (.tuple #[.int .u8 1, .bool true]) ∧ w = w' := by
  have HN := Lib.hid hn
  have HL := Lib.hid hl
  have HEX := Lib.hid hex
  clear hn hl hex
  go_enter Try.func193, Try.ntmps193
  go_wp2_with fail
  go_loop [13] (fun i => ∃ q : Nat, q ≤ n ∧ i = .int .i64 q ∧ ∀ p (hp : p < rs.length), p < q → ∀ x ∈ rs[p], x = 0) (fun i => n - (intOf i).toNat)
  case atStart => exact ⟨0, by omega, rfl, fun p hp h => by omega⟩
  case round =>
    obtain ⟨q, hq, rfl, hz⟩ := hrel
    have HZ := Lib.hid hz
    clear hz
    by_cases hlt : q < n
    · have hqr : q < rs.length := by rw [HN.out]; exact hlt
      obtain ⟨cd, D1, e1, hC, hz1, hr1, -, -⟩ := hr.at_ hqr
      subst hC
      rw [HL.out _ (List.getElem_mem _)] at hz1
      obtain ⟨row, hrow⟩ : ∃ r, r = rs[q] := ⟨_, rfl⟩
      rw [← hrow] at hr1
      have HROW := Lib.hid hrow
      have HRL : Hid (row.length = m) := Lib.hid (by rw [hrow]; exact HL.out _ (List.getElem_mem _))
      clear hrow
      go_wp2_with fail
      go_loop [19] (fun i => ∃ p : Nat, p ≤ m ∧ i = .int .i64 p ∧ ∀ t (ht : t < row.length), t < p → row[t] = 0) (fun i => m - (intOf i).toNat)
      case atStart => exact ⟨0, by omega, rfl, fun t ht h => by omega⟩
      case round =>
        obtain ⟨p, hp, rfl, hy⟩ := hrel
        have HY := Lib.hid hy
        clear hy
        by_cases hlt2 : p < m
        · have hpr : p < row.length := by rw [HRL.out]; exact hlt2
          obtain ⟨ad, rfl, hc1⟩ := hr1.byte hpr
          obtain ⟨x, hx⟩ : ∃ x, x = row[p] := ⟨_, rfl⟩
          rw [← hx] at hc1
          have hxl := x.lt
          have HX := Lib.hid hx
          clear hx
          by_cases hx0 : x = 0
          · have HI := Lib.hid (inverse_zero hx0)
            have HX0 := Lib.hid hx0
            clear hx0
            go_wp2_with (go_at_call 127; with_reducible refine (HI.out _).mono ?_; rintro e w' ⟨rfl, rfl⟩)
            go_round
            case rel => exact ⟨p + 1, by omega, by go_num, fun t ht h => by
              rcases Nat.lt_or_ge t p with h1 | h1
              · exact HY.out t ht h1
              · obtain rfl : t = p := by omega
                rw [← HX.out]; exact HX0.out⟩
            case measure => simp [intOf]; omega
          · have HI := Lib.hid (inverse_some hx0)
            have HZ0 := Lib.hid (isZero_no hx0)
            have HT : Hid (∀ w, Calls Try.prog 68 #[.int .u8 x.val, .int .u8 (E.inv x).val] w fun e w' => e = .returned (.int .u8 1) ∧ w = w') := Lib.hid fun w => by have := times_any x (E.inv x) w; rwa [E.mul_inv hx0] at this
            clear hx0
            go_wp2_with (first | (go_at_call 127; with_reducible refine (HI.out _).mono ?_; rintro e w' ⟨rfl, rfl⟩) | (go_at_call 95; with_reducible refine (HZ0.out _).mono ?_; rintro e w' ⟨rfl, rfl⟩) | (go_at_call 68; with_reducible refine (HT.out _).mono ?_; rintro e w' ⟨rfl, rfl⟩))
            go_ret2
            exact ⟨rfl, rfl⟩
        · obtain rfl : m = p := by omega
          go_wp2_with fail
          go_round
          case rel => exact ⟨q + 1, by omega, by go_num, fun t ht h => by
            rcases Nat.lt_or_ge t q with h1 | h1
            · exact HZ.out t ht h1
            · obtain rfl : t = q := by omega
              intro x hx
              rw [← HROW.out] at hx
              obtain ⟨j, hj, rfl⟩ := List.mem_iff_getElem.1 hx
              exact HY.out j hj (by rw [← HRL.out]; exact hj)⟩
          case measure => simp [intOf]; omega
    · exfalso
      obtain ⟨r, hr1, x, hx, hx0⟩ := HEX.out
      obtain ⟨j, hj, rfl⟩ := List.mem_iff_getElem.1 hr1
      exact hx0 (HZ.out j hj (by have := HN.out; omega) x hx)
end Go.Proofs.Ytdoeelfcihdmbaa
/-
  Layer 3: rows that are picked.
-/
namespace Go.Proofs.Ytdoeelfcihdmbaa
open Go.RowKit Gf
set_option maxRecDepth 20000
set_option linter.unusedVariables false

/-- Rows of the call's own in a list of its own, while they are gathered. -/
structure Gath (w wr : World) (v : Value) (V : List Value) (rs : List (List E)) : Prop where
  ext : Ext w wr
  len : V.length = rs.length
  list : Own wr w.heap.size 26 v V
  rows : ∀ (i : Nat) (u : Value), V[i]? = some u → Own wr w.heap.size 63 u (bs (rs.getD i []))
theorem Gath.push {w W w1 w3 : World} {v v2 u : Value} {V : List Value} {rs : List (List E)} {r : List E} (h : Gath w W v V rs) (hx : Ext W w1) (ho : Own w1 w.heap.size 63 u (bs r)) (k1 : Own w3 w.heap.size 26 v2 (V ++ [u]))
    (k2 : Moved (w1.alloc (.cells #[u] 26)) w3 v v2) (k3 : Below w.heap.size w1 w3) : Gath w w3 v2 (V ++ [u]) (rs ++ [r]) := by
  have hV1' := (h.list.ext hx).alloc (.cells #[u] 26)
  have hu1 := ho.alloc (.cells #[u] 26)
  refine ⟨(h.ext.trans hx).below.trans k3, by simp [h.len], k1, fun i x hi => ?_⟩
  rcases Nat.lt_trichotomy i V.length with h1 | h1 | h1
  · rw [List.getElem?_append_left h1] at hi
    have := ((h.rows i x hi).ext hx).alloc (.cells #[u] 26)
    rw [List.getD_eq_getElem?_getD, List.getElem?_append_left (by rw [← h.len]; exact h1), ← List.getD_eq_getElem?_getD]
    exact this.kept k2.grown (this.types hV1' (by decide))
  · subst h1
    rw [List.getElem?_append_right (Nat.le_refl _)] at hi
    simp at hi
    subst hi
    rw [List.getD_eq_getElem?_getD, h.len, List.getElem?_append_right (Nat.le_refl _)]
    simp only [Nat.sub_self, List.getElem?_cons_zero, Option.getD_some]
    exact hu1.kept k2.grown (hu1.types hV1' (by decide))
  · rw [List.getElem?_eq_none (by simp; omega)] at hi; cases hi
theorem Gath.rd {w wr : World} {v : Value} {V : List Value} {rs : List (List E)} (h : Gath w wr v V rs) : ∃ A c, v = .slice A rs.length c ∧ RdRows wr A rs := by
  obtain ⟨A, c, rfl, h1, h2, h3, -⟩ := h.list.slice
  rw [h.len]
  refine ⟨A, c, rfl, V, h.len, h1, fun i r hi => ?_⟩
  have hlt : i < V.length := by rw [h.len]; exact (List.getElem?_eq_some_iff.1 hi).1
  have h4 := h.rows i V[i] (List.getElem?_eq_getElem hlt)
  rw [List.getD_eq_getElem?_getD, hi, Option.getD_some] at h4
  obtain ⟨A', c', hv, k1, k2, k3, -⟩ := h4.slice
  rw [bs_length] at hv k2
  exact ⟨A', c', by rw [List.getElem?_eq_getElem hlt, hv], k1, k2, k3⟩
set_option maxHeartbeats 4000000 in
theorem rows_n (A B : Option Addr) (n k c cb m : Nat) (rs : List (List E)) (at_ : List Nat) (w : World) (hn : rs.length = n) (hr : RdRows w A rs) (hl : ∀ r ∈ rs, r.length = m) (hk : at_.length = k) (hB : Rd w B (ints at_)) (ha : ∀ i ∈ at_, i < n) (hn2 : n ≤ 255) (hm : m ≤ 255) (hk2 : k ≤ 255) :
    Calls Try.prog 173 #[.slice A n c, .slice B k cb] w fun e w' => (∃ A' c', e = .returned (.tuple #[.slice A' k c', .int .i64 0]) ∧ RdRows w' A' (rowsAt at_ rs)) ∧ Ext w w' := by
  have HN := Lib.hid hn
  have HL := Lib.hid hl
  have HK := Lib.hid hk
  have HR := Lib.hid hr
  have HB := Lib.hid hB
  have HA := Lib.hid ha
  have d2 : decide (255 < (k : Int)) = false := decide_eq_false (by omega)
  have hmk := fun w => run_make_cap (P := Try.prog) eltRowEl .i64 .i64 k (by omega) w
  have hmkL : ∀ w, (Instr.makeSlice 26 (.int .i64 (m : Int)) (.int .i64 (m : Int))).run Try.prog w = .ok (.slice (some ⟨w.heap.size, 0, none⟩) m m) (w.alloc (.cells (zrow (.int .u8 0) m) 63)) := fun w => run_make_elt eltEl _ _ m (by omega) w
  clear hn hl hk hr hB ha
  go_enter Try.func173, Try.ntmps173
  go_wp2_with fail
  refine (fault_n A n c m rs _ HN.out HR.out HL.out hn2 hm).mono ?_
  rintro e w' ⟨rfl, rfl⟩
  go_wp2_with fail
  clear hmk
  go_loopw [7, 24] (fun v i wr => ∃ (q : Nat) (v' : Value) (V : List Value), v' = v ∧ q ≤ k ∧ i = .int .i64 q ∧ Gath w wr v' V (rowsAt (at_.take q) rs)) (fun _ i _ => k - (intOf i).toNat)
  case atStart => exact ⟨0, _, [], rfl, by omega, rfl, (Ext.refl w).alloc _, rfl, (Blk.new w 26 (zrow (.slice none 0 0) k)).own (n := 0) (Nat.le_refl _) (Nat.zero_le _) (by unfold maxLen; omega) (zrow_size _ _), fun i u h => by simp at h⟩
  case round =>
    obtain ⟨W, rfl⟩ : ∃ W, W = wr := ⟨_, rfl⟩
    obtain ⟨q, v, V, rfl, hq, rfl, hC⟩ := hrel
    by_cases hlt : q < k
    · have hqa : q < at_.length := by rw [HK.out]; exact hlt
      obtain ⟨i, hi⟩ : ∃ i, i = at_[q] := ⟨_, rfl⟩
      have hin : i < n := by rw [hi]; exact HA.out _ (List.getElem_mem hqa)
      obtain ⟨bd, rfl, hcb⟩ := (HB.out.ext hC.ext).at_ (k := q) (u := .int .i64 (i : Int)) (by rw [ints_at, List.getElem?_eq_getElem hqa, hi]; rfl)
      have hir : i < rs.length := by rw [HN.out]; exact hin
      obtain ⟨ad, D1, e1, rfl, hz2, hr2, -, -⟩ := (HR.out.ext hC.ext).at_ hir
      rw [HL.out _ (List.getElem_mem _)] at hz2
      have hiN : (i : Int) < (n : Int) := by omega
      have hxa : Ext W (W.alloc (.cells (zrow (.int .u8 0) m) 63)) := (Ext.refl W).alloc _
      have p2 : (W.alloc (.cells (zrow (.int .u8 0) m) 63)).cell? (ad.add i) = some (.slice D1 m e1) := hxa.cell (World.block_lt_of_cell? _ _ hz2) ▸ hz2
      obtain ⟨row, hrow⟩ : ∃ r, r = rs[i] := ⟨_, rfl⟩
      rw [← hrow] at hr2
      have HRL : Hid (row.length = m) := Lib.hid (by rw [hrow]; exact HL.out _ (List.getElem_mem _))
      have HSN : Hid (rowsAt (at_.take (q + 1)) rs = rowsAt (at_.take q) rs ++ [row]) := Lib.hid (by
        rw [take_snoc' _ q hqa, rowsAt, List.map_append, rowsAt]
        simp only [List.map_cons, List.map_nil]
        rw [← hi, List.getD_eq_getElem?_getD, List.getElem?_eq_getElem hir, hrow]; rfl)
      have HR2 := Lib.hid (hr2.ext hxa)
      have HC := Lib.hid hC
      obtain ⟨Av, nv, cv, rfl⟩ : ∃ A n c, v = Value.slice A n c := by obtain ⟨A, c, h⟩ := hC.list.anySlice; exact ⟨_, _, _, h⟩
      clear hr2 hC hrow hi
      go_wp2_with (with_reducible refine wpList_copyPad eltEl rfl _ _ rfl W.heap.size m m 63 (Blk.new _ _ _) rfl D1 m e1 row rfl HR2.out HRL.out W.heap.size W (Below.alloc (Below.refl _ _) (Nat.le_refl _) _) (Nat.le_refl _) (by simp only [maxLen]; omega) ?_)
      intro w1 kk ho hbl
      rw [padR_same HRL.out] at ho
      have hx1 : Ext W w1 := hbl
      have hV1 := HC.out.list.ext hx1
      have hle1 : w.heap.size ≤ w1.heap.size := (HC.out.ext.trans hx1).le
      have hbd2 : (V.length + 1) * 24 ≤ 140737488355328 := by rw [HC.out.len, rowsAt_length, List.length_take]; omega
      have HO := Lib.hid ho
      have HX := Lib.hid hx1
      clear ho hbl hx1 p2 hz2 hxa
      go_wp2_with (at_builtin; refine wpList_push2 w1 eltRowEl rfl _ _ (by rfl) w.heap.size (.slice Av nv cv) _ (by rfl) (by exact hV1) (.slice (some ⟨W.heap.size, 0, none⟩) m m) w1.heap.size rfl (by rfl) rfl hbd2 hle1 ?_)
      intro v2 w3 k1 k2 k3 k4
      have HP : Hid (Gath w w3 v2 (V ++ [.slice (some ⟨W.heap.size, 0, none⟩) m m]) (rowsAt (at_.take (q + 1)) rs)) := Lib.hid (by
        rw [HSN.out]
        exact HC.out.push HX.out (HO.out.mono HC.out.ext.le) k1 k2 k3)
      clear k1 k2 k3 k4 hV1 hle1 hbd2
      go_wp2_with fail
      go_roundw
      case rel => exact ⟨q + 1, v2, _, rfl, by omega, by go_num, HP.out⟩
      case measure => simp [intOf]; omega
    · obtain rfl : q = k := by omega
      rw [List.take_of_length_le (by rw [HK.out]; exact Nat.le_refl _)] at hC
      obtain ⟨A', c', rfl, h1⟩ := hC.rd
      rw [rowsAt_length, HK.out]
      have HF := Lib.hid (And.intro h1 hC.ext)
      clear h1 hC
      go_wp2_with fail
      go_ret2
      exact ⟨⟨A', c', rfl, HF.out.1⟩, HF.out.2⟩
end Go.Proofs.Ytdoeelfcihdmbaa
/-
  Layer 3: a multiple of a row is taken from another one.
-/
namespace Go.Proofs.Ytdoeelfcihdmbaa
open Go.RowKit Gf
set_option maxRecDepth 20000
set_option linter.unusedVariables false

theorem meth_times (d : Nat) (v : Value) (w : World) (hd : d = Try.prog.types.size + Made.depth) : (method d 63 v "Times").run Try.prog w = .ok (68, v) w := by subst hd; kernel_rfl
theorem meth_plus (d : Nat) (v : Value) (w : World) (hd : d = Try.prog.types.size + Made.depth) : (method d 63 v "Plus").run Try.prog w = .ok (67, v) w := by subst hd; kernel_rfl
/-- A row while it is written over. -/
structure AddF (w wr : World) (B g U c : Nat) (l : List E) : Prop where
  touch : Touch (fun b => b = g) w wr
  own : Own wr B 63 (.slice (some ⟨g, 0, none⟩) U c) (bs l)
theorem AddF.set {w wr : World} {B g U c : Nat} {l : List E} (h : AddF w wr B g U c l) (j : Nat) (x : E) : AddF w (wr.setCell ⟨g, j, none⟩ (.int .u8 (x.val : Int))) B g U c (l.set j x) :=
  ⟨h.touch.trans (touch_set wr ⟨g, j, none⟩ _ rfl), by
    have := h.own.set j (.int .u8 (x.val : Int))
    rwa [show (bs l).set j (.int .u8 (x.val : Int)) = bs (l.set j x) from by rw [bs, bs, List.map_set]; rfl] at this⟩
theorem AddF.ext {w wr w2 : World} {B g U c : Nat} {l : List E} (h : AddF w wr B g U c l) (hx : Ext wr w2) : AddF w w2 B g U c l := ⟨h.touch.ext hx, h.own.ext hx⟩
set_option maxHeartbeats 4000000 in
theorem without_n (g g2 U cr c2 B : Nat) (xs ys : List E) (f : E) (w : World) (hx : xs.length = U) (hy : ys.length = U) (ho : Own w B 63 (.slice (some ⟨g, 0, none⟩) U cr) (bs xs)) (hr : Rd w (some ⟨g2, 0, none⟩) (bs ys)) (hg : g2 ≠ g) (hU : U ≤ 1000000) :
    Calls Try.prog 200 #[.slice (some ⟨g, 0, none⟩) U cr, .slice (some ⟨g2, 0, none⟩) U c2, .int .u8 (f.val : Int)] w fun e w' => e = .returned (.tuple #[]) ∧ AddF w w' B g U cr (elimR f xs ys) := by
  have hmo : Try.prog.follows Departure.mixedOrders = true := by kernel_rfl
  have HX := Lib.hid hx
  have HY := Lib.hid hy
  have HR := Lib.hid hr
  have H0 : Hid (AddF w w B g U cr xs) := Lib.hid ⟨Touch.refl _, ho⟩
  have HLL : Hid ((elimR f xs ys).length = xs.length) := Lib.hid (elimR_length (by rw [hx, hy]))
  have hfl := f.lt
  clear hx hy ho hr
  by_cases hf0 : f = 0
  · have HZ := Lib.hid (isZero_yes hf0)
    have HP : Hid (AddF w w B g U cr (elimR f xs ys)) := Lib.hid (by rw [hf0, elimR_zero (by rw [HX.out, HY.out])]; exact H0.out)
    clear hf0
    go_enter Try.func200, Try.ntmps200
    go_wp2_with (go_at_call 95; with_reducible refine (HZ.out _).mono ?_; rintro e w' ⟨rfl, rfl⟩)
    refine bodyPost_ret (results_none rfl _ _ _) rfl ?_
    exact ⟨rfl, HP.out⟩
  · have HZ := Lib.hid (isZero_no hf0)
    clear hf0
    go_enter Try.func200, Try.ntmps200
    go_wp2_with (go_at_call 95; with_reducible refine (HZ.out _).mono ?_; rintro e w' ⟨rfl, rfl⟩)
    go_loopw [12] (fun i wr => ∃ j : Nat, j ≤ U ∧ i = .int .i64 j ∧ AddF w wr B g U cr (mixL (elimR f xs ys) xs j)) (fun i _ => U - (intOf i).toNat)
    case atStart => exact ⟨0, by omega, rfl, by rw [mixL_zero]; exact H0.out⟩
    case round =>
      clear H0
      obtain ⟨W, rfl⟩ : ∃ W, W = wr := ⟨_, rfl⟩
      obtain ⟨j, hj, rfl, had⟩ := hrel
      by_cases hlt : j < U
      · have hjx : j < xs.length := by rw [HX.out]; exact hlt
        have hjy : j < ys.length := by rw [HY.out]; exact hlt
        obtain ⟨W0, hW0⟩ : ∃ W0, W0 = W.drew := ⟨_, rfl⟩
        have had0 : AddF w W0 B g U cr (mixL (elimR f xs ys) xs j) := by rw [hW0]; exact had.ext ((Ext.refl W).drewN 1)
        have hc1 := (HR.out.touch had0.touch (fun ad h => by cases h; exact hg)).byte hjy
        obtain ⟨ad, e, hc1⟩ := hc1
        cases e
        rw [add_plain] at hc1
        have hc2 := had0.own.cell (bs_get _ j (by rw [mixL_length HLL.out]; exact hjx))
        rw [mixL_get HLL.out hjx] at hc2
        have e1 : Hid (xs[j] + f * ys[j] = (elimR f xs ys)[j]'(by rw [HLL.out]; exact hjx)) := Lib.hid (by rw [elimR_get (by rw [HX.out, HY.out]) hjx])
        have f1 := had0.own.frozen j
        have hst := had0.set j (xs[j] + f * ys[j])
        rw [e1.out, mixL_set HLL.out hjx, ← e1.out] at hst
        obtain ⟨yv, hyv⟩ : ∃ y, y = ys[j] := ⟨_, rfl⟩
        obtain ⟨xv, hxv⟩ : ∃ y, y = xs[j] := ⟨_, rfl⟩
        rw [← hyv] at hc1 hst
        rw [← hxv] at hc2 hst
        have hl1 := xv.lt
        have hl2 := yv.lt
        have hjU : (j : Int) < (U : Int) := by omega
        have HP := Lib.hid hst
        clear had had0 hyv hxv hst e1
        go_wp2_with fail
        refine wp_region_mix (fun i => [3, 3, 3, 3, 3, 0, 3, 3, 3, 3, 0, 3, 3, 1, 1, 3, 2].getD i 0) (fun w' => w' = W0) hmo (by kernel_rfl) (by kernel_rfl) hW0.symm ?_
        rw [← hW0]
        clear hW0
        refine mix_pure (.slice (some ⟨g, 0, none⟩) U cr) rfl (fun w' => by go_simp) ?_
        refine mix_pure (.int .i64 (j : Int)) rfl (fun w' => by go_simp) ?_
        refine mix_pure (.slice (some ⟨g, 0, none⟩) U cr) rfl (fun w' => by go_simp) ?_
        refine mix_pure (.int .i64 (j : Int)) rfl (fun w' => by go_simp) ?_
        refine mix_pure (.pointer (some ⟨g, j, none⟩)) rfl (fun w' => by go_simp) ?_
        refine mix_still (.int .u8 (xv.val : Int)) rfl (fun w' hw' => by subst hw'; go_simp) ?_
        refine mix_pure (.iface 63 (.int .u8 (xv.val : Int))) rfl (fun w' => by go_simp) ?_
        refine mix_pure (.slice (some ⟨g2, 0, none⟩) U c2) rfl (fun w' => by go_simp) ?_
        refine mix_pure (.int .i64 (j : Int)) rfl (fun w' => by go_simp) ?_
        refine mix_pure (.pointer (some ⟨g2, j, none⟩)) rfl (fun w' => by go_simp) ?_
        refine mix_still (.int .u8 (yv.val : Int)) rfl (fun w' hw' => by subst hw'; go_simp) ?_
        refine mix_pure (.iface 63 (.int .u8 (yv.val : Int))) rfl (fun w' => by go_simp) ?_
        refine mix_pure (.int .u8 (f.val : Int)) rfl (fun w' => by go_simp) ?_
        refine mix_call 68 #[.int .u8 (yv.val : Int), .int .u8 (f.val : Int)] rfl (by go_simp; rw [meth_times]; all_goals rfl) ?_
        refine (times_any yv f _).mono ?_
        rintro e w5 ⟨rfl, hw⟩
        subst hw
        refine ⟨_, rfl, rfl, ?_⟩
        refine mix_call 67 #[.int .u8 (xv.val : Int), .int .u8 ((yv * f).val : Int)] rfl (by go_simp; rw [meth_plus]; all_goals rfl) ?_
        refine (plus_any xv (yv * f) _).mono ?_
        rintro e w5 ⟨rfl, hw⟩
        subst hw
        refine ⟨_, rfl, rfl, ?_⟩
        rw [E.mul_comm yv f]
        refine mix_pure (.pointer (some ⟨g, j, none⟩)) rfl (fun w' => by go_simp) ?_
        obtain ⟨WF, hWF⟩ : ∃ WF, WF = W0.setCell ⟨g, j, none⟩ (.int .u8 ((xv + f * yv).val : Int)) := ⟨_, rfl⟩
        refine mix_store WF rfl (by rw [hWF]; go_simp) ?_
        rw [← hWF] at HP
        clear hWF hc1 hc2 f1
        refine mix_nil ?_
        go_simp
        go_wp2_with fail
        go_roundw
        case rel => exact ⟨j + 1, by omega, by go_num, HP.out⟩
        case measure => simp [intOf]; omega
      · obtain rfl : U = j := by omega
        have HP : Hid (AddF w W B g U cr (elimR f xs ys)) := Lib.hid (by
          have := mixL_all HLL.out
          rw [HX.out] at this
          rw [← this]; exact had)
        clear had
        go_wp2_with fail
        refine bodyPost_end (results_none rfl _ _ _) rfl ?_
        exact ⟨rfl, HP.out⟩
end Go.Proofs.Ytdoeelfcihdmbaa
