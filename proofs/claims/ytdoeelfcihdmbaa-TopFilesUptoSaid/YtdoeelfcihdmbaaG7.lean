/-
  Texts of mine, merged: FrmQ FrmR RefA RefB RefC RefD RefE Free.
-/
import Derived.Test.YtdoeelfcihdmbaaG2
import Derived.Test.YtdoeelfcihdmbaaG6
/-
  Layer 8: the frames of a shard, one after the other; Parse.
-/
namespace Go.Proofs.Ytdoeelfcihdmbaa
open Go.RowKit Gf
set_option maxRecDepth 20000
set_option linter.unusedVariables false

theorem cutA_lt {A : Option Addr} {c l m : Nat} (h : ∀ ad, A = some ad → ad.block < m) : ∀ ad, cutA A c l = some ad → ad.block < m := fun ad e => by
  obtain ⟨a0, h1, h2⟩ := cutA_block e
  rw [← h2]; exact h a0 h1
theorem sum4_drop (l : List Nat) (j : Nat) (h : j < l.length) : sum4 (l.drop j) = l[j] + 4 + sum4 (l.drop (j + 1)) := by
  rw [List.drop_eq_getElem_cons h]; simp only [sum4, List.map_cons, List.sum_cons]
theorem sum4_split (l : List Nat) (j : Nat) : sum4 (l.take j) + sum4 (l.drop j) = sum4 l := by
  conv => rhs; rw [← List.take_append_drop j l]
  simp only [sum4, List.map_append, List.sum_append]
set_option maxHeartbeats 16000000 in
theorem blocks_n (w0 : World) (gr gs : Nat) (h : HeadP) (sum : Nat) (A : Option Addr) (n c : Nat) (b : List E) (w : World) (ho : okHead h) (hp : Prs w0 w gr gs h true []) (hn : b.length = n) (hA : Rd w0 A (bs b)) (hAb : ∀ ad, A = some ad → ad.block < w0.heap.size) (hc : n ≤ c) (hlen : n ≤ 100000000000) (hsum : sum < 2 ^ 32)
    (hL : n = 40 + h.key.length + sum4 (sizesP h.k h.blk h.size)) :
    Calls Try.prog 113 #[.agg (headC h), .int .u32 (sum : Int), .slice A n c, .func (.func 114) #[] #[.pointer (some ⟨gr, 0, none⟩), .pointer (some ⟨gs, 0, none⟩)]] w fun e w' =>
      e = .returned (.tuple #[]) ∧ Prs w0 w' gr gs h (okF sum 0 (sizesP h.k h.blk h.size) (b.drop (40 + h.key.length))) (piecesF (sizesP h.k h.blk h.size) (b.drop (40 + h.key.length))) := by
  obtain ⟨ns, hns⟩ : ∃ ns, ns = sizesP h.k h.blk h.size := ⟨_, rfl⟩
  obtain ⟨kl, hkl⟩ : ∃ kl, kl = h.key.length := ⟨_, rfl⟩
  have hkb : kl ≤ 255 := by rw [hkl]; exact ho.2.2.1
  have hb : Blk (w.alloc (.cells (headC h) 43)) w.heap.size 43 (headC h) := Blk.new _ _ _
  have HB := Lib.hid hb
  have HP0 := Lib.hid (hp.beyond ((Ext.refl w).alloc (.cells (headC h) 43)))
  have i11 : (headC h)[11]? = some (.string (strB h.key)) := rfl
  have i12 : (headC h)[12]? = some (.int .i64 (h.size : Int)) := rfl
  have hsz := strB_size h.key
  rw [← hkl] at hsz
  have HARM := Lib.hid (hb.sub 8 (shapeC h) (shape_in h))
  have HO := Lib.hid ho
  have HN := Lib.hid hn
  have HA := Lib.hid hA
  have HAB := Lib.hid hAb
  rw [← hns, ← hkl] at hL
  have HL := Lib.hid hL
  have hlb : 40 + kl ≤ n := by omega
  rw [← hns, ← hkl]
  have hs40 := fun w => slice_l tyU8 oneU8 A n c (40 + kl) .i64 (36 + (kl : Int) + 4) (by omega) hlb hc w
  obtain ⟨A0, hA0⟩ : ∃ A0, A0 = cutA A c (40 + kl) := ⟨_, rfl⟩
  rw [← hA0] at hs40
  have HR0 : Hid (Rd w0 A0 (bs (b.drop (40 + kl + sum4 (ns.take 0))))) := Lib.hid (by
    rw [hA0, bs_drop]
    simpa [sum4] using hA.cutA (c := c) (l := 40 + kl) (by rw [bs_length, hn]; exact hlb) (by rw [bs_length, hn]; exact hc))
  have HAB0 : Hid (∀ ad, A0 = some ad → ad.block < w0.heap.size) := Lib.hid (by rw [hA0]; exact cutA_lt hAb)
  have HNS := Lib.hid hns
  obtain ⟨bb, hbb⟩ : ∃ bb, bb = b.drop (40 + kl) := ⟨_, rfl⟩
  have HBB := Lib.hid hbb
  have hbl : bb.length = sum4 ns := by have := HL.out; rw [hbb, List.length_drop, HN.out]; omega
  have HBL := Lib.hid hbl
  rw [← hbb]
  have HR00 : Hid (Rd w0 A0 (bs (bb.drop (sum4 (ns.take 0))))) := Lib.hid (by have := HR0.out; rw [hbb, List.drop_drop]; exact this)
  clear ho hp hn hA hAb hL hb hA0 hns hkl hbb hbl HR0
  go_enter Try.func113, Try.ntmps113
  go_wp2_with (refine wpList_load_at rfl 39 _ rfl ⟨w.heap.size, 8, none⟩ rfl (shapeC h) _ HARM.out Try.underlying39 rfl (by kernel_rfl) ?_)
  refine (lengths_n h.k h.m h.blk h.size _ HO.out.1 HO.out.size_).mono ?_
  rintro e w1 ⟨v, rfl, how, hx⟩
  obtain ⟨A5, c5, rfl, hr5, hc1, hc2, -⟩ := how.slice
  obtain ⟨q, hq⟩ : ∃ q, q = ns.length := ⟨_, rfl⟩
  have hql : q ≤ 4096 := by rw [hq, HNS.out, sizesP_length]; exact HO.out.2.2.2.2.1
  rw [← HNS.out] at hr5 hc1 ⊢
  rw [ints_length, ← hq] at hc1 ⊢
  have hm5 : w.heap.size ≤ w1.heap.size := by have := hx.le; simp at this; omega
  have HQ := Lib.hid hq
  have HP1 := Lib.hid (HP0.out.beyond hx)
  have how5 : Own w1 w0.heap.size 3 (.slice A5 q c5) (ints ns) := by
    rw [← HNS.out] at how
    rw [ints_length, ← hq] at how
    exact how.mono (by have := HP0.out.ext.le; exact this)
  have HOW := Lib.hid how5
  clear how how5 hr5 hx hq i11 i12 hsz hs40 hc2 HB HARM HP0
  go_wp2_with fail
  have hn0 : n - (40 + kl) = sum4 (ns.drop 0) := by have := HL.out; rw [List.drop_zero]; omega
  rw [hn0]
  have hc0 : sum4 (ns.drop 0) ≤ c - (40 + kl) := by omega
  have hc0b : sum4 (ns.drop 0) ≤ 100000000000 := by omega
  clear hn0
  go_loopw [8, 25] (fun r i wr => ∃ (j : Nat) (A' : Option Addr) (n' c' : Nat), j ≤ q ∧ i = .int .i64 j ∧ r = .slice A' n' c' ∧ Rd w0 A' (bs (bb.drop (sum4 (ns.take j)))) ∧ (∀ ad, A' = some ad → ad.block < w0.heap.size) ∧ n' = sum4 (ns.drop j) ∧ n' ≤ c' ∧ n' ≤ 100000000000 ∧
    Prs w0 wr gr gs h (okF sum 0 (ns.take j) bb) (piecesF (ns.take j) bb) ∧ Own wr w0.heap.size 3 (.slice A5 q c5) (ints ns)) (fun _ i _ => q - (intOf i).toNat)
  case atStart => exact ⟨0, A0, _, _, by omega, rfl, rfl, HR00.out, HAB0.out, rfl, hc0, hc0b, HP1.out, HOW.out⟩
  case round =>
    clear HR00 HAB0 HP1 HOW
    obtain ⟨W, rfl⟩ : ∃ W, W = wr := ⟨_, rfl⟩
    obtain ⟨j, A', n', c', hj, rfl, rfl, hr, hab, hn', hc', hcb, hp, how⟩ := hrel
    by_cases hlt : j < q
    · have hjn : j < ns.length := by rw [← HQ.out]; exact hlt
      obtain ⟨x, hx⟩ : ∃ x, x = ns[j] := ⟨_, rfl⟩
      obtain ⟨ad5, rfl, hc5⟩ := how.rd.at_ (k := j) (u := .int .i64 (x : Int)) (by rw [ints_at, List.getElem?_eq_getElem hjn, hx]; rfl)
      obtain ⟨rest, hrest⟩ : ∃ r, r = bb.drop (sum4 (ns.take j)) := ⟨_, rfl⟩
      have hsp := sum4_split ns j
      have hsd := sum4_drop ns j hjn
      rw [← hx] at hsd
      have hrl : rest.length = n' := by rw [hrest, List.length_drop, HBL.out, hn']; omega
      rw [← hrest] at hr
      have hxn : x + 4 ≤ n' := by omega
      have hxb : x ≤ 65536 := by rw [hx]; exact Nat.le_trans (sizesP_le (k := h.k) (blk := h.blk) (size := h.size) (by have := HO.out.1.1; have := HO.out.1.2.1; omega) _ (by rw [← HNS.out]; exact List.getElem_mem hjn)) HO.out.1.2.2.2.2
      obtain ⟨blk, hblk⟩ : ∃ blk, blk = rest.take x := ⟨_, rfl⟩
      obtain ⟨tl, htl⟩ : ∃ tl, tl = (rest.drop x).take 4 := ⟨_, rfl⟩
      have hs1 := fun w => slice_h tyU8 oneU8 A' n' c' x .i64 (x : Int) rfl (by omega) w
      have hs2 := fun w => slice_lh tyU8 oneU8 A' n' c' x (x + 4) .i64 .i64 (x : Int) ((x : Int) + 4) rfl (by omega) (by omega) (by omega) w
      have hs3 := fun w => slice_l tyU8 oneU8 A' n' c' (x + 4) .i64 ((x : Int) + 4) (by omega) (by omega) (by omega) w
      obtain ⟨A2, hA2⟩ : ∃ A2, A2 = cutA A' c' x := ⟨_, rfl⟩
      obtain ⟨A3, hA3⟩ : ∃ A3, A3 = cutA A' c' (x + 4) := ⟨_, rfl⟩
      rw [← hA2, show x + 4 - x = 4 by omega] at hs2
      rw [← hA3] at hs3
      have HR1 : Hid (Rd w0 A' (bs blk)) := Lib.hid (by rw [hblk, bs_take]; exact hr.take x)
      have HR2 : Hid (Rd w0 A2 (bs tl)) := Lib.hid (by rw [hA2, htl, bs_take, bs_drop]; exact hr.piece (by rw [bs_length, hrl]; omega) (by rw [bs_length, hrl]; exact hc'))
      have HR3 : Hid (Rd w0 A3 (bs (bb.drop (sum4 (ns.take (j + 1)))))) := Lib.hid (by
        have e : bb.drop (sum4 (ns.take (j + 1))) = rest.drop (x + 4) := by
          rw [hrest, List.drop_drop, take_snoc' _ j hjn, sum4_snoc, ← hx]
        rw [hA3, e, bs_drop]
        exact hr.cutA (by rw [bs_length, hrl]; omega) (by rw [bs_length, hrl]; exact hc'))
      have HAB3 : Hid (∀ ad, A3 = some ad → ad.block < w0.heap.size) := Lib.hid (by rw [hA3]; exact cutA_lt hab)
      have HAB1 := Lib.hid hab
      have hbll : blk.length = x := by rw [hblk, List.length_take, hrl]; omega
      have htll : tl.length = 4 := by rw [htl, List.length_take, List.length_drop, hrl]; omega
      have HBLL := Lib.hid hbll
      have HTLL := Lib.hid htll
      have HP := Lib.hid hp
      have HOW := Lib.hid how
      have HOK : Hid (okF sum 0 (ns.take (j + 1)) bb = (okF sum 0 (ns.take j) bb && decide (fld tl 0 4 = frameSum sum j blk))) := Lib.hid (by
        rw [take_snoc' _ j hjn, okF_snoc, List.length_take, Nat.min_eq_left (by omega), Nat.zero_add, ← hx, ← hrest, ← hblk]
        have : fld rest x 4 = fld tl 0 4 := by rw [htl, fld, fld, List.drop_zero, List.take_take, Nat.min_self]
        rw [this])
      have HPC : Hid (piecesF (ns.take (j + 1)) bb = piecesF (ns.take j) bb ++ [blk]) := Lib.hid (by rw [take_snoc' _ j hjn, piecesF_snoc, ← hx, ← hrest, ← hblk])
      have HN' : Hid (n' - (x + 4) = sum4 (ns.drop (j + 1))) := Lib.hid (by omega)
      have g1 : ¬ ((n' : Int) < (x : Int) + 4) := by omega
      have hjq : (j : Int) < (q : Int) := by omega
      clear hx hrest hblk htl hA2 hA3 hr hab hp how hsp hsd hn' hrl hbll htll
      go_wp2_with fail
      refine (open_n A2 4 (c' - x) tl _ HTLL.out (HR2.out.ext HP.out.ext) (by omega)).mono ?_
      rintro e w2 ⟨g, rfl, hr2, hx2, hg2⟩
      have HR22 := Lib.hid hr2
      have HX2 := Lib.hid hx2
      have HG2 := Lib.hid hg2
      clear hr2 hx2 hg2
      go_wp2_with fail
      refine (take4_n g 0 tl _ HR22.out (by rw [HTLL.out]; decide)).mono ?_
      rintro e w3 ⟨rfl, -, ht3⟩
      obtain ⟨sm, hsm⟩ : ∃ x, x = fld tl 0 4 := ⟨_, rfl⟩
      have HSM := Lib.hid hsm
      have hsml : sm < 4294967296 := by rw [hsm]; exact fld_lt _ _ _
      have HX3 := Lib.hid (ht3.extNew HX2.out HG2.out)
      rw [← hsm]
      clear hsm ht3 HR22 HX2 HG2
      go_wp2_with fail
      refine (ownSum_n sum j A' x c' blk _ hsum (by omega) HBLL.out (HR1.out.ext (HP.out.ext.trans HX3.out)) (by omega)).mono ?_
      rintro e w4 ⟨rfl, hx4⟩
      obtain ⟨fs, hfs⟩ : ∃ fs, fs = frameSum sum j blk := ⟨_, rfl⟩
      have HFS := Lib.hid hfs
      have HX4 := Lib.hid (HX3.out.trans hx4)
      rw [← hfs]
      clear hfs hx4 HX3
      obtain ⟨wb, hwb⟩ : ∃ wb, wb = decide (sm = fs) := ⟨_, rfl⟩
      have g2 : ((sm : Int) == (fs : Int)) = wb := by
        rw [hwb, Bool.eq_iff_iff]; simp; omega
      have HWB : Hid (wb = decide (fld tl 0 4 = frameSum sum j blk)) := Lib.hid (by rw [hwb, HSM.out, HFS.out])
      clear hwb
      go_wp2_with fail
      refine (each_n w0 gr gs j h _ wb _ A' x c' blk _ (HP.out.beyond HX4.out) (by rw [piecesF_length, List.length_take]; omega) HBLL.out (HR1.out.ext (HP.out.ext.trans HX4.out)) HAB1.out (by omega)).mono ?_
      rintro e w5 ⟨rfl, hp5, hk5⟩
      have HP5 : Hid (Prs w0 w5 gr gs h (okF sum 0 (ns.take (j + 1)) bb) (piecesF (ns.take (j + 1)) bb)) := Lib.hid (by
        rw [HOK.out, HPC.out, ← HWB.out]; exact hp5)
      have HOW5 := Lib.hid (hk5 _ _ _ (HOW.out.ext HX4.out))
      clear hp5 hk5 HP HOW HX4 g2 hc5
      go_wp2_with fail
      rw [HN'.out]
      go_roundw
      case rel => ((repeat apply Exists.intro); exact ⟨⟨j + 1, A3, _, _, by omega, by go_num, rfl, HR3.out, HAB3.out, rfl, by rw [← HN'.out]; omega, by rw [← HN'.out]; omega, HP5.out, HOW5.out⟩, rfl⟩)
      case measure => simp [intOf]; omega
    · obtain rfl : q = j := by omega
      have HF : Hid (Prs w0 W gr gs h (okF sum 0 ns bb) (piecesF ns bb)) := Lib.hid (by
        rw [List.take_of_length_le (by rw [HQ.out]; exact Nat.le_refl _)] at hp
        exact hp)
      clear hp how hr hab
      go_wp2_with fail
      refine bodyPost_end (results_none rfl _ _ _) rfl ?_
      exact ⟨rfl, HF.out⟩
end Go.Proofs.Ytdoeelfcihdmbaa
/-
  Layer 8: Parse.
-/
namespace Go.Proofs.Ytdoeelfcihdmbaa
open Go.RowKit Gf
set_option maxRecDepth 20000
set_option linter.unusedVariables false

theorem framesP_len (sum : Nat) : ∀ (ns : List Nat) (j : Nat) (b : List E) (l : List (List E)), framesP sum j ns b = some l → b.length = sum4 ns
  | [], j, b, l, h => by
    rw [framesP] at h
    by_cases e : b.length = 0
    · rw [e]; rfl
    · rw [if_neg e] at h; cases h
  | n :: ns, j, b, l, h => by
    rw [framesP] at h
    by_cases e : b.length < n + 4
    · rw [if_pos e] at h; cases h
    · rw [if_neg e] at h
      by_cases e2 : fld b n 4 ≠ frameSum sum j (b.take n)
      · rw [if_pos e2] at h; cases h
      · rw [if_neg e2] at h
        obtain ⟨l', h1, h2⟩ := Option.map_eq_some_iff.1 h
        have := framesP_len sum ns (j + 1) _ _ h1
        rw [List.length_drop] at this
        have hs : sum4 (n :: ns) = n + 4 + sum4 ns := by simp [sum4]
        omega
theorem parseHead_some {b : List E} {h : HeadP} (e : parseHeadP b = some h) : okHead h ∧ h = headOfP b ∧ 36 ≤ b.length ∧ 40 + h.key.length ≤ b.length ∧ h.store.length = 8 := by
  unfold parseHeadP at e
  by_cases h1 : b.length < 36
  · rw [if_pos h1] at e; cases e
  rw [if_neg h1] at e
  by_cases h2 : b.take 4 ≠ magicP
  · rw [if_pos h2] at e; cases e
  rw [if_neg h2] at e
  by_cases h3 : fld b 32 4 ≠ crcS (b.take 32)
  · rw [if_pos h3] at e; cases e
  rw [if_neg h3] at e
  by_cases h4 : b.length < 40 + fld b 31 1
  · rw [if_pos h4] at e; cases e
  rw [if_neg h4] at e
  by_cases h5 : fld b (36 + fld b 31 1) 4 ≠ crcS (b.take 32 ++ (b.drop 36).take (fld b 31 1))
  · rw [if_pos h5] at e; cases e
  rw [if_neg h5] at e
  by_cases h6 : okHead (headOfP b)
  · rw [if_pos h6] at e
    injection e with e
    subst e
    refine ⟨h6, rfl, by omega, ?_, ?_⟩
    · show 40 + ((b.drop 36).take (fld b 31 1)).length ≤ _
      rw [List.length_take, List.length_drop]; omega
    · show ((b.drop 4).take 8).length = 8
      rw [List.length_take, List.length_drop]; omega
  · rw [if_neg h6] at e; cases e
theorem parseP_no {b : List E} (h : parseHeadP b = none) : parseP b = none := by rw [parseP, h]; rfl
theorem parseP_yes {b : List E} {h : HeadP} (e : parseHeadP b = some h) (hl : b.length = lenP h) : parseP b = if okF (crcS (b.take 32 ++ h.key)) 0 (sizesP h.k h.blk h.size) (b.drop (40 + h.key.length)) = true then some (h, piecesF (sizesP h.k h.blk h.size) (b.drop (40 + h.key.length))) else none := by
  rw [parseP, e, Option.bind_some, framesP_eq _ _ _ _ (by rw [List.length_drop, hl, lenP]; show 40 + h.key.length + sum4 _ - _ = _; omega)]
  split <;> rfl
theorem parseP_len {b : List E} {h : HeadP} (e : parseHeadP b = some h) (hl : b.length ≠ lenP h) : parseP b = none := by
  rw [parseP, e, Option.bind_some]
  cases hf : framesP (crcS (b.take 32 ++ h.key)) 0 (sizesP h.k h.blk h.size) (b.drop (40 + h.key.length)) with
  | none => rfl
  | some l =>
    exfalso
    have h1 := framesP_len _ _ _ _ _ hf
    obtain ⟨-, -, -, h2, -⟩ := parseHead_some e
    rw [List.length_drop] at h1
    apply hl
    rw [lenP]
    show _ = 40 + h.key.length + sum4 _
    omega
/-- What Parse answers. -/
def ParseOut (b : List E) (w : World) (e : Ending) (w' : World) : Prop :=
  ((∃ h bls v, parseP b = some (h, bls) ∧ e = .returned (.tuple #[.agg (shardC h v), .int .i64 0]) ∧ Rows8 w.heap.size w' v bls) ∨
    (parseP b = none ∧ ∃ z : Int, z ≠ 0 ∧ e = .returned (.tuple #[.agg (shardC zeroH (.slice none 0 0)), .int .i64 z]))) ∧ Ext w w'
theorem shardC_ones (h : HeadP) {v : Value} (hv : v.oneCell' = true) : (shardC h v).all (·.oneCell') = true := by simpa [shardC, bv, Value.oneCell'] using hv
theorem zeroS_fill (cs : Array Value) (h : cs.size = 17) (hd : HeadP) (v : Value) : seg cs 0 (shardC hd v).toList = shardC hd v := seg_all cs (shardC hd v) (by rw [h]; rfl)
section
variable {P : Program}
theorem wpList_build_to {ops : Array Oper} {rest : List Oper} {o : Oper} {a : Act} {w : World} {Q : Exit → Act → World → Prop} (hg : o.guard = none) (t : TypeId) (parts : Array (Nat × Operand)) (ho : o.op = .build t parts) (cs : Array Value)
    (hf : P.built t (parts.map fun (i, x) => (i, a.eval x)).toList = some cs)
    (h : wpList P ops Q rest (a.put o.dst (.agg cs)) w) : wpList P ops Q (o :: rest) a w :=
  wpList_build hg t parts ho (by rw [hf]; rfl) (by rw [hf]; exact h)
end
theorem built_shard (h : HeadP) : Try.prog.built 50 [(0, .agg (headC h))] = some (shardC h (.slice none 0 0)) := by kernel_rfl
set_option maxHeartbeats 8000000 in
theorem parse_n (A : Option Addr) (n c : Nat) (b : List E) (w : World) (hn : b.length = n) (hA : Rd w A (bs b)) (hAb : ∀ ad, A = some ad → ad.block < w.heap.size) (hc : n ≤ c) (hlen : n ≤ 100000000000) :
    Calls Try.prog 38 #[.slice A n c] w (ParseOut b w) := by
  have hmf := make_func
  have HN := Lib.hid hn
  have HA := Lib.hid hA
  have hb0 : Blk (w.alloc (.cells (shardC zeroH (.slice none 0 0)) 50)) w.heap.size 50 (shardC zeroH (.slice none 0 0)) := Blk.new _ _ _
  have HB0 := Lib.hid hb0
  have HX0 := Lib.hid ((Ext.refl w).alloc (.cells (shardC zeroH (.slice none 0 0)) 50))
  clear hn hA hb0
  go_enter Try.func38, Try.ntmps38
  go_wp2_with fail
  refine (open_h A n c b _ HN.out (HA.out.ext HX0.out) hc hlen).mono ?_
  rintro e w1 ⟨ho, hx1⟩
  have HX1 := Lib.hid (HX0.out.trans hx1)
  have HB1 := Lib.hid (HB0.out.below hx1 HB0.out.lt)
  clear hx1 HX0 HB0
  rcases ho with ⟨h, hph, rfl⟩ | ⟨hph, z, hz, rfl⟩
  · have HPH := Lib.hid hph
    have HPS := Lib.hid (parseHead_some hph)
    have hlP : lenP h ≤ 1000000000 := by
      have ho := HPS.out.1
      have h1 := sum4_le (l := sizesP h.k h.blk h.size) (n := 65536) fun y hy => Nat.le_trans (sizesP_le (k := h.k) (blk := h.blk) (size := h.size) (by have := ho.1.1; have := ho.1.2.1; omega) y hy) ho.1.2.2.2.2
      have h2 : (sizesP h.k h.blk h.size).length ≤ 4096 := by rw [sizesP_length]; exact ho.2.2.2.2.1
      have h3 := Nat.mul_le_mul_right (65536 + 4) h2
      have h4 := ho.2.2.1
      rw [lenP]
      unfold sum4 at h1
      omega
    obtain ⟨hs, hhs⟩ : ∃ s, s = crcS (b.take 32 ++ h.key) := ⟨_, rfl⟩
    have hhsl : hs < 2 ^ 32 := by rw [hhs]; exact crcS_lt _
    have HHS := Lib.hid hhs
    rw [← hhs]
    clear hph hhs
    go_wp2_with (first | (refine wpList_store_at rfl 43 _ _ rfl w1.heap.size 0 (headC h) rfl rfl 43 (headC zeroH) (Blk.new _ _ _) (by kernel_rfl) (Nat.le_refl 16) (headC_ones h) ?_; intro w2 k0 k2; have k1 : Blk w2 w1.heap.size 43 (headC h) := (seg_all (headC zeroH) (headC h) rfl) ▸ k0) | (refine wpList_load_at rfl 43 _ rfl ⟨w1.heap.size, 0, none⟩ rfl (headC h) _ k1.cells Try.underlying43 rfl (by kernel_rfl) ?_))
    obtain ⟨gh, hgh⟩ : ∃ g, g = w1.heap.size := ⟨_, rfl⟩
    have hB2 : Blk w2 w.heap.size 50 (shardC zeroH (.slice none 0 0)) := (HB1.out.alloc _).touch k2 (Nat.ne_of_lt HB1.out.lt)
    have hX2 : Ext w w2 := k2.extNew (HX1.out.alloc _) HX1.out.le
    have hlg : w.heap.size < gh := by rw [hgh]; exact HB1.out.lt
    rw [← hgh] at k1 ⊢
    have HB2 := Lib.hid hB2
    have HX2 := Lib.hid hX2
    have HH2 := Lib.hid k1
    clear k0 k1 k2 hB2 hX2 hgh HB1 HX1
    refine (length_n h _ HPS.out.1).mono ?_
    rintro e w3 ⟨rfl, hx3⟩
    have HB3 := Lib.hid (HB2.out.below hx3 HB2.out.lt)
    have HH3 := Lib.hid (HH2.out.below hx3 HH2.out.lt)
    have HX3 := Lib.hid (HX2.out.trans hx3)
    obtain ⟨L, hL⟩ : ∃ L, L = lenP h := ⟨_, rfl⟩
    rw [← hL] at hlP ⊢
    have HLL := Lib.hid hL
    clear hx3 HB2 HH2 HX2 hL
    rcases Nat.lt_trichotomy n L with hlt | heq | hgt
    · have HP : Hid (parseP b = none) := Lib.hid (parseP_len HPH.out (by rw [HN.out, ← HLL.out]; omega))
      go_wp2_with (refine wpList_store_at rfl 50 _ _ rfl w.heap.size 0 (shardC zeroH (.slice none 0 0)) rfl rfl 50 (shardC zeroH (.slice none 0 0)) HB3.out (by kernel_rfl) (Nat.le_refl 17) (shardC_ones zeroH rfl) ?_; intro w4 k1 k2)
      rw [zeroS_fill _ rfl] at k1
      exact bodyPost_ret (results_cell2 Try.results38 _ w4 ⟨w.heap.size, 0, none⟩ (shardC zeroH (.slice none 0 0)) _ rfl k1.cells Try.underlying50 rfl (by kernel_rfl)) rfl ⟨.inr ⟨HP.out, 70, by decide, rfl⟩, k2.extNew HX3.out (Nat.le_refl _)⟩
    · have hgh3 := HH3.out.lt
      subst heq
      go_wp2_with (first | (refine wpList_load_at rfl 43 _ rfl ⟨gh, 0, none⟩ rfl (headC h) _ HH3.out.cells Try.underlying43 rfl (by kernel_rfl) ?_) | (refine wpList_build_to rfl 50 #[(0, .tmp 34)] rfl (shardC h (.slice none 0 0)) ?_ ?_; (simp only [List.map_toArray, List.map_cons, List.map_nil]; exact built_shard h)) | (refine wpList_store_at rfl 50 _ _ rfl w3.heap.size 0 (shardC h (.slice none 0 0)) rfl rfl 50 (shardC zeroH (.slice none 0 0)) (Blk.new _ _ _) (by kernel_rfl) (Nat.le_refl 17) (shardC_ones h rfl) ?_; intro w4 k0 k2; have k1 : Blk w4 w3.heap.size 50 (shardC h (.slice none 0 0)) := (zeroS_fill (shardC zeroH (.slice none 0 0)) rfl h (.slice none 0 0)) ▸ k0; have hh4 : Blk w4 gh 43 (headC h) := (HH3.out.alloc _).touch k2 (Nat.ne_of_lt hgh3)) | (refine wpList_load_at rfl 43 _ rfl ⟨gh, 0, none⟩ rfl (headC h) _ (hh4.alloc _).cells Try.underlying43 rfl (by kernel_rfl) ?_))
      have hg3 : w.heap.size < w3.heap.size := HB3.out.lt
      have hg4 : w3.heap.size < w4.heap.size := k1.lt
      have hx4 : Ext w w4 := k2.extNew (HX3.out.alloc _) HX3.out.le
      have hb4 : Blk w4 w.heap.size 50 (shardC zeroH (.slice none 0 0)) := (HB3.out.alloc _).touch k2 (Nat.ne_of_lt hg3)
      have hp : Prs w (w4.alloc (.cells #[.bool true] 4)) w4.heap.size w3.heap.size h true [] := ⟨hx4.alloc _, Blk.new _ _ _, ⟨.slice none 0 0, k1.alloc _, Rows8.nil _ _⟩, hb4.alloc _, by omega, hg3, by omega⟩
      have HPR := Lib.hid hp
      obtain ⟨gs, hgs⟩ : ∃ g, g = w3.heap.size := ⟨_, rfl⟩
      obtain ⟨gr, hgr⟩ : ∃ g, g = w4.heap.size := ⟨_, rfl⟩
      rw [← hgs, ← hgr] at HPR ⊢
      clear k0 k1 k2 hh4 hx4 hb4 hp hg3 hg4 hgs hgr HB3 HH3 HX3 hgh3
      refine (blocks_n w gr gs h hs A n c b _ HPS.out.1 HPR.out HN.out HA.out hAb hc hlen hhsl (by rw [HLL.out]; rfl)).mono ?_
      rintro e w6 ⟨rfl, hp6⟩
      have HPE := Lib.hid (parseP_yes HPH.out (by rw [HN.out, HLL.out]))
      rw [← HHS.out] at HPE
      obtain ⟨ok, hok⟩ : ∃ ok, ok = okF hs 0 (sizesP h.k h.blk h.size) (b.drop (40 + h.key.length)) := ⟨_, rfl⟩
      rw [← hok] at hp6 HPE
      have c0 := hp6.right.cell 0
      simp at c0
      have HP6 := Lib.hid hp6
      clear hp6 hok HPR
      cases ok with
      | false =>
        have HP : Hid (parseP b = none) := Lib.hid (by rw [HPE.out]; rfl)
        go_wp2_with (refine wpList_store_at rfl 50 _ _ rfl w.heap.size 0 (shardC zeroH (.slice none 0 0)) rfl rfl 50 (shardC zeroH (.slice none 0 0)) HP6.out.res (by kernel_rfl) (Nat.le_refl 17) (shardC_ones zeroH rfl) ?_; intro w7 k1 k2)
        rw [zeroS_fill _ rfl] at k1
        exact bodyPost_ret (results_cell2 Try.results38 _ w7 ⟨w.heap.size, 0, none⟩ (shardC zeroH (.slice none 0 0)) _ rfl k1.cells Try.underlying50 rfl (by kernel_rfl)) rfl ⟨.inr ⟨HP.out, 82, by decide, rfl⟩, k2.extNew HP6.out.ext (Nat.le_refl _)⟩
      | true =>
        have HP : Hid (parseP b = some (h, piecesF (sizesP h.k h.blk h.size) (b.drop (40 + h.key.length)))) := Lib.hid (by rw [HPE.out]; rfl)
        obtain ⟨v, hbs, h8⟩ := HP6.out.box
        have hv1 : v.oneCell' = true := by obtain ⟨V, k, -⟩ := h8; exact k.oneCell
        have HBS := Lib.hid hbs
        have H8 := Lib.hid h8
        clear hbs h8
        go_wp2_with (first | (refine wpList_load_at rfl 50 _ rfl ⟨gs, 0, none⟩ rfl (shardC h v) _ HBS.out.cells Try.underlying50 rfl (by kernel_rfl) ?_) | (refine wpList_store_at rfl 50 _ _ rfl w.heap.size 0 (shardC h v) rfl rfl 50 (shardC zeroH (.slice none 0 0)) HP6.out.res (by kernel_rfl) (Nat.le_refl 17) (shardC_ones h hv1) ?_; intro w7 k1 k2))
        rw [zeroS_fill _ rfl] at k1
        have h87 : Rows8 w.heap.size w7 v (piecesF (sizesP h.k h.blk h.size) (b.drop (40 + h.key.length))) := by
          obtain ⟨V, q1, q2, q3⟩ := H8.out
          refine ⟨V, q1.touch k2 (fun g hg e => ?_), q2, fun i u hi => (q3 i u hi).touch k2 fun g hg e => ?_⟩
          · exact q1.notBlk HP6.out.res (by decide) (by rw [hg, e])
          · exact (q3 i u hi).notBlk HP6.out.res (by decide) (by rw [hg, e])
        exact bodyPost_ret (results_cell2 Try.results38 _ w7 ⟨w.heap.size, 0, none⟩ (shardC h v) _ rfl k1.cells Try.underlying50 rfl (by kernel_rfl)) rfl ⟨.inl ⟨h, _, v, HP.out, rfl, h87⟩, k2.extNew HP6.out.ext (Nat.le_refl _)⟩
    · have HP : Hid (parseP b = none) := Lib.hid (parseP_len HPH.out (by rw [HN.out, ← HLL.out]; omega))
      go_wp2_with (refine wpList_store_at rfl 50 _ _ rfl w.heap.size 0 (shardC zeroH (.slice none 0 0)) rfl rfl 50 (shardC zeroH (.slice none 0 0)) HB3.out (by kernel_rfl) (Nat.le_refl 17) (shardC_ones zeroH rfl) ?_; intro w4 k1 k2)
      rw [zeroS_fill _ rfl] at k1
      exact bodyPost_ret (results_cell2 Try.results38 _ w4 ⟨w.heap.size, 0, none⟩ (shardC zeroH (.slice none 0 0)) _ rfl k1.cells Try.underlying50 rfl (by kernel_rfl)) rfl ⟨.inr ⟨HP.out, 72, by decide, rfl⟩, k2.extNew HX3.out (Nat.le_refl _)⟩
  · have HP := Lib.hid (parseP_no hph)
    have g1 : (z != 0) = true := by rw [bne_iff_ne]; exact hz
    clear hph
    go_wp2_with (first | (refine wpList_store_at rfl 43 _ _ rfl w1.heap.size 0 (headC zeroH) rfl rfl 43 (headC zeroH) (Blk.new _ _ _) (by kernel_rfl) (Nat.le_refl 16) (headC_ones zeroH) ?_; intro w2 k1 k2) | (refine wpList_store_at rfl 50 _ _ rfl w.heap.size 0 (shardC zeroH (.slice none 0 0)) rfl rfl 50 (shardC zeroH (.slice none 0 0)) ((HB1.out.alloc _).touch k2 (Nat.ne_of_lt HB1.out.lt)) (by kernel_rfl) (Nat.le_refl 17) (shardC_ones zeroH rfl) ?_; intro w3 k3 k4))
    rw [zeroS_fill _ rfl] at k3
    have hx3 : Ext w w3 := k4.extNew (k2.extNew (HX1.out.alloc _) HX1.out.le) (Nat.le_refl _)
    exact bodyPost_ret (results_cell2 Try.results38 _ w3 ⟨w.heap.size, 0, none⟩ (shardC zeroH (.slice none 0 0)) _ rfl k3.cells Try.underlying50 rfl (by kernel_rfl)) rfl ⟨.inr ⟨HP.out, z, hz, rfl⟩, hx3⟩
end Go.Proofs.Ytdoeelfcihdmbaa
/-
  Layer 8, the reference: sums, numbers as bytes, bytes as numbers, lists joined.
-/
namespace Go.Proofs.Ytdoeelfcihdmbaa
open Go.RowKit Gf
set_option maxRecDepth 20000
set_option linter.unusedVariables false

theorem bits_i64_255 (a : Nat) (ha : a < 2 ^ 62) : bits .and .i64 (a : Int) 255 = ((a % 256 : Nat) : Int) := by
  have h := (bits_nat .i64 62 (by decide) (fun n h0 h1 => by rw [IntKind.wrap_i64]; omega) a 255 ha (by decide)).1
  rw [show (255 : Nat) = 2 ^ 8 - 1 from rfl, Nat.and_two_pow_sub_one_eq_mod] at h
  exact h
theorem cstepN_snoc (j r : Nat) : cstepN (j + 1) r = cstep (cstepN j r) := cstepN_add j 1 r
set_option maxHeartbeats 4000000 in
theorem rsum_n (A : Option Addr) (n c : Nat) (xs : List E) (w : World) (hn : xs.length = n) (hA : Rd w A (bs xs)) (hlen : n ≤ 9000000000000000000) :
    Calls Try.prog 162 #[.slice A n c] w fun e w' => e = .returned (.int .i64 (crcS xs : Int)) ∧ w = w' := by
  have HN := Lib.hid hn
  have HA := Lib.hid hA
  clear hn hA
  go_enter Try.func162, Try.ntmps162
  go_wp2_with fail
  go_loop [3, 4] (fun rv i => ∃ k : Nat, k ≤ n ∧ i = .int .i64 k ∧ rv = .int .u32 (creg full32 (xs.take k) : Int)) (fun _ i => n - (intOf i).toNat)
  case atStart => exact ⟨0, by omega, rfl, rfl⟩
  case round =>
    obtain ⟨k, hk, rfl, rfl⟩ := hrel
    by_cases hlt : k < n
    · have hkx : k < xs.length := by rw [HN.out]; exact hlt
      obtain ⟨ad, rfl, hc⟩ := HA.out.byte hkx
      obtain ⟨R, hR⟩ : ∃ R, R = creg full32 (xs.take k) := ⟨_, rfl⟩
      have hRl : R < 2 ^ 32 := by rw [hR]; exact creg_lt _ (by decide)
      obtain ⟨x, hx⟩ : ∃ x, x = xs[k] := ⟨_, rfl⟩
      rw [← hx] at hc
      have hxl := x.lt
      obtain ⟨r1, h1⟩ : ∃ r1, r1 = R ^^^ x.val := ⟨_, rfl⟩
      have hl1 : r1 < 2 ^ 32 := by rw [h1]; exact Nat.xor_lt_two_pow hRl (by omega)
      have e1 : bits .xor .u32 (R : Int) (x.val : Int) = (r1 : Int) := by rw [h1]; exact bits_u32_xor _ _ hRl (by omega)
      have HC : Hid (creg full32 (xs.take (k + 1)) = cstepN 8 r1) := Lib.hid (by rw [take_snoc' _ k hkx, creg_snoc, ← hR, ← hx, h1]; rfl)
      rw [← hR]
      clear hR hx h1
      go_wp2_with fail
      go_loop [3, 5] (fun rv i => ∃ j : Nat, j ≤ 8 ∧ i = .int .i64 j ∧ rv = .int .u32 (cstepN j r1 : Int)) (fun _ i => 8 - (intOf i).toNat)
      case atStart => exact ⟨0, by omega, rfl, rfl⟩
      case round =>
        obtain ⟨j, hj, rfl, rfl⟩ := hrel
        by_cases hlt2 : j < 8
        · obtain ⟨r, hr⟩ : ∃ r, r = cstepN j r1 := ⟨_, rfl⟩
          have hrl : r < 2 ^ 32 := by rw [hr]; exact cstepN_lt j hl1
          have HS : Hid (cstepN (j + 1) r1 = cstep r) := Lib.hid (by rw [cstepN_snoc, hr])
          have a1 := bits_u32_and1 r hrl
          have a4 : r >>> 1 = r / 2 := by rw [Nat.shiftRight_eq_div_pow]
          have a2 := Lib.hid (show (r : Int) / 2 = ((r / 2 : Nat) : Int) by omega)
          have a3 := bits_u32_xor (r / 2) 2197175160 (by omega) (by decide)
          rw [← hr]
          by_cases hb : r % 2 = 1
          · have ht : r.testBit 0 = true := by rw [Nat.testBit_zero]; simp [hb]
            have ec : cstep r = (r / 2) ^^^ 2197175160 := by rw [cstep, if_pos ht, a4]
            have g1 : bits .and .u32 (r : Int) 1 = 1 := by rw [a1, hb]; rfl
            have g2 : bits .xor .u32 ((r : Int) / 2) 2197175160 = ((cstep r : Nat) : Int) := by rw [a2.out, ec]; exact a3
            clear a1 a2 a3 a4 ec ht hb hr
            go_wp2_with fail
            go_round
            case rel => exact ⟨j + 1, by omega, by go_num, by rw [HS.out]⟩
            case measure => simp [intOf]; omega
          · have ht : r.testBit 0 = false := by rw [Nat.testBit_zero]; simp [hb]
            have ec : cstep r = r / 2 := by rw [cstep, if_neg (by rw [ht]; simp), a4]
            have g1 : bits .and .u32 (r : Int) 1 = 0 := by rw [a1]; omega
            have H := Lib.hid (show ((cstep r : Nat) : Int) = (r : Int) / 2 by rw [ec, a2.out])
            clear a1 a2 a3 a4 ec ht hb hr
            go_wp2_with fail
            go_round
            case rel => exact ⟨j + 1, by omega, by go_num, by rw [HS.out, H.out]⟩
            case measure => simp [intOf]; omega
        · obtain rfl : j = 8 := by omega
          rw [← HC.out]
          go_wp2_with fail
          go_round
          case rel => exact ⟨k + 1, by omega, by go_num, rfl⟩
          case measure => simp [intOf]; omega
    · obtain rfl : n = k := by omega
      have HC : Hid (creg full32 (xs.take n) = creg full32 xs) := Lib.hid (by rw [List.take_of_length_le (by rw [HN.out]; exact Nat.le_refl _)])
      rw [HC.out]
      obtain ⟨s2, h2⟩ : ∃ s2, s2 = creg full32 xs := ⟨_, rfl⟩
      have hs2 : s2 < 2 ^ 32 := by rw [h2]; exact creg_lt _ (by decide)
      obtain ⟨s3, h3⟩ : ∃ s3, s3 = s2 ^^^ full32 := ⟨_, rfl⟩
      have hs3 : s3 < 2 ^ 32 := by rw [h3]; exact Nat.xor_lt_two_pow hs2 (by decide)
      have e2 : bits .xor .u32 (s2 : Int) 4294967295 = (s3 : Int) := by rw [h3]; exact bits_u32_xor s2 full32 hs2 (by decide)
      have HF : Hid (crcS xs = s3) := Lib.hid (by rw [h3, h2]; rfl)
      rw [← h2]
      clear h2 h3
      go_wp2_with fail
      go_ret
      exact ⟨by rw [HF.out]; rfl, rfl⟩
set_option maxHeartbeats 4000000 in
theorem low_n (z : Int) (v n : Nat) (w : World) (hz : z = (n : Int)) (hv : v < 2 ^ 32) (hn : n ≤ 4) :
    Calls Try.prog 164 #[.int .i64 (v : Int), .int .i64 z] w fun e w' => ∃ u, e = .returned u ∧ Own w' w.heap.size 5 u (bs (le n v)) ∧ Ext w w' := by
  subst hz
  go_enter Try.func164, Try.ntmps164
  go_wp2_with fail
  go_loopw [5, 6] (fun u i wr => ∃ (j : Nat) (A1 : Option Addr) (n1 c1 : Nat), j ≤ n ∧ i = .int .i64 j ∧ u = .slice A1 n1 c1 ∧ Own wr w.heap.size 5 (.slice A1 n1 c1) (bs (le j v)) ∧ Ext w wr) (fun _ i _ => n - (intOf i).toNat)
  case atStart => exact ⟨0, none, 0, 0, by omega, rfl, rfl, Own.nil _ _ _, Ext.refl _⟩
  case round =>
    obtain ⟨W, rfl⟩ : ∃ W, W = wr := ⟨_, rfl⟩
    obtain ⟨j, A1, n1, c1, hj, rfl, rfl, ho, hx⟩ := hrel
    by_cases hlt : j < n
    · obtain ⟨y, hy⟩ : ∃ y, y = v / 256 ^ j % 256 := ⟨_, rfl⟩
      have hyl : y < 256 := by rw [hy]; exact Nat.mod_lt _ (by decide)
      have HL : Hid (le (j + 1) v = le j v ++ [E.of y]) := Lib.hid (by rw [hy]; exact le_snoc j v)
      have hv0 : (bv (E.of y)) = .int .u8 (y : Int) := by rw [bv, E.val_of hyl]
      have HO := Lib.hid ho
      have HX := Lib.hid hx
      have hle := hx.le
      have hbd : ((bs (le j v)).length + 1) * 1 ≤ 140737488355328 := by rw [bs_length, le_length]; omega
      have hj4 : j = 0 ∨ j = 1 ∨ j = 2 ∨ j = 3 := by omega
      have key : ∀ q : Nat, q = v / 256 ^ j → bits .and .i64 (q : Int) 255 = (y : Int) := fun q hq => by
        rw [bits_i64_255 q (by rw [hq]; exact Nat.lt_of_le_of_lt (Nat.div_le_self _ _) (by omega)), hq, hy]
      have HV := Lib.hid hv0
      clear ho hx hy hv0
      rcases hj4 with rfl | rfl | rfl | rfl
      · have k2 : bits .and .i64 ((v : Int)) 255 = (y : Int) := key v (by simp)
        clear key
        go_wp2_with (at_builtin; refine wpList_push2 W eltU8 rfl _ _ (by rfl) w.heap.size (.slice A1 n1 c1) _ (by rfl) (by exact HO.out) (.int .u8 (y : Int)) W.heap.size rfl (by rfl) rfl hbd hle ?_)
        intro v2 w2 h1 h2 h3 h4
        obtain ⟨A2, n2, c2, rfl⟩ : ∃ A n c, v2 = Value.slice A n c := by obtain ⟨A, c, h⟩ := h1.anySlice; exact ⟨_, _, _, h⟩
        have HO2 : Hid (Own w2 w.heap.size 5 (.slice A2 n2 c2) (bs (le 1 v))) := Lib.hid (by rw [HL.out, bs_append]; show Own _ _ _ _ (_ ++ [bv (E.of y)]); rw [HV.out]; exact h1)
        have HX2 : Hid (Ext w w2) := Lib.hid (HX.out.below.trans h3)
        clear h1 h2 h3 h4
        go_wp2_with fail
        go_roundw
        case rel => exact ⟨1, A2, n2, c2, by omega, by go_num, rfl, HO2.out, HX2.out⟩
        case measure => simp [intOf]; omega
      · have k2 : bits .and .i64 (((v : Int) / 256)) 255 = (y : Int) := by have := key (v / 256) (by simp); simpa using this
        clear key
        go_wp2_with (at_builtin; refine wpList_push2 W eltU8 rfl _ _ (by rfl) w.heap.size (.slice A1 n1 c1) _ (by rfl) (by exact HO.out) (.int .u8 (y : Int)) W.heap.size rfl (by rfl) rfl hbd hle ?_)
        intro v2 w2 h1 h2 h3 h4
        obtain ⟨A2, n2, c2, rfl⟩ : ∃ A n c, v2 = Value.slice A n c := by obtain ⟨A, c, h⟩ := h1.anySlice; exact ⟨_, _, _, h⟩
        have HO2 : Hid (Own w2 w.heap.size 5 (.slice A2 n2 c2) (bs (le 2 v))) := Lib.hid (by rw [HL.out, bs_append]; show Own _ _ _ _ (_ ++ [bv (E.of y)]); rw [HV.out]; exact h1)
        have HX2 : Hid (Ext w w2) := Lib.hid (HX.out.below.trans h3)
        clear h1 h2 h3 h4
        go_wp2_with fail
        go_roundw
        case rel => exact ⟨2, A2, n2, c2, by omega, by go_num, rfl, HO2.out, HX2.out⟩
        case measure => simp [intOf]; omega
      · have k2 : bits .and .i64 (((v : Int) / 65536)) 255 = (y : Int) := by have := key (v / 65536) (by simp); simpa using this
        clear key
        go_wp2_with (at_builtin; refine wpList_push2 W eltU8 rfl _ _ (by rfl) w.heap.size (.slice A1 n1 c1) _ (by rfl) (by exact HO.out) (.int .u8 (y : Int)) W.heap.size rfl (by rfl) rfl hbd hle ?_)
        intro v2 w2 h1 h2 h3 h4
        obtain ⟨A2, n2, c2, rfl⟩ : ∃ A n c, v2 = Value.slice A n c := by obtain ⟨A, c, h⟩ := h1.anySlice; exact ⟨_, _, _, h⟩
        have HO2 : Hid (Own w2 w.heap.size 5 (.slice A2 n2 c2) (bs (le 3 v))) := Lib.hid (by rw [HL.out, bs_append]; show Own _ _ _ _ (_ ++ [bv (E.of y)]); rw [HV.out]; exact h1)
        have HX2 : Hid (Ext w w2) := Lib.hid (HX.out.below.trans h3)
        clear h1 h2 h3 h4
        go_wp2_with fail
        go_roundw
        case rel => exact ⟨3, A2, n2, c2, by omega, by go_num, rfl, HO2.out, HX2.out⟩
        case measure => simp [intOf]; omega
      · have k2 : bits .and .i64 (((v : Int) / 16777216)) 255 = (y : Int) := by have := key (v / 16777216) (by simp); simpa using this
        clear key
        go_wp2_with (at_builtin; refine wpList_push2 W eltU8 rfl _ _ (by rfl) w.heap.size (.slice A1 n1 c1) _ (by rfl) (by exact HO.out) (.int .u8 (y : Int)) W.heap.size rfl (by rfl) rfl hbd hle ?_)
        intro v2 w2 h1 h2 h3 h4
        obtain ⟨A2, n2, c2, rfl⟩ : ∃ A n c, v2 = Value.slice A n c := by obtain ⟨A, c, h⟩ := h1.anySlice; exact ⟨_, _, _, h⟩
        have HO2 : Hid (Own w2 w.heap.size 5 (.slice A2 n2 c2) (bs (le 4 v))) := Lib.hid (by rw [HL.out, bs_append]; show Own _ _ _ _ (_ ++ [bv (E.of y)]); rw [HV.out]; exact h1)
        have HX2 : Hid (Ext w w2) := Lib.hid (HX.out.below.trans h3)
        clear h1 h2 h3 h4
        go_wp2_with fail
        go_roundw
        case rel => exact ⟨4, A2, n2, c2, by omega, by go_num, rfl, HO2.out, HX2.out⟩
        case measure => simp [intOf]; omega
    · obtain rfl : n = j := by omega
      have HO := Lib.hid ho
      have HX := Lib.hid hx
      clear ho hx
      go_wp2_with fail
      go_ret
      exact ⟨_, rfl, HO.out, HX.out⟩
/-- A number of k bytes at a place: what the walk downward has. -/
theorem num_down (xs : List E) (at_ k j : Nat) (hj : j < k) (h : at_ + k ≤ xs.length) : num ((xs.drop (at_ + j)).take (k - j)) = (xs[at_ + j]'(by omega)).val + 256 * num ((xs.drop (at_ + (j + 1))).take (k - (j + 1))) := by
  rw [List.drop_eq_getElem_cons (show at_ + j < xs.length by omega), show k - j = (k - (j + 1)) + 1 by omega, List.take_succ_cons, num, show at_ + j + 1 = at_ + (j + 1) by omega]
set_option maxHeartbeats 4000000 in
theorem number_n (z1 z2 : Int) (at_ k : Nat) (A : Option Addr) (n c : Nat) (xs : List E) (w : World) (hz1 : z1 = (at_ : Int)) (hz2 : z2 = (k : Int)) (hn : xs.length = n) (hA : Rd w A (bs xs)) (hk : at_ + k ≤ n) (hk4 : k ≤ 4) (hlen : n ≤ 900000000000000000) :
    Calls Try.prog 161 #[.slice A n c, .int .i64 z1, .int .i64 z2] w fun e w' => e = .returned (.int .i64 (fld xs at_ k : Int)) ∧ w = w' := by
  subst hz1 hz2
  have HN := Lib.hid hn
  have HA := Lib.hid hA
  clear hn hA
  go_enter Try.func161, Try.ntmps161
  go_wp2_with fail
  go_loop [7, 8] (fun v i => ∃ j : Nat, j ≤ k ∧ i = .int .i64 ((j : Int) - 1) ∧ v = .int .i64 (num ((xs.drop (at_ + j)).take (k - j)) : Int)) (fun _ i => (intOf i + 1).toNat)
  case atStart => exact ⟨k, Nat.le_refl _, rfl, by rw [Nat.sub_self]; rfl⟩
  case round =>
    obtain ⟨j, hj, rfl, rfl⟩ := hrel
    rcases j with _ | j
    · obtain ⟨y, hy⟩ : ∃ y, y = num ((xs.drop (at_ + 0)).take (k - 0)) := ⟨_, rfl⟩
      have HY : Hid (fld xs at_ k = y) := Lib.hid hy.symm
      rw [← hy]
      clear hy
      go_wp2_with fail
      go_ret
      exact ⟨by rw [HY.out]; rfl, rfl⟩
    · obtain ⟨y, hy⟩ : ∃ y, y = num ((xs.drop (at_ + (j + 1))).take (k - (j + 1))) := ⟨_, rfl⟩
      have hyl : y < 256 ^ 3 := by
        rw [hy]
        refine Nat.lt_of_lt_of_le (num_lt _) (Nat.pow_le_pow_right (by decide) ?_)
        rw [List.length_take]; omega
      have hjx : at_ + j < xs.length := by rw [HN.out]; omega
      obtain ⟨ad, rfl, hc⟩ := HA.out.byte hjx
      obtain ⟨x, hx⟩ : ∃ x, x = xs[at_ + j] := ⟨_, rfl⟩
      have HS : Hid (num ((xs.drop (at_ + j)).take (k - j)) = x.val + 256 * y) := Lib.hid (by rw [num_down xs at_ k j (by omega) (by rw [HN.out]; omega), ← hx, ← hy])
      rw [← hx] at hc
      have hxl := x.lt
      have e1 : (((j + 1 : Nat) : Int) - 1) = (j : Int) := by omega
      rw [← hy, e1]
      clear hy hx e1
      go_wp2_with fail
      go_round
      case rel => exact ⟨j, by omega, by go_num, by rw [HS.out]; go_num⟩
      case measure => simp [intOf]
end Go.Proofs.Ytdoeelfcihdmbaa
/-
  Layer 8, the reference: lists of bytes joined.
-/
namespace Go.Proofs.Ytdoeelfcihdmbaa
open Go.RowKit Gf
set_option maxRecDepth 20000
set_option linter.unusedVariables false

theorem flatten_take_le (rs : List (List E)) (i : Nat) : (rs.take i).flatten.length ≤ rs.flatten.length := by
  conv => rhs; rw [← List.take_append_drop i rs, List.flatten_append, List.length_append]
  omega
theorem flatten_snoc (rs : List (List E)) (i : Nat) (h : i < rs.length) : (rs.take (i + 1)).flatten = (rs.take i).flatten ++ rs[i] := by
  rw [take_snoc' rs i h, List.flatten_append]; simp
theorem flatten_mid_le (rs : List (List E)) (i : Nat) (h : i < rs.length) : (rs.take i).flatten.length + rs[i].length ≤ rs.flatten.length := by
  have := flatten_take_le rs (i + 1)
  rw [flatten_snoc rs i h, List.length_append] at this
  exact this
/-- Rows that are read; what lies behind them is not asked. -/
def JRows (w : World) (A : Option Addr) (rs : List (List E)) : Prop := ∃ V : List Value, V.length = rs.length ∧ Rd w A V ∧ ∀ (i : Nat) (r : List E), rs[i]? = some r → ∃ B c, V[i]? = some (.slice B r.length c) ∧ Rd w B (bs r)
theorem JRows.ext {w w' : World} {A : Option Addr} {rs : List (List E)} (h : JRows w A rs) (hx : Ext w w') : JRows w' A rs := by
  obtain ⟨V, h1, h2, h3⟩ := h
  exact ⟨V, h1, h2.ext hx, fun i r hi => by obtain ⟨B, c, k1, k2⟩ := h3 i r hi; exact ⟨B, c, k1, k2.ext hx⟩⟩
set_option maxHeartbeats 4000000 in
theorem join_n (A : Option Addr) (n c : Nat) (rs : List (List E)) (w : World) (hn : rs.length = n) (hA : JRows w A rs) (hn2 : n ≤ 100000) (hlen : rs.flatten.length ≤ 1000000000) :
    Calls Try.prog 111 #[.slice A n c] w fun e w' => ∃ u, e = .returned u ∧ Own w' w.heap.size 5 u (bs rs.flatten) ∧ Ext w w' := by
  obtain ⟨V, hVl, hV, hVr⟩ := hA
  have HN := Lib.hid hn
  have HA := Lib.hid hV
  have HR := Lib.hid hVr
  clear hn hV hVr
  go_enter Try.func111, Try.ntmps111
  go_wp2_with fail
  go_loopw [3, 4] (fun u i wr => ∃ (j : Nat) (A1 : Option Addr) (n1 c1 : Nat), j ≤ n ∧ i = .int .i64 j ∧ u = .slice A1 n1 c1 ∧ Own wr w.heap.size 5 (.slice A1 n1 c1) (bs (rs.take j).flatten) ∧ Ext w wr) (fun _ i _ => n - (intOf i).toNat)
  case atStart => exact ⟨0, none, 0, 0, by omega, rfl, rfl, Own.nil _ _ _, Ext.refl _⟩
  case round =>
    obtain ⟨W, rfl⟩ : ∃ W, W = wr := ⟨_, rfl⟩
    obtain ⟨i, A1, n1, c1, hi, rfl, rfl, ho, hx⟩ := hrel
    by_cases hlt : i < n
    · have hir : i < rs.length := by rw [HN.out]; exact hlt
      obtain ⟨B, cB, hvi, hB⟩ := HR.out i rs[i] (List.getElem?_eq_getElem hir)
      obtain ⟨r, hr⟩ : ∃ r, r = rs[i] := ⟨_, rfl⟩
      obtain ⟨L, hL⟩ : ∃ L, L = r.length := ⟨_, rfl⟩
      have hLr := flatten_mid_le rs i hir
      have HFL : Hid ((rs.take (i + 1)).flatten = (rs.take i).flatten ++ r) := Lib.hid (by rw [flatten_snoc rs i hir, hr])
      rw [← hr] at hvi hB hLr
      rw [← hL] at hvi hLr
      have HB := Lib.hid hB
      have HLL := Lib.hid hL
      obtain ⟨ad, hAe, hc0⟩ := HA.out.at_ hvi
      subst hAe
      have HC0 := Lib.hid hvi
      obtain ⟨pre, hpre⟩ : ∃ p, p = (rs.take i).flatten := ⟨_, rfl⟩
      rw [← hpre] at HFL ho hLr
      have HO : Hid (Own W w.heap.size 5 (.slice A1 n1 c1) (bs (pre ++ r.take 0))) := Lib.hid (by rw [List.take_zero, List.append_nil]; exact ho)
      have HX := Lib.hid hx
      clear hvi hB hL hr ho hx hpre hir hc0
      go_wp2_with fail
      go_loopw [3, 5] (fun u k wr => ∃ (j : Nat) (A1 : Option Addr) (n1 c1 : Nat), j ≤ L ∧ k = .int .i64 j ∧ u = .slice A1 n1 c1 ∧ Own wr w.heap.size 5 (.slice A1 n1 c1) (bs (pre ++ r.take j)) ∧ Ext w wr) (fun _ k _ => L - (intOf k).toNat)
      case atStart => exact ⟨0, _, _, _, by omega, rfl, rfl, HO.out, HX.out⟩
      case round =>
        clear HO HX
        obtain ⟨W1, rfl⟩ : ∃ W, W = wr := ⟨_, rfl⟩
        obtain ⟨j, A2, n2, c2, hj, rfl, rfl, ho, hx⟩ := hrel
        obtain ⟨ad2, hAe, hc0⟩ := (HA.out.ext hx).at_ HC0.out
        obtain rfl : ad = ad2 := Option.some.inj hAe
        clear hAe
        by_cases hlt2 : j < L
        · have hjr : j < r.length := by rw [← HLL.out]; exact hlt2
          obtain ⟨bd, rfl, hc1⟩ := (HB.out.ext hx).byte hjr
          obtain ⟨x, hxx⟩ : ∃ x, x = r[j] := ⟨_, rfl⟩
          rw [← hxx] at hc1
          have hxl := x.lt
          have HS : Hid (pre ++ r.take (j + 1) = (pre ++ r.take j) ++ [x]) := Lib.hid (by rw [take_snoc' r j hjr, ← hxx, List.append_assoc])
          have HO := Lib.hid ho
          have HX := Lib.hid hx
          have hle := hx.le
          have hbd : ((bs (pre ++ r.take j)).length + 1) * 1 ≤ 140737488355328 := by rw [bs_length, List.length_append, List.length_take]; omega
          clear ho hx hxx hjr
          go_wp2_with (at_builtin; refine wpList_push2 W1 eltU8 rfl _ _ (by rfl) w.heap.size (.slice A2 n2 c2) _ (by rfl) (by exact HO.out) (.int .u8 (x.val : Int)) W1.heap.size rfl (by rfl) rfl hbd hle ?_)
          intro v2 w2 h1 h2 h3 h4
          obtain ⟨A3, n3, c3, rfl⟩ : ∃ A n c, v2 = Value.slice A n c := by obtain ⟨A, c, h⟩ := h1.anySlice; exact ⟨_, _, _, h⟩
          have HO2 : Hid (Own w2 w.heap.size 5 (.slice A3 n3 c3) (bs (pre ++ r.take (j + 1)))) := Lib.hid (by rw [HS.out, bs_append]; exact h1)
          have HX2 : Hid (Ext w w2) := Lib.hid (HX.out.below.trans h3)
          clear h1 h2 h3 h4
          go_wp2_with fail
          go_roundw
          case rel => exact ⟨j + 1, A3, n3, c3, by omega, by go_num, rfl, HO2.out, HX2.out⟩
          case measure => simp [intOf]; omega
        · obtain rfl : L = j := by omega
          have HO2 : Hid (Own W1 w.heap.size 5 (.slice A2 n2 c2) (bs (rs.take (i + 1)).flatten)) := Lib.hid (by rw [HFL.out]; rw [List.take_of_length_le (by rw [HLL.out]; exact Nat.le_refl _)] at ho; exact ho)
          have HX := Lib.hid hx
          clear ho hx
          go_wp2_with fail
          go_roundw
          case rel => exact ⟨i + 1, A2, n2, c2, by omega, by go_num, rfl, HO2.out, HX.out⟩
          case measure => simp [intOf]; omega
    · obtain rfl : n = i := by omega
      have HO2 : Hid (Own W w.heap.size 5 (.slice A1 n1 c1) (bs rs.flatten)) := Lib.hid (by rw [List.take_of_length_le (by rw [HN.out]; exact Nat.le_refl _)] at ho; exact ho)
      have HX := Lib.hid hx
      clear ho hx
      go_wp2_with fail
      go_ret
      exact ⟨_, rfl, HO2.out, HX.out⟩
end Go.Proofs.Ytdoeelfcihdmbaa
/-
  Layer 8, the reference: what a shape may be; the lengths of the blocks.
-/
namespace Go.Proofs.Ytdoeelfcihdmbaa
open Go.RowKit Gf
set_option maxRecDepth 20000
set_option linter.unusedVariables false

set_option maxHeartbeats 1000000 in
theorem rfits_n (k m b : Nat) (w : World) (hk : k ≤ 1000000000000) (hm : m ≤ 1000000000000) : Calls Try.prog 153 #[.agg #[.int .i64 (k : Int), .int .i64 (m : Int), .int .i64 (b : Int)]] w fun e w' => e = .returned (.bool (decide (okShape k m b))) ∧ Ext w w' := by
  have HX := Lib.hid ((Ext.refl w).alloc (.cells #[.int .i64 (k : Int), .int .i64 (m : Int), .int .i64 (b : Int)] 39))
  by_cases h : okShape k m b
  · have HD : Hid (decide (okShape k m b) = true) := Lib.hid (decide_eq_true h)
    obtain ⟨h1, h2, h3, h4, h5⟩ := h
    have h6 : k ≤ 255 := by omega
    rw [HD.out]
    go_enter Try.func153, Try.ntmps153
    go_wp2
    go_ret
    exact ⟨ret_bool (decide_eq_true (by omega)), HX.out⟩
  · have HD : Hid (decide (okShape k m b) = false) := Lib.hid (decide_eq_false h)
    have HN := Lib.hid h
    clear h
    rw [HD.out]
    go_enter Try.func153, Try.ntmps153
    go_wp2
    all_goals
      go_ret
      have hN := HN.out
      unfold okShape at hN
      first | exact ⟨rfl, HX.out⟩ | exact ⟨ret_bool (decide_eq_false (by omega)), HX.out⟩
/-- The length of stripe j's blocks. -/
def sizeAt (k b size j : Nat) : Nat := (min (size - j * (k * b)) (k * b) + k - 1) / k
theorem sizes_lt {st size j : Nat} (hst : 0 < st) (h : j < (size + st - 1) / st) : j * st < size := by
  have h1 : (j + 1) * st ≤ size + st - 1 := (Nat.le_div_iff_mul_le hst).1 h
  rw [Nat.succ_mul] at h1; omega
theorem sizes_end {st size : Nat} (hst : 0 < st) : size ≤ (size + st - 1) / st * st := by
  have := Nat.div_add_mod (size + st - 1) st
  have := Nat.mod_lt (size + st - 1) hst
  rw [Nat.mul_comm]; omega
theorem ceil_full {k b : Nat} (hk : 0 < k) : (k * b + k - 1) / k = b := by
  rw [show k * b + k - 1 = (k - 1) + k * b by omega, Nat.add_mul_div_left _ _ hk, Nat.div_eq_of_lt (by omega), Nat.zero_add]
theorem sizesP_at {k b size j : Nat} (hk : 0 < k) (hb : 0 < b) (h : j < stripesP k b size) : (sizesP k b size)[j]? = some (sizeAt k b size j) := by
  have hst : 0 < k * b := Nat.mul_pos hk hb
  rw [sizesP_get h]
  congr 1
  unfold stripesP at h
  have h1 := sizes_lt hst h
  obtain ⟨st, hs⟩ : ∃ st, st = k * b := ⟨_, rfl⟩
  have hf := ceil_full (b := b) hk
  unfold sizeAt stripesP
  rw [← hs] at h h1 hst hf ⊢
  by_cases hl : j + 1 = (size + st - 1) / st
  · have he := sizes_end (size := size) hst
    rw [← hl, Nat.succ_mul] at he
    by_cases hm : 0 < size % st
    · rw [if_pos ⟨hl, hm⟩]
      have h2 : size - j * st = size % st := by
        have h3 := Nat.div_add_mod size st
        have h4 : size / st = j := by
          refine Nat.div_eq_of_lt_le (Nat.le_of_lt h1) ?_
          rcases Nat.lt_or_ge size ((j + 1) * st) with h5 | h5
          · exact h5
          · exfalso
            rw [Nat.succ_mul] at h5
            have : size = (j + 1) * st := by rw [Nat.succ_mul]; omega
            rw [this, Nat.mul_mod_left] at hm
            omega
        rw [h4, Nat.mul_comm] at h3
        omega
      have h5 := Nat.mod_lt size hst
      rw [h2, Nat.min_eq_left (by omega)]
    · rw [if_neg (fun h => hm h.2)]
      have h2 : size - j * st = st := by
        have h3 := Nat.div_add_mod size st
        have h6 : size % st = 0 := by omega
        rw [h6, Nat.add_zero] at h3
        have h7 : st * j < st * (size / st) := by rw [h3, Nat.mul_comm]; exact h1
        have h8 := Nat.lt_of_mul_lt_mul_left h7
        have h9 : (j + 1) * st ≤ size / st * st := Nat.mul_le_mul_right _ h8
        rw [Nat.mul_comm (size / st), h3, Nat.succ_mul] at h9
        omega
      rw [h2, Nat.min_self, hf]
  · rw [if_neg (fun h => hl h.1)]
    have h2 : (j + 1) * st < size := sizes_lt hst (by omega)
    rw [Nat.succ_mul] at h2
    rw [Nat.min_eq_right (by omega), hf]
theorem sizesP_snoc {k b size j : Nat} (hk : 0 < k) (hb : 0 < b) (h : j < stripesP k b size) : (sizesP k b size).take (j + 1) = (sizesP k b size).take j ++ [sizeAt k b size j] := by
  have hl : j < (sizesP k b size).length := by rw [sizesP_length]; exact h
  have := sizesP_at hk hb h
  rw [List.getElem?_eq_getElem hl] at this
  rw [take_snoc' _ j hl, Option.some.inj this]
theorem ints_take_snoc (l : List Nat) (x : Nat) : ints (l ++ [x]) = ints l ++ [.int .i64 (x : Int)] := by simp [ints]
theorem ceil_up {k p : Nat} (hk : 0 < k) (h : p / k * k < p) : (p + k - 1) / k = p / k + 1 := by
  have := Nat.div_add_mod p k
  have := Nat.mod_lt p hk
  rw [show p + k - 1 = (p % k - 1) + k * (p / k + 1) by rw [Nat.mul_succ]; rw [Nat.mul_comm] at h; omega, Nat.add_mul_div_left _ _ hk, Nat.div_eq_of_lt (by omega), Nat.zero_add]
theorem ceil_even {k p : Nat} (hk : 0 < k) (h : ¬ p / k * k < p) : (p + k - 1) / k = p / k := by
  have := Nat.div_add_mod p k
  rw [show p + k - 1 = (k - 1) + k * (p / k) by rw [Nat.mul_comm] at h; omega, Nat.add_mul_div_left _ _ hk, Nat.div_eq_of_lt (by omega), Nat.zero_add]
end Go.Proofs.Ytdoeelfcihdmbaa
/-
  Layer 8, the reference: the lengths of the blocks.
-/
namespace Go.Proofs.Ytdoeelfcihdmbaa
open Go.RowKit Gf
set_option maxRecDepth 20000
set_option linter.unusedVariables false

/-- What Sizes answers. -/
def SizesOut (k m b size : Nat) (w : World) (e : Ending) (w' : World) : Prop := (∃ v z, e = .returned (.tuple #[v, .int .i64 z]) ∧ (z = 0 ↔ (okShape k m b ∧ okSize k b size)) ∧ (z = 0 → Own w' w.heap.size 3 v (ints (sizesP k b size)))) ∧ Ext w w'
set_option maxHeartbeats 8000000 in
theorem rsizes_n (k m b size : Nat) (w : World) (hk : k ≤ 1000000) (hm : m ≤ 1000000) (hz : size ≤ 4294967296) :
    Calls Try.prog 110 #[.agg #[.int .i64 (k : Int), .int .i64 (m : Int), .int .i64 (b : Int)], .int .i64 (size : Int)] w (SizesOut k m b size w) := by
  have hb : Blk (w.alloc (.cells #[.int .i64 (k : Int), .int .i64 (m : Int), .int .i64 (b : Int)] 39)) w.heap.size 39 #[.int .i64 (k : Int), .int .i64 (m : Int), .int .i64 (b : Int)] := Blk.new _ _ _
  have HB := Lib.hid hb
  have HX := Lib.hid ((Ext.refl w).alloc (.cells #[.int .i64 (k : Int), .int .i64 (m : Int), .int .i64 (b : Int)] 39))
  clear hb
  by_cases hS : okShape k m b
  · have hd := decide_eq_true hS
    have HS := Lib.hid hS
    obtain ⟨p1, p2⟩ := stripe_pos hS
    obtain ⟨s1, s2, s3, s4, s5⟩ := hS
    have hkb : k ≤ 255 := by omega
    have hk0 : 0 < k := by omega
    obtain ⟨st, hst⟩ : ∃ st, st = k * b := ⟨_, rfl⟩
    rw [← hst] at p1 p2
    have e1 : (k : Int) * (b : Int) = (st : Int) := by rw [hst]; simp
    rcases Nat.lt_or_ge 1048576 size with h1 | h1
    · go_enter Try.func110, Try.ntmps110
      go_wp2_with (refine wpList_load_at rfl 39 _ rfl ⟨w.heap.size, 0, none⟩ rfl _ _ HB.out.cells Try.underlying39 rfl (by kernel_rfl) ?_)
      refine (rfits_n k m b _ (by omega) (by omega)).mono ?_
      rw [hd]
      rintro e w1 ⟨rfl, hx1⟩
      have HX1 := Lib.hid (HX.out.trans hx1)
      clear hd hx1
      go_wp2
      go_ret2
      exact ⟨⟨_, 3, rfl, ⟨fun e => absurd e (by decide), fun e => absurd e.2.1 (by omega)⟩, fun e => absurd e (by decide)⟩, HX1.out⟩
    · obtain ⟨q, hq⟩ : ∃ q, q = stripesP k b size := ⟨_, rfl⟩
      have hq2 : q = (size + st - 1) / st := by rw [hq, hst]; rfl
      have HQ := Lib.hid hq
      have HQ2 := Lib.hid hq2
      have HST := Lib.hid hst
      have hqb : q ≤ 1000000000 := by rw [hq2]; exact Nat.le_trans (Nat.div_le_self _ _) (by omega)
      have hdd := hd
      clear hq hq2 hst hd
      go_enter Try.func110, Try.ntmps110
      go_wp2_with (refine wpList_load_at rfl 39 _ rfl ⟨w.heap.size, 0, none⟩ rfl _ _ HB.out.cells Try.underlying39 rfl (by kernel_rfl) ?_)
      refine (rfits_n k m b _ (by omega) (by omega)).mono ?_
      rw [hdd]
      rintro e w1 ⟨rfl, hx1⟩
      have HB1 := Lib.hid (HB.out.below hx1 HB.out.lt)
      have HX1 := Lib.hid (HX.out.trans hx1)
      clear hdd hx1
      go_wp2_with fail
      go_loopw [7, 8] (fun u i wr => ∃ (j : Nat) (A1 : Option Addr) (n1 c1 : Nat), j ≤ q ∧ i = .int .i64 ((size : Int) - ((j * st : Nat) : Int)) ∧ u = .slice A1 n1 c1 ∧ n1 = j ∧ Own wr w1.heap.size 3 (.slice A1 n1 c1) (ints ((sizesP k b size).take j)) ∧ Ext w1 wr) (fun _ i _ => (intOf i).toNat)
      case atStart => exact ⟨0, none, 0, 0, by omega, by simp, rfl, rfl, Own.nil _ _ _, Ext.refl _⟩
      case round =>
        obtain ⟨W, rfl⟩ : ∃ W, W = wr := ⟨_, rfl⟩
        obtain ⟨j, A1, n1, c1, hj, rfl, rfl, rfl, ho, hx⟩ := hrel
        have hb := HB1.out.below hx HB1.out.lt
        have c0 := hb.cell 0
        have c2 := hb.cell 2
        simp at c0 c2
        obtain ⟨js, hjs⟩ : ∃ js, js = n1 * st := ⟨_, rfl⟩
        rw [← hjs]
        by_cases hlt : n1 < q
        · have hjl : js < size := by rw [hjs]; exact sizes_lt (by omega) (by rw [← HQ2.out]; exact hlt)
          have hjs2 : (n1 + 1) * st = js + st := by rw [Nat.succ_mul, hjs]
          have HJS := Lib.hid hjs2
          have HSN := Lib.hid (sizesP_snoc hk0 (show 0 < b by omega) (show n1 < stripesP k b size by rw [← HQ.out]; exact hlt))
          obtain ⟨y, hy⟩ : ∃ y, y = sizeAt k b size n1 := ⟨_, rfl⟩
          rw [← hy] at HSN
          have hy2 : y = (min (size - js) st + k - 1) / k := by rw [hy, sizeAt, ← HST.out, ← hjs]
          obtain ⟨R, hR⟩ : ∃ R, R = size - js := ⟨_, rfl⟩
          have e2 : (size : Int) - (js : Int) = (R : Int) := by omega
          rw [← hR] at hy2
          have HO := Lib.hid ho
          have HX := Lib.hid hx
          have hle := hx.le
          have hbd : ((ints ((sizesP k b size).take n1)).length + 1) * 8 ≤ 140737488355328 := by rw [ints_length, List.length_take]; omega
          have HJL := Lib.hid hjl
          have HRR := Lib.hid hR
          rw [e2]
          have hR0 : 0 < R := by omega
          have hRb : R ≤ 1048576 := by omega
          clear ho hx hb hjs hjs2 hy e2 hjl hR
          by_cases hRs : st < R
          · have e3 : (st : Int) / (k : Int) = (b : Int) := by rw [HST.out]; simp; rw [Int.mul_ediv_cancel_left _ (by omega)]
            have e4 : (st : Int).tdiv (k : Int) = (b : Int) := by rw [Int.tdiv_eq_ediv_of_nonneg (by omega)]; exact e3
            have e5 : (b : Int) * (k : Int) = (st : Int) := by rw [Int.mul_comm]; exact e1
            have HY : Hid (y = b) := Lib.hid (by rw [hy2, Nat.min_eq_right (by omega), HST.out, ceil_full hk0])
            clear hy2
            go_wp2_with (at_builtin; refine wpList_push2 W eltInt rfl _ _ (by rfl) w1.heap.size (.slice A1 n1 c1) _ (by rfl) (by exact HO.out) (.int .i64 (b : Int)) W.heap.size rfl (by rfl) rfl hbd hle ?_)
            intro v2 w2 h1 h2 h3 h4
            obtain ⟨A2, n2, k2, rfl⟩ : ∃ A n c, v2 = Value.slice A n c := by obtain ⟨A, c, h⟩ := h1.anySlice; exact ⟨_, _, _, h⟩
            have hn2 : n2 = n1 + 1 := by rw [h1.len, List.length_append, ints_length, List.length_take, sizesP_length, ← HQ.out]; simp; omega
            subst hn2
            have HO2 : Hid (Own w2 w1.heap.size 3 (.slice A2 (n1 + 1) k2) (ints ((sizesP k b size).take (n1 + 1)))) := Lib.hid (by rw [HSN.out, ints_take_snoc, HY.out]; exact h1)
            have hx2 : Ext w1 w2 := HX.out.below.trans h3
            have HX2 := Lib.hid hx2
            have hb2 := HB1.out.below hx2 HB1.out.lt
            have d0 := hb2.cell 0
            have d2 := hb2.cell 2
            simp at d0 d2
            clear h1 h2 h3 h4 hx2 hb2 c0 c2
            go_wp2_with fail
            go_roundw
            case rel => exact ⟨n1 + 1, A2, _, k2, by omega, by rw [HJS.out]; congr 1; have := HJL.out; have := HRR.out; omega, rfl, rfl, HO2.out, HX2.out⟩
            case measure => simp [intOf]; omega
          · obtain ⟨y0, hy0⟩ : ∃ y0, y0 = R / k := ⟨_, rfl⟩
            have e3 : (R : Int) / (k : Int) = (y0 : Int) := by rw [hy0]; simp
            have e4 : (R : Int).tdiv (k : Int) = (y0 : Int) := by rw [Int.tdiv_eq_ediv_of_nonneg (by omega)]; exact e3
            have hy0b : y0 ≤ 1048576 := by rw [hy0]; exact Nat.le_trans (Nat.div_le_self _ _) hRb
            obtain ⟨p0, hp0⟩ : ∃ p0, p0 = y0 * k := ⟨_, rfl⟩
            have hp0b : p0 ≤ R := by rw [hp0, hy0]; exact Nat.div_mul_le_self _ _
            have e5 : (y0 : Int) * (k : Int) = (p0 : Int) := by rw [hp0]; simp
            rw [Nat.min_eq_left (by omega)] at hy2
            by_cases hup : p0 < R
            · have HY : Hid (y = y0 + 1) := Lib.hid (by rw [hy2, hy0]; exact ceil_up hk0 (by rw [← hy0, ← hp0]; exact hup))
              clear hy2 hy0 hp0
              go_wp2_with (at_builtin; refine wpList_push2 W eltInt rfl _ _ (by rfl) w1.heap.size (.slice A1 n1 c1) _ (by rfl) (by exact HO.out) (.int .i64 ((y0 : Int) + 1)) W.heap.size rfl (by rfl) rfl hbd hle ?_)
              intro v2 w2 h1 h2 h3 h4
              obtain ⟨A2, n2, k2, rfl⟩ : ∃ A n c, v2 = Value.slice A n c := by obtain ⟨A, c, h⟩ := h1.anySlice; exact ⟨_, _, _, h⟩
              have hn2 : n2 = n1 + 1 := by rw [h1.len, List.length_append, ints_length, List.length_take, sizesP_length, ← HQ.out]; simp; omega
              subst hn2
              have HO2 : Hid (Own w2 w1.heap.size 3 (.slice A2 (n1 + 1) k2) (ints ((sizesP k b size).take (n1 + 1)))) := Lib.hid (by rw [HSN.out, ints_take_snoc, HY.out]; exact h1)
              have hx2 : Ext w1 w2 := HX.out.below.trans h3
              have HX2 := Lib.hid hx2
              have hb2 := HB1.out.below hx2 HB1.out.lt
              have d0 := hb2.cell 0
              have d2 := hb2.cell 2
              simp at d0 d2
              clear h1 h2 h3 h4 hx2 hb2 c0 c2
              go_wp2_with fail
              go_roundw
              case rel => exact ⟨n1 + 1, A2, _, k2, by omega, by rw [HJS.out]; congr 1; have := HJL.out; have := HRR.out; omega, rfl, rfl, HO2.out, HX2.out⟩
              case measure => simp [intOf]; omega
            · have HY : Hid (y = y0) := Lib.hid (by rw [hy2, hy0]; exact ceil_even hk0 (by rw [← hy0, ← hp0]; exact hup))
              clear hy2 hy0 hp0
              go_wp2_with (at_builtin; refine wpList_push2 W eltInt rfl _ _ (by rfl) w1.heap.size (.slice A1 n1 c1) _ (by rfl) (by exact HO.out) (.int .i64 (y0 : Int)) W.heap.size rfl (by rfl) rfl hbd hle ?_)
              intro v2 w2 h1 h2 h3 h4
              obtain ⟨A2, n2, k2, rfl⟩ : ∃ A n c, v2 = Value.slice A n c := by obtain ⟨A, c, h⟩ := h1.anySlice; exact ⟨_, _, _, h⟩
              have hn2 : n2 = n1 + 1 := by rw [h1.len, List.length_append, ints_length, List.length_take, sizesP_length, ← HQ.out]; simp; omega
              subst hn2
              have HO2 : Hid (Own w2 w1.heap.size 3 (.slice A2 (n1 + 1) k2) (ints ((sizesP k b size).take (n1 + 1)))) := Lib.hid (by rw [HSN.out, ints_take_snoc, HY.out]; exact h1)
              have hx2 : Ext w1 w2 := HX.out.below.trans h3
              have HX2 := Lib.hid hx2
              have hb2 := HB1.out.below hx2 HB1.out.lt
              have d0 := hb2.cell 0
              have d2 := hb2.cell 2
              simp at d0 d2
              clear h1 h2 h3 h4 hx2 hb2 c0 c2
              go_wp2_with fail
              go_roundw
              case rel => exact ⟨n1 + 1, A2, _, k2, by omega, by rw [HJS.out]; congr 1; have := HJL.out; have := HRR.out; omega, rfl, rfl, HO2.out, HX2.out⟩
              case measure => simp [intOf]; omega
        · obtain rfl : q = n1 := by omega
          have he := sizes_end (st := st) (size := size) (by omega)
          rw [← HQ2.out, ← hjs] at he
          have e2 : (size : Int) - (js : Int) ≤ 0 := by omega
          have hex : ∃ z : Int, z = (size : Int) - (js : Int) := ⟨_, rfl⟩
          obtain ⟨z, hzz⟩ := hex
          rw [← hzz] at e2 ⊢
          have HO : Hid (Own W w1.heap.size 3 (.slice A1 q c1) (ints (sizesP k b size))) := Lib.hid (by
            rw [List.take_of_length_le (by rw [sizesP_length, ← HQ.out]; exact Nat.le_refl _)] at ho; exact ho)
          have HX := Lib.hid hx
          clear ho hx hb c0 c2 hzz he hjs
          by_cases hq4 : 4096 < q
          · go_wp2_with fail
            go_ret2
            exact ⟨⟨_, 3, rfl, ⟨fun e => absurd e (by decide), fun e => absurd e.2.2 (by rw [← HQ.out]; omega)⟩, fun e => absurd e (by decide)⟩, HX1.out.trans HX.out⟩
          · go_wp2_with fail
            go_ret2
            exact ⟨⟨_, 0, rfl, ⟨fun _ => ⟨HS.out, h1, by rw [← HQ.out]; omega⟩, fun _ => rfl⟩, fun _ => HO.out.mono HX1.out.le⟩, HX1.out.trans HX.out⟩
  · have hd := decide_eq_false hS
    have HN := Lib.hid hS
    go_enter Try.func110, Try.ntmps110
    go_wp2_with (refine wpList_load_at rfl 39 _ rfl ⟨w.heap.size, 0, none⟩ rfl _ _ HB.out.cells Try.underlying39 rfl (by kernel_rfl) ?_)
    refine (rfits_n k m b _ (by omega) (by omega)).mono ?_
    rw [hd]
    rintro e w1 ⟨rfl, hx1⟩
    have HX1 := Lib.hid (HX.out.trans hx1)
    clear hd hS hx1
    go_wp2
    go_ret2
    exact ⟨⟨_, 4, rfl, ⟨fun e => absurd e (by decide), fun e => absurd e.1 HN.out⟩, fun e => absurd e (by decide)⟩, HX1.out⟩
end Go.Proofs.Ytdoeelfcihdmbaa
/-
  Layer 8, the reference: what a head may be; how long a form is.
-/
namespace Go.Proofs.Ytdoeelfcihdmbaa
open Go.RowKit Gf
set_option maxRecDepth 20000
set_option linter.unusedVariables false

set_option maxHeartbeats 8000000 in
theorem rcheck_n (h : HeadP) (w : World) (hk : h.k ≤ 1000000) (hm : h.m ≤ 1000000) (hz : h.size ≤ 4294967296) (hi : h.idx ≤ 1000000) (he : h.epoch ≤ 1000000000000) (hc : h.count ≤ 1000000000000) (hl : h.key.length ≤ 1000000000000) :
    Calls Try.prog 98 #[.agg (headC h)] w fun e w' => (∃ z : Int, e = .returned (.int .i64 z) ∧ (z = 0 ↔ okHead h)) ∧ Ext w w' := by
  have hx : Ext w (w.alloc (.cells (headC h) 43)) := (Ext.refl w).alloc _
  have hb : Blk (w.alloc (.cells (headC h) 43)) w.heap.size 43 (headC h) := Blk.new _ _ _
  have HX := Lib.hid hx
  have HB := Lib.hid hb
  clear hx hb
  have i8 : (headC h)[8]? = some (.int .i64 (h.k : Int)) := rfl
  have i9 : (headC h)[9]? = some (.int .i64 (h.m : Int)) := rfl
  have i11 : (headC h)[11]? = some (.string (strB h.key)) := rfl
  have i12 : (headC h)[12]? = some (.int .i64 (h.size : Int)) := rfl
  have i13 : (headC h)[13]? = some (.int .i64 (h.idx : Int)) := rfl
  have i14 : (headC h)[14]? = some (.int .i64 (h.epoch : Int)) := rfl
  have i15 : (headC h)[15]? = some (.int .i64 (h.count : Int)) := rfl
  have hsz := strB_size h.key
  have HL8 : Hid (∀ j v, (shapeC h)[j]? = some v → (headC h)[8 + j]? = some v) := Lib.hid (shape_in h)
  have arm : ∀ (w' : World), Blk w' w.heap.size 43 (headC h) → ∀ j v, (shapeC h)[j]? = some v → w'.cell? ((⟨w.heap.size, 8, none⟩ : Addr).add j) = some v := fun w' hb => hb.sub 8 (shapeC h) HL8.out
  have HARM := Lib.hid arm
  clear arm
  by_cases hS : okShape h.k h.m h.blk
  · have hd := decide_eq_true hS
    by_cases hK : 1 ≤ h.key.length ∧ h.key.length ≤ 255
    · obtain ⟨hK1, hK2⟩ := hK
      have HS := Lib.hid hS
      go_enter Try.func98, Try.ntmps98
      go_wp2_with (refine wpList_load_at rfl 39 _ rfl ⟨w.heap.size, 8, none⟩ rfl (shapeC h) _ (HARM.out _ HB.out) Try.underlying39 rfl (by kernel_rfl) ?_)
      refine (rfits_n h.k h.m h.blk _ (by omega) (by omega)).mono ?_
      rw [hd]
      rintro e w1 ⟨rfl, hx1⟩
      clear hd hS
      have hb1 := HB.out.below hx1 HB.out.lt
      have c11 := hb1.cell 11
      have c12 := hb1.cell 12
      rw [i11] at c11
      rw [i12] at c12
      have HB1 := Lib.hid hb1
      have HX1 := Lib.hid (HX.out.trans hx1)
      clear hx1 hb1
      go_wp2_with (refine wpList_load_at rfl 39 _ rfl ⟨w.heap.size, 8, none⟩ rfl (shapeC h) _ (HARM.out _ HB1.out) Try.underlying39 rfl (by kernel_rfl) ?_)
      refine (rsizes_n h.k h.m h.blk h.size _ hk hm hz).mono ?_
      rintro e w2 ⟨⟨v, z, rfl, hz0, -⟩, hx2⟩
      have hb2 := HB1.out.below hx2 HB1.out.lt
      have c13 := hb2.cell 13
      have c14 := hb2.cell 14
      have c15 := hb2.cell 15
      have d8 := hb2.cell 8
      have d9 := hb2.cell 9
      rw [i13] at c13
      rw [i14] at c14
      rw [i15] at c15
      rw [i8] at d8
      rw [i9] at d9
      have HX2 := Lib.hid (HX1.out.trans hx2)
      have HZ := Lib.hid hz0
      clear hx2 hb2 hz0 c11 c12
      by_cases hz1 : z = 0
      · subst hz1
        have hsize := (HZ.out.1 rfl).2
        have HOK : Hid (okHead h ↔ (h.idx < h.k + h.m ∧ 1 ≤ h.epoch ∧ h.epoch ≤ 4294967295 ∧ 1 ≤ h.count ∧ h.count ≤ 4294967295)) := Lib.hid (by
          unfold okHead
          constructor
          · rintro ⟨-, -, -, -, -, h6⟩; exact h6
          · intro h6; exact ⟨HS.out, hK1, hK2, hsize.1, hsize.2, h6⟩)
        clear hsize HZ
        go_wp2
        all_goals
          go_ret
          first | exact ⟨⟨2, rfl, by rw [HOK.out]; omega⟩, HX2.out⟩ | exact ⟨⟨0, rfl, by rw [HOK.out]; omega⟩, HX2.out⟩
      · have HOK : Hid (¬ okHead h) := Lib.hid (fun ho => hz1 (HZ.out.2 ⟨ho.1, ho.2.2.2.1, ho.2.2.2.2.1⟩))
        have g1 : (z != 0) = true := by rw [bne_iff_ne]; exact hz1
        clear HZ
        go_wp2
        go_ret
        exact ⟨⟨z, rfl, ⟨fun e => absurd e hz1, fun e => absurd e HOK.out⟩⟩, HX2.out⟩
    · have HOK : Hid (¬ okHead h) := Lib.hid (fun ho => hK ⟨ho.2.1, ho.2.2.1⟩)
      go_enter Try.func98, Try.ntmps98
      go_wp2_with (refine wpList_load_at rfl 39 _ rfl ⟨w.heap.size, 8, none⟩ rfl (shapeC h) _ (HARM.out _ HB.out) Try.underlying39 rfl (by kernel_rfl) ?_)
      refine (rfits_n h.k h.m h.blk _ (by omega) (by omega)).mono ?_
      rw [hd]
      rintro e w1 ⟨rfl, hx1⟩
      clear hd hS
      have hb1 := HB.out.below hx1 HB.out.lt
      have c11 := hb1.cell 11
      rw [i11] at c11
      have HX1 := Lib.hid (HX.out.trans hx1)
      have hK4 : h.key.length = 0 ∨ 255 < h.key.length := by omega
      clear hx1 hb1 hK
      rcases hK4 with hK4 | hK4
      · go_wp2
        go_ret
        exact ⟨⟨90, rfl, ⟨fun e => absurd e (by decide), fun e => absurd e HOK.out⟩⟩, HX1.out⟩
      · go_wp2
        go_ret
        exact ⟨⟨90, rfl, ⟨fun e => absurd e (by decide), fun e => absurd e HOK.out⟩⟩, HX1.out⟩
  · have hd := decide_eq_false hS
    have HOK : Hid (¬ okHead h) := Lib.hid (fun ho => hS ho.1)
    go_enter Try.func98, Try.ntmps98
    go_wp2_with (refine wpList_load_at rfl 39 _ rfl ⟨w.heap.size, 8, none⟩ rfl (shapeC h) _ (HARM.out _ HB.out) Try.underlying39 rfl (by kernel_rfl) ?_)
    refine (rfits_n h.k h.m h.blk _ (by omega) (by omega)).mono ?_
    rw [hd]
    rintro e w1 ⟨rfl, hx1⟩
    have HX1 := Lib.hid (HX.out.trans hx1)
    clear hd hS hx1
    go_wp2
    go_ret
    exact ⟨⟨4, rfl, ⟨fun e => absurd e (by decide), fun e => absurd e HOK.out⟩⟩, HX1.out⟩
set_option maxHeartbeats 4000000 in
theorem rlength_n (h : HeadP) (w : World) (ho : okHead h) : Calls Try.prog 108 #[.agg (headC h)] w fun e w' => e = .returned (.tuple #[.int .i64 (lenP h : Int), .int .i64 0]) ∧ Ext w w' := by
  have HO := Lib.hid ho
  have hkl : h.key.length ≤ 255 := ho.2.2.1
  obtain ⟨hs1, hs2, hs3, hs4, hs5, hs6, hs7, hs8⟩ := ho.small
  have hb : Blk (w.alloc (.cells (headC h) 43)) w.heap.size 43 (headC h) := Blk.new _ _ _
  have HB := Lib.hid hb
  have HX := Lib.hid ((Ext.refl w).alloc (.cells (headC h) 43))
  have i11 : (headC h)[11]? = some (.string (strB h.key)) := rfl
  have i12 : (headC h)[12]? = some (.int .i64 (h.size : Int)) := rfl
  have hsz := strB_size h.key
  have HARM : Hid (∀ (w' : World), Blk w' w.heap.size 43 (headC h) → ∀ j v, (shapeC h)[j]? = some v → w'.cell? ((⟨w.heap.size, 8, none⟩ : Addr).add j) = some v) := Lib.hid fun w' hb => hb.sub 8 (shapeC h) (shape_in h)
  clear ho hb
  go_enter Try.func108, Try.ntmps108
  go_wp2_with (refine wpList_load_at rfl 43 _ rfl ⟨w.heap.size, 0, none⟩ rfl (headC h) _ HB.out.cells Try.underlying43 rfl (by kernel_rfl) ?_)
  refine (rcheck_n h _ (by omega) (by omega) (by omega) (by omega) (by omega) (by omega) (by omega)).mono ?_
  rintro e w1 ⟨⟨z, rfl, hz0⟩, hx1⟩
  obtain rfl : z = 0 := hz0.2 HO.out
  have hb1 := HB.out.below hx1 HB.out.lt
  have c12 := hb1.cell 12
  rw [i12] at c12
  have HB1 := Lib.hid hb1
  have HX1 := Lib.hid (HX.out.trans hx1)
  clear hx1 hb1 hz0
  go_wp2_with (refine wpList_load_at rfl 39 _ rfl ⟨w.heap.size, 8, none⟩ rfl (shapeC h) _ (HARM.out _ HB1.out) Try.underlying39 rfl (by kernel_rfl) ?_)
  refine (rsizes_n h.k h.m h.blk h.size _ (by omega) (by omega) (by omega)).mono ?_
  rintro e W ⟨⟨v, z, rfl, hz0, how⟩, hx⟩
  obtain rfl : z = 0 := hz0.2 ⟨HO.out.1, HO.out.size_⟩
  obtain ⟨A, c, rfl, hr, hc1, hc2, -⟩ := (how rfl).slice
  obtain ⟨q, hq⟩ : ∃ q, q = (sizesP h.k h.blk h.size).length := ⟨_, rfl⟩
  have hql : q ≤ 4096 := by rw [hq, sizesP_length]; exact HO.out.2.2.2.2.1
  rw [ints_length, ← hq] at hc1 ⊢
  unfold maxLen at hc2
  have hb2 := HB1.out.below hx HB1.out.lt
  have c11 := hb2.cell 11
  rw [i11] at c11
  have HQ := Lib.hid hq
  have HR := Lib.hid hr
  have HX2 := Lib.hid (HX1.out.trans hx)
  clear how hr hx hq i11 i12 hz0 hb2 c12
  go_wp2_with fail
  go_loop [7, 8] (fun s i => ∃ j : Nat, j ≤ q ∧ i = .int .i64 j ∧ s = .int .i64 ((40 + h.key.length + sum4 ((sizesP h.k h.blk h.size).take j) : Nat) : Int)) (fun _ i => q - (intOf i).toNat)
  case atStart => exact ⟨0, by omega, rfl, by simp [sum4]⟩
  case round =>
    obtain ⟨j, hj, rfl, rfl⟩ := hrel
    by_cases hlt : j < q
    · have hjl : j < (sizesP h.k h.blk h.size).length := by rw [← HQ.out]; exact hlt
      obtain ⟨x, hx⟩ : ∃ x, x = (sizesP h.k h.blk h.size)[j] := ⟨_, rfl⟩
      obtain ⟨ad, rfl, hc⟩ := HR.out.at_ (k := j) (u := .int .i64 (x : Int)) (by rw [ints_at, List.getElem?_eq_getElem hjl, hx]; rfl)
      have hxb : x ≤ 65536 := by rw [hx]; exact Nat.le_trans (sizesP_le (by have := HO.out.1.1; have := HO.out.1.2.1; omega) _ (List.getElem_mem hjl)) HO.out.1.2.2.2.2
      obtain ⟨s, hs⟩ : ∃ s, s = 40 + h.key.length + sum4 ((sizesP h.k h.blk h.size).take j) := ⟨_, rfl⟩
      have hsb : s ≤ 1000000000 := by
        have h1 := sum4_le (l := (sizesP h.k h.blk h.size).take j) (n := 65536) fun y hy => Nat.le_trans (sizesP_le (by have := HO.out.1.1; have := HO.out.1.2.1; omega) y (List.mem_of_mem_take hy)) HO.out.1.2.2.2.2
        have h2 : ((sizesP h.k h.blk h.size).take j).length ≤ 4096 := by rw [List.length_take]; omega
        have h3 := Nat.mul_le_mul_right (65536 + 4) h2
        omega
      have HS : Hid (40 + h.key.length + sum4 ((sizesP h.k h.blk h.size).take (j + 1)) = s + (x + 4)) := Lib.hid (by rw [take_snoc' _ j hjl, sum4_snoc, ← hx, hs]; omega)
      rw [← hs]
      clear hx hs
      go_wp2_with fail
      go_round
      case rel => exact ⟨j + 1, by omega, by go_num, by rw [HS.out]; go_num⟩
      case measure => simp [intOf]; omega
    · obtain rfl : q = j := by omega
      have HS : Hid (40 + h.key.length + sum4 ((sizesP h.k h.blk h.size).take q) = lenP h) := Lib.hid (by rw [List.take_of_length_le (by rw [← HQ.out]; exact Nat.le_refl _)]; rfl)
      rw [HS.out]
      go_wp2_with fail
      go_ret2
      exact ⟨rfl, HX2.out⟩
end Go.Proofs.Ytdoeelfcihdmbaa
/-
  A region that draws its order, of operations that read, make memory and call, whatever the order: each says what its value is, and that stays so.
-/
namespace Go.Proofs.Ytdoeelfcihdmbaa
open Go Go.RowKit Gf
set_option linter.unusedVariables false

section
variable {P : Program}
def freeB (n : Nat) : List Oper → Nat → List Tmp → Bool
  | [], _, _ => true
  | o :: l, k, ds => o.guard.isNone && o.after.all (fun e => !Region.binds .any e || decide (e.on < k)) && (match o.dst with | none => true | some d => decide (d < n) && !ds.contains d) && freeB n l (k + 1) (match o.dst with | none => ds | some d => d :: ds)
structure FreeOk (l : List Oper) (n k : Nat) (ds : List Tmp) : Prop where
  guard : ∀ (i : Nat) (o : Oper), l[i]? = some o → o.guard = none
  after : ∀ (i : Nat) (o : Oper), l[i]? = some o → ∀ e ∈ o.after, Region.binds .any e = true → e.on < k + i
  lt : ∀ (i : Nat) (o : Oper) (d : Tmp), l[i]? = some o → o.dst = some d → d < n ∧ d ∉ ds
  one : ∀ (i j : Nat) (o o' : Oper) (d : Tmp), l[i]? = some o → l[j]? = some o' → o.dst = some d → o'.dst = some d → i = j
theorem freeOk_of {n : Nat} : ∀ (l : List Oper) (k : Nat) (ds : List Tmp), freeB n l k ds = true → FreeOk l n k ds
  | [], _, _, _ => ⟨by simp, by simp, by simp, by simp⟩
  | o :: l, k, ds, h => by
    simp only [freeB, Bool.and_eq_true] at h
    obtain ⟨⟨⟨h1, h2⟩, h3⟩, h4⟩ := h
    have ih := freeOk_of l _ _ h4
    have hg : o.guard = none := by simpa using h1
    have hd : ∀ d, o.dst = some d → d < n ∧ d ∉ ds := fun d e => by
      rw [e] at h3
      simpa using h3
    have hin : ∀ d, o.dst = some d → ∀ (j : Nat) (o' : Oper), l[j]? = some o' → o'.dst ≠ some d := fun d e j o' hj e' => by
      have := (ih.lt j o' d hj e').2
      rw [e] at this
      simp at this
    refine ⟨fun i x hi => ?_, fun i x hi e he hb => ?_, fun i x d hi he => ?_, fun i j x y d hi hj hx hy => ?_⟩
    · rcases i with _ | i
      · simp at hi; subst hi; exact hg
      · exact ih.guard i x (by simpa using hi)
    · rcases i with _ | i
      · simp at hi; subst hi
        have := Array.all_eq_true_iff_forall_mem.1 h2 e he
        simp only [hb, Bool.not_true, Bool.false_or, decide_eq_true_eq] at this
        simpa using this
      · have := ih.after i x (by simpa using hi) e he hb
        omega
    · rcases i with _ | i
      · simp at hi; subst hi; exact hd d he
      · have := ih.lt i x d (by simpa using hi) he
        refine ⟨this.1, fun hm => this.2 ?_⟩
        cases o.dst with
        | none => exact hm
        | some d' => exact List.mem_cons_of_mem _ hm
    · rcases i with _ | i <;> rcases j with _ | j
      · rfl
      · simp at hi; subst hi
        exact absurd hy (hin d hx j y (by simpa using hj))
      · simp at hj; subst hj
        exact absurd hx (hin d hy i x (by simpa using hi))
      · rw [ih.one i j x y d (by simpa using hi) (by simpa using hj) hx hy]
/-- All values laid, in the text's order. -/
def putAll (V : Nat → Value) : List Oper → Nat → Act → Act
  | [], _, a => a
  | o :: l, k, a => putAll V l (k + 1) (a.put o.dst (V k))
theorem put_size (a : Act) (d : Option Tmp) (v : Value) : (a.put d v).tmps.size = a.tmps.size := by cases d <;> simp [Act.put]
theorem put_defers (a : Act) (d : Option Tmp) (v : Value) : (a.put d v).defers = a.defers := by cases d <;> rfl
theorem put_get_self (a : Act) {d : Tmp} (v : Value) (h : d < a.tmps.size) : (a.put (some d) v).tmps.getD d undef = v := by simp [Act.put, Array.getD, h]
theorem put_get_ne (a : Act) {d : Option Tmp} {t : Tmp} (v : Value) (h : d ≠ some t) : (a.put d v).tmps.getD t undef = a.tmps.getD t undef := by
  cases d with
  | none => rfl
  | some d =>
    have hne : d ≠ t := fun e => h (by rw [e])
    simp [Act.put, Array.getElem?_setIfInBounds_ne hne]
theorem putAll_size (V : Nat → Value) : ∀ (l : List Oper) (k : Nat) (a : Act), (putAll V l k a).tmps.size = a.tmps.size
  | [], _, _ => rfl
  | o :: l, k, a => by rw [putAll, putAll_size V l, put_size]
theorem putAll_defers (V : Nat → Value) : ∀ (l : List Oper) (k : Nat) (a : Act), (putAll V l k a).defers = a.defers
  | [], _, _ => rfl
  | o :: l, k, a => by rw [putAll, putAll_defers V l, put_defers]
theorem putAll_ne (V : Nat → Value) : ∀ (l : List Oper) (k : Nat) (a : Act) (t : Tmp), (∀ (i : Nat) (o : Oper), l[i]? = some o → o.dst ≠ some t) → (putAll V l k a).tmps.getD t undef = a.tmps.getD t undef
  | [], _, _, _, _ => rfl
  | o :: l, k, a, t, h => by
    rw [putAll, putAll_ne V l (k + 1) _ t (fun i o' hi => h (i + 1) o' (by simpa using hi)), put_get_ne _ _ (h 0 o rfl)]
theorem putAll_get (V : Nat → Value) : ∀ (l : List Oper) (n k : Nat) (ds : List Tmp) (a : Act) (i : Nat) (o : Oper) (d : Tmp), FreeOk l n k ds → a.tmps.size = n → l[i]? = some o → o.dst = some d → (putAll V l k a).tmps.getD d undef = V (k + i)
  | [], _, _, _, _, _, _, _, _, _, h, _ => by simp at h
  | o :: l, n, k, ds, a, i, x, d, hf, hz, hi, hd => by
    have hf' : FreeOk l n (k + 1) [] := ⟨fun i o h => hf.guard (i + 1) o (by simpa using h), fun i o h e he hb => by have := hf.after (i + 1) o (by simpa using h) e he hb; omega,
      fun i o d h he => ⟨(hf.lt (i + 1) o d (by simpa using h) he).1, by simp⟩, fun i j o o' d h h' he he' => by have := hf.one (i + 1) (j + 1) o o' d (by simpa using h) (by simpa using h') he he'; omega⟩
    rcases i with _ | i
    · simp at hi; subst hi
      rw [putAll, putAll_ne V l (k + 1) _ d (fun j o' hj e => by have := hf.one 0 (j + 1) o o' d rfl (by simpa using hj) hd e; omega), hd, put_get_self _ _ (by rw [hz]; exact (hf.lt 0 o d rfl hd).1)]; rfl
    · rw [putAll, putAll_get V l n (k + 1) [] _ i x d hf' (by rw [put_size, hz]) (by simpa using hi) hd, show k + 1 + i = k + (i + 1) by omega]
theorem act_ext {a b : Act} (h1 : a.tmps.size = b.tmps.size) (h2 : ∀ t, a.tmps.getD t undef = b.tmps.getD t undef) (h3 : a.defers = b.defers) : a = b := by
  cases a with | mk ta da =>
  cases b with | mk tb db =>
  simp only at h1 h2 h3
  subst h3
  congr 1
  apply Array.ext h1
  intro i hi1 hi2
  have := h2 i
  simpa [Array.getD, hi1, hi2] using this
/-- What holds on the way. -/
structure FInv (l : List Oper) (R : Nat → Value → World → Prop) (a0 : Act) (w0 : World) (listed : Array Bool) (a : Act) (w : World) : Prop where
  ext : Ext w0 w
  defers : a.defers = a0.defers
  size : a.tmps.size = a0.tmps.size
  keep : ∀ t, (∀ (j : Nat) (o : Oper), l[j]? = some o → listed.getD j false = true → o.dst ≠ some t) → a.tmps.getD t undef = a0.tmps.getD t undef
  val : ∀ (j : Nat) (o : Oper) (d : Tmp), l[j]? = some o → listed.getD j false = true → o.dst = some d → R j (a.tmps.getD d undef) w
theorem getD_flip {listed : Array Bool} {j : Nat} (hj : j < listed.size) : listed.getD j true = listed.getD j false := by simp [Array.getD, hj]
theorem wp_free_go {Q' : Exit → Act → World → Prop} {l : List Oper} {n : Nat} {a0 : Act} {w0 : World} (R : Nat → Value → World → Prop) (hf : FreeOk l n 0 []) (hn : a0.tmps.size = n)
    (hR : ∀ i v w w', Ext w w' → R i v w → R i v w')
    (hstep : ∀ (i : Nat) (o : Oper), l[i]? = some o → ∀ (a : Act) (w : World), Ext w0 w → (∀ t, (∀ (j : Nat) (o : Oper), l[j]? = some o → o.dst ≠ some t) → a.tmps.getD t undef = a0.tmps.getD t undef) →
      (∀ e ∈ o.after, Region.binds .any e = true → ∀ (oe : Oper) (d : Tmp), l[e.on]? = some oe → oe.dst = some d → R e.on (a.tmps.getD d undef) w) → loudly P o a w (fun u w' => R i u w' ∧ Ext w w'))
    (hend : ∀ (V : Nat → Value) (w : World), Ext w0 w → (∀ (i : Nat) (o : Oper) (d : Tmp), l[i]? = some o → o.dst = some d → R i (V i) w) → Q' .normal (putAll V l 0 a0) w) :
    ∀ (fuel : Nat) (listed : Array Bool) (u : List Nat) (a : Act) (w : World), listed.size = l.length → (∀ j, j < l.length → listed.getD j false = false → j ∈ u) → u.length ≤ fuel → FInv l R a0 w0 listed a w → wpAny P .any l.toArray Q' fuel listed a w := by
  have hfin : ∀ (listed : Array Bool) (a : Act) (w : World), listed.size = l.length → (∀ j, j < l.length → listed.getD j false = true) → FInv l R a0 w0 listed a w → Q' .normal a w := fun listed a w hz hall hI => by
    obtain ⟨V, hV⟩ : ∃ V : Nat → Value, V = fun i => match l[i]? with | some o => (match o.dst with | some d => a.tmps.getD d undef | none => undef) | none => undef := ⟨_, rfl⟩
    have hv : ∀ (i : Nat) (o : Oper) (d : Tmp), l[i]? = some o → o.dst = some d → V i = a.tmps.getD d undef := fun i o d hi hd => by rw [hV]; simp only [hi, hd]
    have hlt : ∀ (i : Nat) (o : Oper), l[i]? = some o → i < l.length := fun i o hi => (List.getElem?_eq_some_iff.1 hi).1
    have : a = putAll V l 0 a0 := by
      refine act_ext (by rw [hI.size, putAll_size]) (fun t => ?_) (by rw [hI.defers, putAll_defers])
      by_cases ht : ∃ (j : Nat) (o : Oper), l[j]? = some o ∧ o.dst = some t
      · obtain ⟨j, o, hj, hd⟩ := ht
        rw [putAll_get V l n 0 [] a0 j o t hf hn hj hd, Nat.zero_add, hv j o t hj hd]
      · have hne : ∀ (j : Nat) (o : Oper), l[j]? = some o → o.dst ≠ some t := fun j o hj hd => ht ⟨j, o, hj, hd⟩
        rw [putAll_ne V l 0 a0 t hne, hI.keep t fun j o hj _ => hne j o hj]
    rw [this]
    exact hend V w hI.ext fun i o d hi hd => by rw [hv i o d hi hd]; exact hI.val i o d hi (hall i (hlt i o hi)) hd
  have hnil : ∀ (listed : Array Bool), listed.size = l.length → Region.ready .any l.toArray listed = [] → ∀ j, j < l.length → listed.getD j false = true := fun listed hz hr j => by
    induction j using Nat.strongRecOn with
    | ind j ih =>
      intro hj
      cases hc : listed.getD j false with
      | true => rfl
      | false =>
        exfalso
        have : j ∈ Region.ready .any l.toArray listed := by
          refine mem_ready.2 ⟨by rw [getD_flip (by omega)]; exact hc, l[j], by simp [hj], fun e he hb => ?_⟩
          have := hf.after j l[j] (List.getElem?_eq_getElem hj) e he hb
          exact ih e.on (by omega) (by omega)
        rw [hr] at this; cases this
  intro fuel
  induction fuel with
  | zero =>
    intro listed u a w hz hu hul hI
    have hall : ∀ j, j < l.length → listed.getD j false = true := fun j hj => by
      cases hc : listed.getD j false with
      | true => rfl
      | false =>
        have := hu j hj hc
        have : u = [] := List.eq_nil_of_length_eq_zero (by omega)
        simp_all
    refine ⟨?_, hfin listed a w hz hall hI⟩
    cases hr : Region.ready .any l.toArray listed with
    | nil => rfl
    | cons x xs =>
      exfalso
      have hx : x ∈ Region.ready .any l.toArray listed := by rw [hr]; simp
      obtain ⟨h1, o, ho, -⟩ := mem_ready.1 hx
      have hxl : x < l.length := by have := (Array.getElem?_eq_some_iff.1 ho).1; simpa using this
      rw [getD_flip (by omega), hall x hxl] at h1
      cases h1
  | succ fuel ih =>
    intro listed u a w hz hu hul hI
    refine ⟨fun hr => hfin listed a w hz (hnil listed hz hr) hI, fun i hi => ?_⟩
    obtain ⟨h1, o, ho, hall⟩ := mem_ready.1 hi
    have hil : i < l.length := by have := (Array.getElem?_eq_some_iff.1 ho).1; simpa using this
    have hlo : l[i]? = some o := by simpa using ho
    have h1' : listed.getD i false = false := by rw [← getD_flip (by omega)]; exact h1
    unfold wpOp
    have hw : Region.wanted o (yielded l.toArray a.tmps) = true := by simp [Region.wanted, hf.guard i o hlo]
    simp only [ho, hw, if_true]
    have hl := hstep i o hlo a w hI.ext (fun t ht => hI.keep t fun j o hj _ => ht j o hj) (fun e he hb oe d hoe hd => hI.val e.on oe d hoe (hall e he hb) hd)
    refine .inl ((hl.mono fun v w' ⟨hv, hx⟩ => ?_ : loudly P o a w (fun v w' => wpAny P .any l.toArray Q' fuel (listed.setIfInBounds i true) (a.put o.dst v) w')).wp)
    refine ih _ (u.erase i) _ w' (by simpa using hz) (fun j hj hc => ?_) ?_ ?_
    · have hij : i ≠ j := fun e => by subst e; simp [Array.getD, hz, hil] at hc
      rw [getD_set_ne false hij] at hc
      exact (List.mem_erase_of_ne (Ne.symm hij)).2 (hu j hj hc)
    · have := List.length_erase_of_mem (hu i hil h1')
      have := List.length_pos_of_mem (hu i hil h1')
      omega
    · have hset : ∀ j, (listed.setIfInBounds i true).getD j false = true → j = i ∨ (j ≠ i ∧ listed.getD j false = true) := fun j hj => by
        by_cases hij : i = j
        · exact .inl hij.symm
        · rw [getD_set_ne false hij] at hj; exact .inr ⟨fun e => hij e.symm, hj⟩
      refine ⟨hI.ext.trans hx, by rw [put_defers, hI.defers], by rw [put_size, hI.size], fun t ht => ?_, fun j oj d hj hlj hd => ?_⟩
      · rw [put_get_ne _ _ (ht i o hlo (by simp [Array.getD, hz, hil]))]
        exact hI.keep t fun j o' hj hlj => ht j o' hj (getD_set_true hlj)
      · rcases hset j hlj with e | ⟨hne, hlj⟩
        · subst e
          obtain rfl : oj = o := by rw [hlo] at hj; exact (Option.some.inj hj).symm
          rw [hd, put_get_self _ _ (by rw [hI.size, hn]; exact (hf.lt j oj d hj hd).1)]
          exact hv
        · rw [put_get_ne _ _ (fun e => hne (hf.one j i oj o d hj hlo hd e))]
          exact hR j _ w w' hx (hI.val j oj d hj hlj hd)
/-- THE REGION. -/
theorem wp_region_free {id : Nat} {Q' : Exit → Act → World → Prop} {l : List Oper} {a0 : Act} {w : World} (n : Nat) (R : Nat → Value → World → Prop) (hm : P.follows .mixedOrders = true) (hB : freeB n l 0 [] = true) (hn : a0.tmps.size = n)
    (hR : ∀ i v w w', Ext w w' → R i v w → R i v w')
    (hstep : ∀ (i : Nat) (o : Oper), l[i]? = some o → ∀ (a : Act) (w1 : World), Ext w.drew w1 → (∀ t, (∀ (j : Nat) (o : Oper), l[j]? = some o → o.dst ≠ some t) → a.tmps.getD t undef = a0.tmps.getD t undef) →
      (∀ e ∈ o.after, Region.binds .any e = true → ∀ (oe : Oper) (d : Tmp), l[e.on]? = some oe → oe.dst = some d → R e.on (a.tmps.getD d undef) w1) → loudly P o a w1 (fun u w' => R i u w' ∧ Ext w1 w'))
    (hend : ∀ (V : Nat → Value) (w1 : World), Ext w.drew w1 → (∀ (i : Nat) (o : Oper) (d : Tmp), l[i]? = some o → o.dst = some d → R i (V i) w1) → Q' .normal (putAll V l 0 a0) w1) : (Code.region id l.toArray true).wp P Q' a0 w := by
  refine wp_region_any hm ?_
  refine wp_free_go (a0 := a0) (w0 := w.drew) R (freeOk_of l 0 [] hB) hn hR hstep hend _ _ (List.range l.length) a0 w.drew (by simp) (fun j hj _ => by simpa using hj) (by simp) ?_
  exact ⟨Ext.refl _, rfl, rfl, fun _ _ => rfl, fun j o d hj hl => by simp [Array.getD] at hl⟩
/-- What a value is, and stays. -/
structure St where
  p : Value → World → Prop
  ext : ∀ v w w', Ext w w' → p v w → p v w'
def St.any : St := ⟨fun _ _ => True, fun _ _ _ _ h => h⟩
def St.is (u : Value) : St := ⟨fun v _ => v = u, fun _ _ _ _ h => h⟩
def St.row (r : List E) : St := ⟨fun v w => ∃ A c, v = .slice A r.length c ∧ Rd w A (bs r), fun _ _ _ hx ⟨A, c, h1, h2⟩ => ⟨A, c, h1, h2.ext hx⟩⟩
def St.own (B : Nat) (T : TypeId) (xs : List Value) : St := ⟨fun v w => Own w B T v xs, fun _ _ _ hx h => h.ext hx⟩
def St.rows (rs : List (List E)) : St := ⟨fun v w => ∃ A c, v = .slice A rs.length c ∧ JRows w A rs, fun _ _ _ hx ⟨A, c, h1, h2⟩ => ⟨A, c, h1, h2.ext hx⟩⟩
def allSteps (S : Nat → Oper → Prop) : List Oper → Nat → Prop
  | [], _ => True
  | o :: l, k => S k o ∧ allSteps S l (k + 1)
theorem allSteps_at {S : Nat → Oper → Prop} : ∀ (l : List Oper) (k : Nat), allSteps S l k → ∀ (i : Nat) (o : Oper), l[i]? = some o → S (k + i) o
  | [], _, _, _, _, h => by simp at h
  | x :: l, k, h, i, o, hi => by
    rcases i with _ | i
    · simp at hi; subst hi; exact h.1
    · have := allSteps_at l (k + 1) h.2 i o (by simpa using hi)
      rwa [show k + 1 + i = k + (i + 1) by omega] at this
def keepB (l : List Oper) (t : Tmp) : Bool := l.all fun o => o.dst != some t
def depB (l : List Oper) (o : Oper) (j : Nat) (d : Tmp) : Bool := o.after.any (fun e => Region.binds .any e && e.on == j) && ((l[j]?).bind (·.dst) == some d)
def dstB (l : List Oper) (j : Nat) (d : Tmp) : Bool := (l[j]?).bind (·.dst) == some d
theorem wp_region_st {id : Nat} {Q' : Exit → Act → World → Prop} {l : List Oper} {a0 : Act} {w : World} (n : Nat) (RL : List St) (hm : P.follows .mixedOrders = true) (hB : freeB n l 0 [] = true) (hn : a0.tmps.size = n)
    (hstep : allSteps (fun i o => ∀ (a : Act) (w1 : World), Ext w.drew w1 → (∀ t, keepB l t = true → a.tmps.getD t undef = a0.tmps.getD t undef) →
      (∀ j d, depB l o j d = true → (RL.getD j St.any).p (a.tmps.getD d undef) w1) → loudly P o a w1 (fun u w' => (RL.getD i St.any).p u w' ∧ Ext w1 w')) l 0)
    (hend : ∀ (V : Nat → Value) (w1 : World), Ext w.drew w1 → (∀ j d, dstB l j d = true → (RL.getD j St.any).p (V j) w1) → Q' .normal (putAll V l 0 a0) w1) : (Code.region id l.toArray true).wp P Q' a0 w := by
  refine wp_region_free n (fun i => (RL.getD i St.any).p) hm hB hn (fun i v w w' hx h => (RL.getD i St.any).ext v w w' hx h) (fun i o hi a w1 hx hk hd => ?_) fun V w1 hx hv => hend V w1 hx fun j d h => ?_
  · have := allSteps_at l 0 hstep i o hi a w1 hx (fun t ht => hk t fun j o hj e => ?_) (fun j d h => ?_)
    · rwa [Nat.zero_add] at this
    · have := (List.all_eq_true.1 ht) o (List.mem_of_getElem? hj)
      simp [e] at this
    · simp only [depB, Bool.and_eq_true, beq_iff_eq] at h
      obtain ⟨h1, h2⟩ := h
      obtain ⟨e, he, hb⟩ := Array.any_eq_true'.1 h1
      simp only [Bool.and_eq_true, beq_iff_eq] at hb
      obtain ⟨hb1, rfl⟩ := hb
      obtain ⟨oe, ho, hd'⟩ := Option.bind_eq_some_iff.1 h2
      exact hd e he hb1 oe d ho hd'
  · obtain ⟨oe, ho, hd'⟩ := Option.bind_eq_some_iff.1 (by simpa [dstB] using h)
    exact hv j oe d ho hd'
theorem loudly_ok {o : Oper} {a : Act} {w : World} {K : Value → World → Prop} (u : Value) (w' : World) (h : (execOp a.eval o).run P w = .ok (.value u) w') (hk : K u w') : loudly P o a w K := .inl ⟨u, w', h, hk⟩
theorem loudly_still {o : Oper} {a : Act} {w : World} {S : St} (u : Value) (h : (execOp a.eval o).run P w = .ok (.value u) w) (hk : S.p u w) : loudly P o a w (fun u w' => S.p u w' ∧ Ext w w') := .inl ⟨u, w, h, hk, Ext.refl _⟩
theorem loudly_call {o : Oper} {a : Act} {w : World} {K : Value → World → Prop} (f : FuncId) (args : Array Value) (h : (execOp a.eval o).run P w = .ok (.enter f args) w) (hc : Calls P f args w fun e w'' => ∃ u, e = .returned u ∧ K u w'') : loudly P o a w K := .inr (.inr ⟨f, args, w, h, hc⟩)
end
end Go.Proofs.Ytdoeelfcihdmbaa
