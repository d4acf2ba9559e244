/-
  Texts of mine, merged: TopD TopE TopG TopF OpenU4.
-/
import Derived.Test.YtdoeelfcihdmbaaG3
import Derived.Test.YtdoeelfcihdmbaaG6
import Derived.Test.YtdoeelfcihdmbaaG12
import Derived.Lib.SlBytesConst
import Derived.Laws.BytesString
import Derived.Deep.DeepCutAuto
import Derived.Deep.CutBlock
/-
  The law through the layers: one object that is known.
-/
namespace Go.Proofs.Ytdoeelfcihdmbaa
open Go.RowKit Gf
set_option maxRecDepth 20000
set_option linter.unusedVariables false
def hdA : HeadP := { store := List.replicate 8 0, k := 2, m := 1, blk := 4, key := [E.of 97], size := 0, idx := 0, epoch := 1, count := 1 }
def datA : List E := [E.of 104, E.of 101, E.of 108, E.of 108, E.of 111]
theorem okA : okHead (splH hdA 5) := by decide
theorem szA : sizesP 2 4 5 = [3] := by decide
theorem parA : blocksP 2 3 [3] datA 2 = [[E.of 96, E.of 113, E.of 180]] := by kernel_rfl
theorem onA : blocksP 2 3 [3] datA 1 = [[E.of 108, E.of 111, E.of 0]] := by kernel_rfl
theorem formP_small {h : HeadP} {l : List (List E)} (ho : okHead h) (hs : h.store.length = 8) (hl : l.map List.length = sizesP h.k h.blk h.size) : (formP h l).length ≤ 100000000000 := by
  have h1 : (formP h l).length = 40 + h.key.length + sum4 (sizesP h.k h.blk h.size) := by
    rw [formP, headBytesP, ← hl, ← frames_len (sumP h) l 0]
    simp only [List.length_append, le_length, fixedP_length hs]; omega
  have hk : 0 < h.k := by have := ho.1; unfold okShape at this; omega
  have h2 := sum4_le (sizesP_le (blk := h.blk) (size := h.size) hk)
  rw [sizesP_length] at h2
  have h3 : stripesP h.k h.blk h.size * (h.blk + 4) ≤ 4096 * 65540 := Nat.mul_le_mul ho.2.2.2.2.1 (by have := ho.1; unfold okShape at this; omega)
  have h4 := ho.small
  rw [h1]; omega
theorem RdRows.first {w : World} {A : Option Addr} {r : List E} (h : RdRows w A [r]) (hp : 0 < r.length) : ∃ ad bd c, A = some ad ∧ w.cell? ad = some (.slice (some bd) r.length c) ∧ Rd w (some bd) (bs r) := by
  obtain ⟨ad, bd, c, rfl, h2, h3⟩ := h.ne_at (by intro x hx; simp at hx; rw [hx]; exact hp) (i := 0) (by simp)
  exact ⟨ad, bd, c, rfl, by simpa [Addr.add] using h2, h3⟩
theorem conv3 (w : World) (a b c : E) : (convert 24 9 (.slice (some ⟨w.heap.size, 0, none⟩) 3 3)).run Try.prog (w.alloc (.cells #[bv a, bv b, bv c] 5)) = .ok (.string ⟨(bytesU [a, b, c]).toArray⟩) (w.alloc (.cells #[bv a, bv b, bv c] 5)) := by
  refine convert_n (xs := [a, b, c]) (L := 3) rfl (fun _ => ⟨_, rfl, fun j u hu => ?_⟩) 3
  have hb := Blk.new w 5 #[bv a, bv b, bv c]
  exact hb.cells j u (by rw [← hu]; simp [bs, bv])
def helloC : Array Value := #[.int .u8 104, .int .u8 101, .int .u8 108, .int .u8 108, .int .u8 111]
theorem hello_rd (w : World) (fr : Nat × Nat) : Rd (w.alloc (.cells helloC 5 fr)) (some ⟨w.heap.size, 0, none⟩) (bs datA) := fun _ => ⟨_, rfl, fun j u hu => by
  have h := World.cell?_alloc_mark w helloC 5 fr j
  have ea : (⟨w.heap.size, 0, none⟩ : Addr).add j = ⟨w.heap.size, j, none⟩ := by unfold Addr.add; split <;> simp_all
  rw [ea, h]
  have e : (bs datA)[j]? = helloC[j]? := by
    have : bs datA = helloC.toList := by kernel_rfl
    rw [this]; simp
  rw [← e]; exact hu⟩
set_option maxHeartbeats 8000000 in
theorem alive_n (w : World) : Calls Try.prog 31 #[] w fun e w' => e = .returned (.bool true) ∧ Ext w w' := by
  have hmo : Try.prog.follows Departure.mixedOrders = true := by kernel_rfl
  obtain ⟨W0, hW0⟩ : ∃ W0, W0 = w.alloc (.cells helloC 5 (5, 6)) := ⟨_, rfl⟩
  have hcv : (convert 24 24 (.slice (some ⟨w.heap.size, 0, none⟩) 5 5)).run Try.prog (w.alloc (.cells helloC 5)) = .ok (.slice (some ⟨w.heap.size, 0, none⟩) 5 5) W0 := by
    rw [hW0]; exact Lib.run_convert_bytes_const (P := Try.prog) w 24 5 helloC 5 5 Try.underlying24 (by kernel_rfl)
  have hx0 : Ext w W0 := by rw [hW0]; exact (Ext.refl w).alloc _
  have hr0 : Rd W0 (some ⟨w.heap.size, 0, none⟩) (bs datA) := by rw [hW0]; exact hello_rd w _
  have hsp := Lib.hid (split_n hdA (some ⟨w.heap.size, 0, none⟩) 5 5 datA W0 rfl hr0 (by decide) (by decide) rfl (by decide) (by decide) (by decide) (by decide) (by decide) (by decide))
  have HX0 := Lib.hid hx0
  clear hW0 hx0 hr0
  unfold helloC at hcv
  go_enter Try.func31, Try.ntmps31
  go_wp2_with (go_at_call 96; refine hsp.out.mono ?_; rintro e w5 ⟨hc5, hx5⟩; have HC5 := Lib.hid hc5; have HX5 := Lib.hid (HX0.out.trans hx5); clear hc5 hx5 hcv; rcases HC5.out with ⟨h, -⟩ | ⟨-, g, l, he, hl, hh, -, -, hp, -, -⟩; exact absurd okA h; have he' : e = .returned (.tuple #[.slice (some ⟨g, 0, none⟩) 3 3, .int .i64 0]) := he; subst he'; clear he; have HP := Lib.hid (And.intro hl (And.intro hh hp)); clear hl hh hp HC5)
  have hlen : l.length = 3 := HP.out.1
  have hpt : Parts w5 g (splH hdA 5) [3] (blocksP 2 3 [3] datA) l := by
    have := HP.out.2.2
    rw [show sizesP hdA.k hdA.blk datA.length = [3] from szA] at this
    exact this
  obtain ⟨p2, hp2⟩ : ∃ p, l[2]? = some p := ⟨_, List.getElem?_eq_getElem (by omega)⟩
  obtain ⟨p1, hp1⟩ : ∃ p, l[1]? = some p := ⟨_, List.getElem?_eq_getElem (by omega)⟩
  obtain ⟨h2, v2⟩ := p2
  obtain ⟨h1, v1⟩ := p1
  obtain rfl : h2 = withIdx (splH hdA 5) 2 := HP.out.2.1 2 _ hp2
  obtain rfl : h1 = withIdx (splH hdA 5) 1 := HP.out.2.1 1 _ hp1
  obtain ⟨A2, c2, hv2, hr2⟩ : ∃ A c, v2 = .slice A 1 c ∧ RdRows w5 A [[E.of 96, E.of 113, E.of 180]] := by
    rcases hpt.each 2 _ hp2 with ⟨h, -⟩ | ⟨-, A, c, e1, e2, -, -⟩
    · exact absurd (show (2 : Nat) = 0 from congrArg HeadP.k h) (by decide)
    · rw [parA] at e2; exact ⟨A, c, e1, e2⟩
  obtain ⟨A1, c1, hv1, hr1⟩ : ∃ A c, v1 = .slice A 1 c ∧ RdRows w5 A [[E.of 108, E.of 111, E.of 0]] := by
    rcases hpt.each 1 _ hp1 with ⟨h, -⟩ | ⟨-, A, c, e1, e2, -, -⟩
    · exact absurd (show (2 : Nat) = 0 from congrArg HeadP.k h) (by decide)
    · rw [onA] at e2; exact ⟨A, c, e1, e2⟩
  subst hv1 hv2
  obtain ⟨ad, bd, cd, rfl, hc2, hrb⟩ := hr2.first (by decide)
  have k50 : w5.cell? ⟨g, 50, none⟩ = some (.slice (some ad) 1 c2) := hpt.rd 2 _ hp2 16 _ rfl
  have q50 := fun w' (hx : Ext w5 w') => (hx.cell (World.block_lt_of_cell? _ _ k50)).trans k50
  have qad : ∀ w', Ext w5 w' → w'.cell? ad = some (.slice (some bd) 3 cd) := fun w' (hx : Ext w5 w') => (hx.cell (World.block_lt_of_cell? _ _ hc2)).trans hc2
  have eS : (⟨(bytesU [E.of 96, E.of 113, E.of 180]).toArray⟩ : ByteArray) = ⟨#[96, 113, 180]⟩ := by decide
  have qS : ∀ w', Ext w5 w' → (convert 24 9 (.slice (some bd) 3 cd)).run Try.prog w' = .ok (.string ⟨#[96, 113, 180]⟩) w' := fun w' hx => by
    rw [← eS]; exact convert_n rfl (hrb.ext hx) cd
  have HR1 := Lib.hid (And.intro hr1 (hpt.rd.shard hp1))
  clear hpt hp1 hp2 hr1 hrb hc2 k50 HP hlen eS
  refine Grd.wp_region_mix (fun i => [3, 3, 3, 3, 3, 3, 3, 3, 3, 3, 3, 0, 3, 3, 3, 3, 3, 3, 3, 0, 3, 0, 0, 1, 1, 3, 3].getD i 0) (fun w' => Ext w5 w') hmo (by kernel_rfl) (by kernel_rfl) ((Ext.refl w5).drewN 1) ?_
  obtain ⟨Wd, hWd⟩ : ∃ Wd, Wd = w5.drew := ⟨_, rfl⟩
  have hxd : Ext w5 Wd := by rw [hWd]; exact (Ext.refl w5).drewN 1
  rw [← hWd]
  clear hWd
  refine Grd.mix_pure (.int .i64 0) rfl (by kernel_rfl) (fun w' => by go_simp) ?_
  refine Grd.mix_pure (.bool false) rfl (by kernel_rfl) (fun w' => by go_simp) ?_
  refine Grd.mix_pure (.bool false) rfl (by kernel_rfl) (fun w' => by go_simp) ?_
  refine Grd.mix_pure (.slice (some ⟨g, 0, none⟩) 3 3) rfl (by kernel_rfl) (fun w' => by go_simp) ?_
  refine Grd.mix_pure (.int .i64 3) rfl (by kernel_rfl) (fun w' => by go_simp) ?_
  refine Grd.mix_pure (.bool false) rfl (by kernel_rfl) (fun w' => by go_simp) ?_
  refine Grd.mix_pure (.bool false) rfl (by kernel_rfl) (fun w' => by go_simp) ?_
  refine Grd.mix_pure (.bool false) rfl (by kernel_rfl) (fun w' => by go_simp) ?_
  refine Grd.mix_pure (.slice (some ⟨g, 0, none⟩) 3 3) rfl (by kernel_rfl) (fun w' => by go_simp) ?_
  refine Grd.mix_pure (.pointer (some ⟨g, 34, none⟩)) rfl (by kernel_rfl) (fun w' => by go_simp) ?_
  refine Grd.mix_pure (.pointer (some ⟨g, 50, none⟩)) rfl (by kernel_rfl) (fun w' => by go_simp) ?_
  refine Grd.mix_still (.slice (some ad) 1 c2) rfl (by kernel_rfl) (fun w' hw' => by have := q50 w' hw'; go_simp) ?_
  refine Grd.mix_pure (.int .i64 1) rfl (by kernel_rfl) (fun w' => by go_simp) ?_
  refine Grd.mix_pure (.bool false) rfl (by kernel_rfl) (fun w' => by go_simp) ?_
  refine Grd.mix_pure (.bool false) rfl (by kernel_rfl) (fun w' => by go_simp) ?_
  refine Grd.mix_pure (.bool false) rfl (by kernel_rfl) (fun w' => by go_simp) ?_
  refine Grd.mix_pure (.slice (some ⟨g, 0, none⟩) 3 3) rfl (by kernel_rfl) (fun w' => by go_simp) ?_
  refine Grd.mix_pure (.pointer (some ⟨g, 34, none⟩)) rfl (by kernel_rfl) (fun w' => by go_simp) ?_
  refine Grd.mix_pure (.pointer (some ⟨g, 50, none⟩)) rfl (by kernel_rfl) (fun w' => by go_simp) ?_
  refine Grd.mix_still (.slice (some ad) 1 c2) rfl (by kernel_rfl) (fun w' hw' => by have := q50 w' hw'; go_simp) ?_
  refine Grd.mix_pure (.pointer (some ad)) rfl (by kernel_rfl) (fun w' => by go_simp) ?_
  refine Grd.mix_still (.slice (some bd) 3 cd) rfl (by kernel_rfl) (fun w' hw' => by have := qad w' hw'; go_simp) ?_
  refine Grd.mix_still (.string ⟨#[96, 113, 180]⟩) rfl (by kernel_rfl) (fun w' hw' => by have := qS w' hw'; go_simp) ?_
  have hx1 : Ext w5 (Wd.alloc (.cells #[.int .u8 96, .int .u8 113, .int .u8 180] 5)) := hxd.alloc _
  refine Grd.mix_laid (.slice (some ⟨Wd.heap.size, 0, none⟩) 3 3) (Wd.alloc (.cells #[.int .u8 96, .int .u8 113, .int .u8 180] 5)) rfl (by kernel_rfl) (by go_simp) hx1 ?_
  have qN : (convert 24 9 (.slice (some ⟨Wd.heap.size, 0, none⟩) 3 3)).run Try.prog (Wd.alloc (.cells #[.int .u8 96, .int .u8 113, .int .u8 180] 5)) = .ok (.string ⟨#[96, 113, 180]⟩) (Wd.alloc (.cells #[.int .u8 96, .int .u8 113, .int .u8 180] 5)) := by
    exact conv3 Wd (E.of 96) (E.of 113) (E.of 180)
  refine Grd.mix_laid (.string ⟨#[96, 113, 180]⟩) (Wd.alloc (.cells #[.int .u8 96, .int .u8 113, .int .u8 180] 5)) rfl (by kernel_rfl) (by go_simp) hx1 ?_
  obtain ⟨w6, hw6⟩ : ∃ w6, w6 = Wd.alloc (.cells #[.int .u8 96, .int .u8 113, .int .u8 180] 5) := ⟨_, rfl⟩
  rw [← hw6] at hx1 ⊢
  have HX6 := Lib.hid (And.intro (HX5.out.trans hx1) hx1)
  clear hxd hx1 hw6 qN qS qad q50
  refine Grd.mix_pure (.bool false) rfl (by kernel_rfl) (fun w' => by go_simp) ?_
  refine Grd.mix_pure (.bool false) rfl (by kernel_rfl) (fun w' => by go_simp) ?_
  refine Grd.mix_nil ?_
  obtain ⟨hE, hhE⟩ : ∃ h, h = withIdx (splH hdA 5) 1 := ⟨_, rfl⟩
  obtain ⟨bE, hbE⟩ : ∃ b, b = [[E.of 108, E.of 111, E.of 0]] := ⟨_, rfl⟩
  have o1 : okHead hE := by rw [hhE]; decide
  have o2 : hE.store.length = 8 := by rw [hhE]; rfl
  have o3 : bE.map List.length = sizesP hE.k hE.blk hE.size := by rw [hhE, hbE]; rfl
  have o4 : bE.length = 1 := by rw [hbE]; rfl
  have HC6 : Hid (∀ (j : Nat) (v : Value), (shardC hE (.slice A1 1 c1))[j]? = some v → w6.cell? ((⟨g, 17, none⟩ : Addr).add j) = some v) := Lib.hid fun j v hv => by
    rw [hhE] at hv
    exact (HX6.out.2.cell (World.block_lt_of_cell? _ _ (HR1.out.2 j v hv))).trans (HR1.out.2 j v hv)
  have HEN := Lib.hid (encode_shard hE A1 1 c1 bE w6 o1 o2 o3 o4 (by rw [hbE]; exact HR1.out.1.ext HX6.out.2))
  have HPF := Lib.hid (parse_form o1 o2 o3)
  have HE := Lib.hid (And.intro hhE hbE)
  have HSM := Lib.hid (formP_small o1 o2 o3)
  clear hhE hbE o1 o2 o3 o4 HR1
  go_simp
  go_wp2_with (first | (refine wpList_load_at rfl 50 _ rfl ⟨g, 17, none⟩ rfl (shardC hE (.slice A1 1 c1)) _ HC6.out Try.underlying50 rfl (by kernel_rfl) ?_) | (go_at_call 33; refine HEN.out.mono ?_; rintro e w7 ⟨v, rfl, hv, hx7⟩; have HV := Lib.hid (And.intro hv hx7); clear hv hx7; obtain ⟨Av, cv, rfl, hrv, hlv, hmv, hbv⟩ := HV.out.1.slice; have HS := Lib.hid (And.intro hrv (And.intro hlv (And.intro hmv hbv))); clear hrv hlv hmv hbv HC6 HEN))
  have hn7 : (formP hE bE).length ≤ cv := by have := HS.out.2.1; rwa [bs_length] at this
  rw [bs_length]
  refine (parse_n Av (formP hE bE).length cv (formP hE bE) w7 rfl HS.out.1 (fun ad e => (HS.out.2.2.2 ad e).2) hn7 HSM.out).mono ?_
  rintro e w8 ⟨hc8, hx8⟩
  have HX8 := Lib.hid (And.intro (HX6.out.1.trans (HV.out.2.trans hx8)) hx8)
  have H8 : Hid (∃ v', e = .returned (.tuple #[.agg (shardC hE v'), .int .i64 0]) ∧ Rows8 w7.heap.size w8 v' bE) := Lib.hid (by
    rcases hc8 with ⟨h', bls, v', hpp, he, hrows⟩ | ⟨hpn, -⟩
    · rw [HPF.out] at hpp
      injection hpp with hpp
      injection hpp with e1 e2
      subst e1 e2
      exact ⟨v', he, hrows⟩
    · rw [HPF.out] at hpn; cases hpn)
  clear hc8 hx8 hn7
  obtain ⟨v', rfl, hrows⟩ := H8.out
  obtain ⟨A8, c8, rfl, hr8, hl8⟩ := hrows.rd
  have hbl : bE.length = 1 := by rw [HE.out.2]; rfl
  rw [hbl] at hl8 ⊢
  rw [HE.out.2] at hr8
  have HR8 := Lib.hid hr8
  have H8B := Lib.hid (And.intro (HE.out.1) HE.out.2)
  clear hr8 hrows H8 hbl hl8
  obtain ⟨sC, hsC⟩ : ∃ s, s = shardC hE (.slice A8 1 c8) := ⟨_, rfl⟩
  have hone : sC.all (·.oneCell') = true := by rw [hsC]; exact shardC_ones hE rfl
  have hsz : sC.size = 17 := by rw [hsC]; rfl
  have i11 : sC[11]? = some (.string ⟨#[97]⟩) := by rw [hsC, H8B.out.1]; kernel_rfl
  have i16 : sC[16]? = some (.slice A8 1 c8) := by rw [hsC]; rfl
  have q1 : (Try.prog.info? 50).map (·.size) = some sC.size := hsz ▸ (by kernel_rfl)
  have q2 : 0 + sC.size ≤ (shardC zeroH (.slice none 0 0)).size := hsz ▸ Nat.le_refl 17
  have q3 : seg (shardC zeroH (.slice none 0 0)) 0 sC.toList = sC := seg_all (shardC zeroH (.slice none 0 0)) sC hsz.symm
  rw [← hsC]
  clear hsC
  go_wp2_with (refine wpList_store_at rfl 50 _ _ rfl w8.heap.size 0 sC rfl rfl 50 (shardC zeroH (.slice none 0 0)) (Blk.new _ _ _) q1 q2 hone ?_; intro w9 k0 k2; have k1 : Blk w9 w8.heap.size 50 sC := q3 ▸ k0; have hx9 : Ext w8 w9 := k2.extNew ((Ext.refl w8).alloc _) (Nat.le_refl _); have HK := Lib.hid (And.intro k1 hx9); clear k0 k1 k2 hx9)
  obtain ⟨ae, be, ce, rfl, hce, hre⟩ := (HR8.out.ext HK.out.2).first (by decide)
  obtain ⟨g8, hg8⟩ : ∃ g, g = w8.heap.size := ⟨_, rfl⟩
  rw [← hg8] at HK ⊢
  clear hg8
  have k11 : w9.cell? ⟨g8, 11, none⟩ = some (.string ⟨#[97]⟩) := (HK.out.1.cell 11).trans i11
  have k16 : w9.cell? ⟨g8, 16, none⟩ = some (.slice (some ae) 1 c8) := (HK.out.1.cell 16).trans i16
  have q11 := fun w' (hx : Ext w9 w') => (hx.cell (World.block_lt_of_cell? _ _ k11)).trans k11
  have q16 := fun w' (hx : Ext w9 w') => (hx.cell (World.block_lt_of_cell? _ _ k16)).trans k16
  have qae : ∀ w', Ext w9 w' → w'.cell? ae = some (.slice (some be) 3 ce) := fun w' (hx : Ext w9 w') => (hx.cell (World.block_lt_of_cell? _ _ hce)).trans hce
  have eS : (⟨(bytesU [E.of 108, E.of 111, E.of 0]).toArray⟩ : ByteArray) = ⟨#[108, 111, 0]⟩ := by decide
  have qS : ∀ w', Ext w9 w' → (convert 24 9 (.slice (some be) 3 ce)).run Try.prog w' = .ok (.string ⟨#[108, 111, 0]⟩) w' := fun w' hx => by
    rw [← eS]; exact convert_n rfl (hre.ext hx) ce
  have HX9 := Lib.hid (HX8.out.1.trans HK.out.2)
  clear i11 i16 k11 k16 q1 q2 q3 hone hsz hce hre eS HK HR8 HS HV HPF HE H8B
  refine Grd.wp_region_mix (fun i => [3, 3, 3, 3, 3, 0, 3, 3, 3, 3, 0, 3, 3, 3, 3, 3, 0, 3, 0, 0, 1, 1, 3, 3, 3].getD i 0) (fun w' => Ext w9 w') hmo (by kernel_rfl) (by kernel_rfl) ((Ext.refl w9).drewN 1) ?_
  obtain ⟨Wd, hWd⟩ : ∃ Wd, Wd = w9.drew := ⟨_, rfl⟩
  have hxd : Ext w9 Wd := by rw [hWd]; exact (Ext.refl w9).drewN 1
  rw [← hWd]
  clear hWd
  refine Grd.mix_pure (.int .i64 0) rfl (by kernel_rfl) (fun w' => by go_simp) ?_
  refine Grd.mix_pure (.bool true) rfl (by kernel_rfl) (fun w' => by go_simp) ?_
  refine Grd.mix_pure (.bool true) rfl (by kernel_rfl) (fun w' => by go_simp) ?_
  refine Grd.mix_pure (.pointer (some ⟨g8, 0, none⟩)) rfl (by kernel_rfl) (fun w' => by go_simp) ?_
  refine Grd.mix_pure (.pointer (some ⟨g8, 11, none⟩)) rfl (by kernel_rfl) (fun w' => by go_simp) ?_
  refine Grd.mix_still (.string ⟨#[97]⟩) rfl (by kernel_rfl) (fun w' hw' => by have := q11 w' hw'; go_simp) ?_
  refine Grd.mix_pure (.bool true) rfl (by kernel_rfl) (fun w' => by go_simp) ?_
  refine Grd.mix_pure (.bool true) rfl (by kernel_rfl) (fun w' => by go_simp) ?_
  refine Grd.mix_pure (.bool true) rfl (by kernel_rfl) (fun w' => by go_simp) ?_
  refine Grd.mix_pure (.pointer (some ⟨g8, 16, none⟩)) rfl (by kernel_rfl) (fun w' => by go_simp) ?_
  refine Grd.mix_still (.slice (some ae) 1 c8) rfl (by kernel_rfl) (fun w' hw' => by have := q16 w' hw'; go_simp) ?_
  refine Grd.mix_pure (.int .i64 1) rfl (by kernel_rfl) (fun w' => by go_simp) ?_
  refine Grd.mix_pure (.bool true) rfl (by kernel_rfl) (fun w' => by go_simp) ?_
  refine Grd.mix_pure (.bool true) rfl (by kernel_rfl) (fun w' => by go_simp) ?_
  refine Grd.mix_pure (.bool true) rfl (by kernel_rfl) (fun w' => by go_simp) ?_
  refine Grd.mix_pure (.pointer (some ⟨g8, 16, none⟩)) rfl (by kernel_rfl) (fun w' => by go_simp) ?_
  refine Grd.mix_still (.slice (some ae) 1 c8) rfl (by kernel_rfl) (fun w' hw' => by have := q16 w' hw'; go_simp) ?_
  refine Grd.mix_pure (.pointer (some ae)) rfl (by kernel_rfl) (fun w' => by go_simp) ?_
  refine Grd.mix_still (.slice (some be) 3 ce) rfl (by kernel_rfl) (fun w' hw' => by have := qae w' hw'; go_simp) ?_
  refine Grd.mix_still (.string ⟨#[108, 111, 0]⟩) rfl (by kernel_rfl) (fun w' hw' => by have := qS w' hw'; go_simp) ?_
  have hx1 : Ext w9 (Wd.alloc (.cells #[.int .u8 108, .int .u8 111, .int .u8 0] 5)) := hxd.alloc _
  refine Grd.mix_laid (.slice (some ⟨Wd.heap.size, 0, none⟩) 3 3) (Wd.alloc (.cells #[.int .u8 108, .int .u8 111, .int .u8 0] 5)) rfl (by kernel_rfl) (by go_simp) hx1 ?_
  have qN := conv3 Wd (E.of 108) (E.of 111) (E.of 0)
  change (convert 24 9 (.slice (some ⟨Wd.heap.size, 0, none⟩) 3 3)).run Try.prog (Wd.alloc (.cells #[.int .u8 108, .int .u8 111, .int .u8 0] 5)) = .ok (.string ⟨#[108, 111, 0]⟩) (Wd.alloc (.cells #[.int .u8 108, .int .u8 111, .int .u8 0] 5)) at qN
  refine Grd.mix_laid (.string ⟨#[108, 111, 0]⟩) (Wd.alloc (.cells #[.int .u8 108, .int .u8 111, .int .u8 0] 5)) rfl (by kernel_rfl) (by go_simp) hx1 ?_
  obtain ⟨w6', hw6⟩ : ∃ w6, w6 = Wd.alloc (.cells #[.int .u8 108, .int .u8 111, .int .u8 0] 5) := ⟨_, rfl⟩
  rw [← hw6] at hx1 ⊢
  have HXX := Lib.hid (HX9.out.trans hx1)
  clear hxd hx1 hw6 qN qS qae q11 q16
  refine Grd.mix_pure (.bool true) rfl (by kernel_rfl) (fun w' => by go_simp) ?_
  refine Grd.mix_pure (.bool true) rfl (by kernel_rfl) (fun w' => by go_simp) ?_
  refine Grd.mix_pure (.bool true) rfl (by kernel_rfl) (fun w' => by go_simp) ?_
  refine Grd.mix_nil ?_
  go_simp
  go_wp2_with fail
  go_ret
  exact ⟨rfl, HXX.out⟩
end Go.Proofs.Ytdoeelfcihdmbaa
/-
  The law through the layers: files and marks; the shards that come back.
-/
namespace Go.Proofs.Ytdoeelfcihdmbaa
open Go.RowKit Gf
set_option maxRecDepth 20000
set_option linter.unusedVariables false

/-- How many are marked. -/
def cntT (l : List Bool) : Nat := l.count true
theorem cntT_set : ∀ (l : List Bool) (j : Nat), l[j]? = some false → cntT (l.set j true) = cntT l + 1
  | [], j, h => by simp at h
  | b :: l, 0, h => by
    simp only [List.getElem?_cons_zero, Option.some.injEq] at h
    subst h
    simp [cntT]
  | b :: l, j + 1, h => by
    rw [List.getElem?_cons_succ] at h
    have := cntT_set l j h
    simp only [cntT] at this ⊢
    rw [List.set_cons_succ, List.count_cons, List.count_cons, this]; omega
theorem cntT_zero (n : Nat) : cntT (List.replicate n false) = 0 := by simp [cntT, List.count_replicate]
/-- Where there is no shard there is a mark. -/
theorem here_marks {l : List (HeadP × Value)} {Ls : List Bool} {n : Nat} (hl : l.length = n) (hLs : Ls.length = n) (h : ∀ (i : Nat) (p : HeadP × Value), l[i]? = some p → 1 ≤ p.1.k ∨ Ls[i]? = some true) : n ≤ hereN l n + cntT Ls := by
  have key : ∀ j, j ≤ n → j ≤ hereN l j + cntT (Ls.take j) := by
    intro j
    induction j with
    | zero => intro _; omega
    | succ j ih =>
      intro hj
      have h0 := ih (by omega)
      have hjl : j < l.length := by omega
      have hjs : j < Ls.length := by omega
      have e2 : cntT (Ls.take (j + 1)) = cntT (Ls.take j) + (if Ls[j] = true then 1 else 0) := by
        rw [take_snoc' _ j hjs, cntT, cntT, List.count_append, List.count_singleton]
        cases Ls[j] <;> rfl
      rw [hereN_succ, e2]
      rcases h j _ (List.getElem?_eq_getElem hjl) with h1 | h1
      · rw [hereB_at (List.getElem?_eq_getElem hjl), if_pos (by simpa using h1)]; omega
      · rw [List.getElem?_eq_getElem hjs, Option.some.injEq] at h1
        rw [if_pos h1]; omega
  have := key n (Nat.le_refl _)
  rwa [List.take_of_length_le (by omega)] at this
/-- What comes out of a file. -/
def Good (hd : HeadP) (bl : Nat → List (List E)) (Ls : List Bool) (i : Nat) (b : List E) : Prop :=
  (parseP b = some (withIdx hd i, bl i) ∨ (parseP b = none ∧ Ls[i]? = some true)) ∧ b.length ≤ 100000000000
theorem Good.mark {hd : HeadP} {bl : Nat → List (List E)} {Ls : List Bool} {i : Nat} {b : List E} (h : Good hd bl Ls i b) (j : Nat) : Good hd bl (Ls.set j true) i b := by
  rcases h with ⟨h1 | ⟨h1, h2⟩, h3⟩
  · exact ⟨.inl h1, h3⟩
  · refine ⟨.inr ⟨h1, ?_⟩, h3⟩
    rw [List.getElem?_set]
    split
    · have : i < Ls.length := (List.getElem?_eq_some_iff.1 h2).1
      split <;> simp_all
    · exact h2
/-- Files and marks. -/
structure TSt (W6 wr : World) (n gf cap gl : Nat) (hd : HeadP) (bl : Nat → List (List E)) (F : List (List E)) (Ls : List Bool) : Prop where
  ext : Ext W6 wr
  files : Rows8 W6.heap.size wr (.slice (some ⟨gf, 0, none⟩) n cap) F
  flen : F.length = n
  lost : Own wr W6.heap.size 4 (.slice (some ⟨gl, 0, none⟩) n n) (bools Ls)
  llen : Ls.length = n
  good : ∀ (i : Nat) (b : List E), F[i]? = some b → Good hd bl Ls i b
section
variable {W6 wr w' : World} {n gf cap gl : Nat} {hd : HeadP} {bl : Nat → List (List E)} {F : List (List E)} {Ls : List Bool}
theorem TSt.later (h : TSt W6 wr n gf cap gl hd bl F Ls) (hx : Ext wr w') : TSt W6 w' n gf cap gl hd bl F Ls := ⟨h.ext.trans hx, h.files.ext hx, h.flen, h.lost.ext hx, h.llen, h.good⟩
theorem TSt.mark (h : TSt W6 wr n gf cap gl hd bl F Ls) (j : Nat) : TSt W6 (wr.setCell ⟨gl, j, none⟩ (.bool true)) n gf cap gl hd bl F (Ls.set j true) := by
  obtain ⟨hB, cs, hb, -⟩ := h.lost.blk
  refine ⟨h.ext.new (p := ⟨gl, j, none⟩) hB _, h.files.far hb (by decide) (by decide) j _, h.flen, ?_, by rw [List.length_set]; exact h.llen, fun i b hi => (h.good i b hi).mark j⟩
  have := h.lost.set j (.bool true)
  rw [bools, ← List.map_set] at this
  exact this
theorem TSt.put (h : TSt W6 wr n gf cap gl hd bl F Ls) {j : Nat} {u : Value} {r : List E} (hu : Own wr W6.heap.size 5 u (bs r)) (hg : Good hd bl Ls j r) : TSt W6 (wr.setCell ⟨gf, j, none⟩ u) n gf cap gl hd bl (F.set j r) Ls := by
  obtain ⟨V, h1, h2, h3⟩ := h.files
  obtain ⟨hB, cs, hb, -⟩ := h1.blk
  obtain ⟨-, cl, hbl, -⟩ := h.lost.blk
  refine ⟨h.ext.new (p := ⟨gf, j, none⟩) hB _, ⟨V.set j u, h1.set j u, by simp [h2], fun i x hi => ?_⟩, by rw [List.length_set]; exact h.flen, h.lost.far (p := ⟨gf, j, none⟩) (h.lost.notBlk hb (by decide)) u, h.llen, fun i b hi => ?_⟩
  · rw [List.getElem?_set] at hi
    by_cases hij : j = i
    · rw [if_pos hij] at hi
      split at hi
      · rename_i hl
        injection hi with hi
        subst hi hij
        rw [List.getD_eq_getElem?_getD, List.getElem?_set, if_pos rfl, if_pos (by rw [← h2]; exact hl)]
        exact hu.far (p := ⟨gf, j, none⟩) (hu.notBlk hb (by decide)) u
      · cases hi
    · rw [if_neg hij] at hi
      rw [List.getD_eq_getElem?_getD, List.getElem?_set, if_neg hij, ← List.getD_eq_getElem?_getD]
      exact (h3 i x hi).far (p := ⟨gf, j, none⟩) ((h3 i x hi).notBlk hb (by decide)) u
  · rw [List.getElem?_set] at hi
    by_cases hij : j = i
    · rw [if_pos hij] at hi
      split at hi
      · injection hi with hi
        subst hi hij
        exact hg
      · cases hi
    · rw [if_neg hij] at hi
      exact h.good i b hi
end
/-- Rows of the call's own, other blocks being turned. -/
theorem Rows8.grown {B : Nat} {w w' : World} {row : Option Nat} {v : Value} {rs : List (List E)} (h : Rows8 B w v rs) (hg : w.grownBy w' row) (hr : ∀ g, row = some g → ∃ cs, Blk w g 50 cs) : Rows8 B w' v rs := by
  obtain ⟨V, h1, h2, h3⟩ := h
  have key : ∀ {T : TypeId} {v : Value} {xs : List Value}, T ≠ 50 → Own w B T v xs → Own w' B T v xs := fun {T v xs} hT ho => by
    refine ho.kept hg ?_
    cases row with
    | none => cases e : v.ownBlock with
      | none => exact .inl rfl
      | some g => exact .inr (by simp)
    | some g =>
      obtain ⟨cs, hb⟩ := hr g rfl
      exact .inr (ho.notBlk hb hT)
  exact ⟨V, key (by decide) h1, h2, fun i u hi => key (by decide) (h3 i u hi)⟩
/-- Shards of the call's own, one behind the other. -/
def OwnS (w : World) (B : Nat) (v : Value) (l : List (HeadP × Value)) : Prop := w.ownsRow B 50 17 v l.length (flatS l)
theorem OwnS.nil (w : World) (B : Nat) : OwnS w B (.slice none 0 0) [] := ⟨rfl, .inl ⟨rfl, rfl⟩⟩
theorem OwnS.ext {w w' : World} {B : Nat} {v : Value} {l : List (HeadP × Value)} (h : OwnS w B v l) (hx : Ext w w') : OwnS w' B v l := by
  refine ⟨h.1, h.2.elim .inl fun ⟨g, cap, cur, h1, h2, h3, h4⟩ => .inr ⟨g, cap, cur, h1, h2, ?_, h4⟩⟩
  exact Blk.below h3 hx (Blk.lt h3)
theorem OwnS.block {w : World} {B : Nat} {v : Value} {l : List (HeadP × Value)} (h : OwnS w B v l) : ∀ g, v.ownBlock = some g → B ≤ g ∧ ∃ cs, Blk w g 50 cs := fun g e => by
  rcases h.2 with ⟨rfl, -⟩ | ⟨g', cap, cur, rfl, h2, h3, -⟩
  · cases e
  · injection e with e
    subst e
    exact ⟨h2, cur, h3⟩
theorem flatS_snoc (l : List (HeadP × Value)) (p : HeadP × Value) : flatS (l ++ [p]) = flatS l ++ (shardC p.1 p.2).toList := by simp [flatS]
theorem OwnS.rd {w : World} {B : Nat} {v : Value} {l : List (HeadP × Value)} (h : OwnS w B v l) (hl : 0 < l.length) : ∃ g cap, v = .slice (some ⟨g, 0, none⟩) l.length cap ∧ RdS w g l := by
  rcases h.2 with ⟨-, h0⟩ | ⟨g, cap, cur, rfl, -, h3, -, -, -, h4⟩
  · omega
  · refine ⟨g, cap, rfl, fun i p hp j u hu => ?_⟩
    have hj : j < 17 := (Array.getElem?_eq_some_iff.1 hu).1
    have hi : i < l.length := (List.getElem?_eq_some_iff.1 hp).1
    have e1 := flatS_get l i p hp j hj
    rw [← h4, List.getElem?_take_of_lt (by omega), Array.getElem?_toList] at e1
    rw [Blk.cell h3, e1]; exact hu
theorem wpList_appS {ops : Array Oper} {rest : List Oper} {o : Oper} {a : Act} {w : World} {Q : Exit → Act → World → Prop} (hgd : o.guard = none) (s x : Operand)
    (ho : o.op = .call { callee := .builtin .append, args := #[s, x], argTypes := #[36, 36] }) (B : Nat) (v : Value) (l : List (HeadP × Value)) (hs : a.eval s = v) (hown : OwnS w B v l)
    (ad : Addr) (c : Nat) (p : HeadP × Value) (hx : a.eval x = .slice (some ad) 1 c) (hr : ∀ (j : Nat) (u : Value), (shardC p.1 p.2)[j]? = some u → w.cell? (ad.add j) = some u) (hone : p.2.oneCell' = true) (hl : l.length ≤ 1000) (hB : B ≤ w.heap.size)
    (h : ∀ v' w', OwnS w' B v' (l ++ [p]) → w.grownBy w' v.ownBlock → wpList Try.prog ops Q rest (a.put o.dst v') w') : wpList Try.prog ops Q (o :: rest) a w := by
  obtain ⟨i, hi, hz⟩ := Option.map_eq_some_iff.1 info_shard
  simp only [Prod.mk.injEq] at hz
  obtain ⟨h1, h2, h3⟩ := hz
  refine wpList_append_own w hgd s x 36 ho B 50 i (.agg (shardC zeroH (.slice none 0 0))) 17 104 ty_shards hi h1 h2 h3 rfl (by decide) v l.length (flatS l) hs hown ad 1 c (shardC p.1 p.2).toList hx rfl (fun j u hu => hr j u (by simpa using hu)) (fun u hu => ?_) (by simp only [maxLen]; omega) (by omega) hB fun v' w' k1 k2 _ => h v' w' ?_ k2
  · have := shardC_ones p.1 hone
    rw [Array.all_eq_true_iff_forall_mem] at this
    exact this u (by simpa using hu)
  · rw [← flatS_snoc] at k1
    rw [OwnS, List.length_append]; exact k1
/-- One shard that came back. -/
def BackE (hd : HeadP) (bl : Nat → List (List E)) (Ls : List Bool) (B : Nat) (w : World) (i : Nat) (p : HeadP × Value) : Prop := (p.1 = zeroH ∧ p.2 = .slice none 0 0 ∧ Ls[i]? = some true) ∨ (p.1 = withIdx hd i ∧ Rows8 B w p.2 (bl i))
/-- What is known while they come back. -/
structure BSt (W8 wr : World) (hd : HeadP) (bl : Nat → List (List E)) (Ls : List Bool) (v : Value) (l : List (HeadP × Value)) : Prop where
  ext : Ext W8 wr
  own : OwnS wr W8.heap.size v l
  each : ∀ (i : Nat) (p : HeadP × Value), l[i]? = some p → BackE hd bl Ls W8.heap.size wr i p
theorem BSt.app {W8 wr w1 w2 : World} {hd : HeadP} {bl : Nat → List (List E)} {Ls : List Bool} {v v2 : Value} {l : List (HeadP × Value)} {p : HeadP × Value} (h : BSt W8 wr hd bl Ls v l) (hx : Ext wr w1) (ho : OwnS w2 W8.heap.size v2 (l ++ [p])) (hg : w1.grownBy w2 v.ownBlock)
    (hp : BackE hd bl Ls W8.heap.size w1 l.length p) : BSt W8 w2 hd bl Ls v2 (l ++ [p]) := by
  have h1 := h.own.ext hx
  have h2 := h.ext.trans hx
  have hE : ∀ (i : Nat) (q : HeadP × Value), BackE hd bl Ls W8.heap.size w1 i q → BackE hd bl Ls W8.heap.size w2 i q := fun i q hq => by
    rcases hq with k | ⟨k1, k2⟩
    · exact .inl k
    · exact .inr ⟨k1, k2.grown hg fun g e => (h1.block g e).2⟩
  refine ⟨⟨hg.os.trans h2.os, hg.tape.trans h2.tape, hg.output.trans h2.output, Nat.le_trans h2.le hg.size, fun k hk => (hg.block k (Nat.lt_of_lt_of_le hk h2.le) fun e => ?_).trans (h2.block k hk)⟩, ho, fun i q hq => hE i q ?_⟩
  · have := (h1.block k e.symm).1; omega
  · rcases Nat.lt_trichotomy i l.length with k | k | k
    · rw [List.getElem?_append_left k] at hq
      rcases h.each i q hq with k | ⟨k1, k2⟩
      · exact .inl k
      · exact .inr ⟨k1, k2.ext hx⟩
    · subst k
      simp at hq
      subst hq; exact hp
    · rw [List.getElem?_eq_none (by simp; omega)] at hq; cases hq
theorem BSt.parts {W8 wr : World} {hd : HeadP} {ns : List Nat} {data : List E} {n g cap : Nat} {Ls : List Bool} {l : List (HeadP × Value)} (h : BSt W8 wr hd (blocksP hd.k n ns data) Ls (.slice (some ⟨g, 0, none⟩) n cap) l) (hl : l.length = n) (hr : RdS wr g l) : Parts wr g hd ns (blocksP hd.k n ns data) l :=
  ⟨hr, fun i p hp => by
    rcases h.each i p hp with ⟨k1, k2, -⟩ | ⟨k1, k2⟩
    · exact .inl ⟨k1, none, 0, 0, k2⟩
    · have hi : i < n := by rw [← hl]; exact (List.getElem?_eq_some_iff.1 hp).1
      obtain ⟨A, c, e1, e2, e3⟩ := k2.rd
      have hm := blocksP_lengths (k := hd.k) (ns := ns) (data := data) hi
      have hn : (blocksP hd.k n ns data i).length = ns.length := by have := congrArg List.length hm; rwa [List.length_map] at this
      rw [hn] at e1 e3
      exact .inr ⟨k1, A, c, e1, e2, hm, e3⟩⟩
end Go.Proofs.Ytdoeelfcihdmbaa
/-
  The law through the layers: what a parser hands back.
-/
namespace Go.Proofs.Ytdoeelfcihdmbaa
open Go.RowKit Gf
set_option maxRecDepth 20000
set_option linter.unusedVariables false
theorem framesP_lens (sum : Nat) : ∀ (ns : List Nat) (j : Nat) (b : List E) (l : List (List E)), framesP sum j ns b = some l → l.map List.length = ns := by
  intro ns
  induction ns with
  | nil =>
    intro j b l h
    unfold framesP at h
    split at h <;> simp_all
  | cons n ns ih =>
    intro j b l h
    rw [framesP] at h
    by_cases h1 : b.length < n + 4
    · rw [if_pos h1] at h; cases h
    · rw [if_neg h1] at h
      split at h
      · cases h
      · obtain ⟨l', e1, e2⟩ := Option.map_eq_some_iff.1 h
        rw [← e2, List.map_cons, ih _ _ _ e1, List.length_take, Nat.min_eq_left (by omega)]
theorem parseP_some {b : List E} {h : HeadP} {l : List (List E)} (e : parseP b = some (h, l)) : okHead h ∧ h.store.length = 8 ∧ l.map List.length = sizesP h.k h.blk h.size := by
  rw [parseP] at e
  obtain ⟨h', e1, e2⟩ := Option.bind_eq_some_iff.1 e
  obtain ⟨l', e3, e4⟩ := Option.map_eq_some_iff.1 e2
  injection e4 with e5 e6
  subst e5 e6
  obtain ⟨k1, -, -, -, k2⟩ := parseHead_some e1
  exact ⟨k1, k2, framesP_lens _ _ _ _ _ e3⟩
theorem okHead.smallH {h : HeadP} (o : okHead h) (s : h.store.length = 8) : SmallH h := by
  obtain ⟨a1, a2, a3, a4, a5, a6, a7, a8⟩ := o.small
  exact ⟨s, by omega, by omega, by omega, by omega, by omega, by omega, by omega, by omega⟩
theorem rows_pos {h : HeadP} {l : List (List E)} (o : okHead h) (hl : l.map List.length = sizesP h.k h.blk h.size) : (∀ r ∈ l, 0 < r.length) ∧ l.length ≤ 1000000 := by
  have hk : 0 < h.k ∧ 0 < h.blk := by have := o.1; unfold okShape at this; omega
  refine ⟨fun r hr => ?_, ?_⟩
  · have h1 : r.length ∈ l.map List.length := List.mem_map_of_mem hr
    rw [hl] at h1
    exact sizesP_pos hk.1 hk.2 _ h1
  · have := congrArg List.length hl
    rw [List.length_map, sizesP_length] at this
    have h5 := o.2.2.2.2.1
    omega
theorem ParseOut.val {b : List E} {w w' : World} {e : Ending} (h : ParseOut b w e w') : ∃ hh A n c z, e = .returned (.tuple #[.agg (shardC hh (.slice A n c)), .int .i64 z]) ∧
    ((z = 0 ∧ ∃ bls, parseP b = some (hh, bls) ∧ bls.length = n ∧ Rows8 w.heap.size w' (.slice A n c) bls) ∨ (z ≠ 0 ∧ parseP b = none ∧ hh = zeroH ∧ A = none ∧ n = 0 ∧ c = 0)) ∧ Ext w w' := by
  rcases h with ⟨⟨h, bls, v, h1, h2, h3⟩ | ⟨h1, z, h2, h3⟩, hx⟩
  · obtain ⟨A, c, rfl, -⟩ := h3.rd
    exact ⟨h, A, _, c, 0, h2, .inl ⟨rfl, bls, h1, rfl, h3⟩, hx⟩
  · exact ⟨zeroH, none, 0, 0, z, h3, .inr ⟨h2, h1, rfl, rfl, rfl, rfl⟩, hx⟩
theorem convert_any {w : World} {A : Option Addr} {xs : List E} (h : Rd w A (bs xs)) (c : Nat) : (convert 24 9 (.slice A xs.length c)).run Try.prog w = .ok (.string (strB xs)) w := by
  cases A with
  | some ad => exact convert_n rfl h c
  | none =>
    have hx : xs = [] := by
      rcases Nat.eq_zero_or_pos xs.length with e | e
      · exact List.length_eq_zero_iff.1 e
      · obtain ⟨ad, e1, -⟩ := h (by rw [bs_length]; exact e)
        cases e1
    subst hx
    rw [run_convert_bytes_string w 24 9 5 none _ c Try.underlying24 (by kernel_rfl) (by kernel_rfl)]
    simp [Conv.bytesToString]
    rfl
theorem fold_shard (h : HeadP) (v : Value) : Array.foldl (fun (cs : Array Value) (x : Value × Nat) => cs.setIfInBounds x.snd x.fst)
    #[.int .u8 0, .int .u8 0, .int .u8 0, .int .u8 0, .int .u8 0, .int .u8 0, .int .u8 0, .int .u8 0, .int .i64 0, .int .i64 0, .int .i64 0, .string { data := #[] }, .int .i64 0, .int .i64 0, .int .i64 0, .int .i64 0, .slice none 0 0]
    ((shardC h v).zipIdx) 0 (shardC h v).size = shardC h v := by
  simp [shardC, Array.zipIdx]
end Go.Proofs.Ytdoeelfcihdmbaa
/-
  The law through the layers.
-/
namespace Go.Proofs.Ytdoeelfcihdmbaa
open Go.RowKit Gf
set_option maxRecDepth 20000
set_option linter.unusedVariables false
theorem TopSplit.val {x : ObjX} {w w' : World} {e : Ending} (h : TopSplit x w e w') : ∃ sv, e = .returned (.tuple #[sv, .agg (headC (hdS x)), .bool true]) ∧
    (sv = .slice none 0 0 ∨ (okHead (hdS x) ∧ ∃ g l, sv = .slice (some ⟨g, 0, none⟩) ((hdS x).k + (hdS x).m) ((hdS x).k + (hdS x).m) ∧ l.length = (hdS x).k + (hdS x).m ∧ (∀ (i : Nat) (p : HeadP × Value), l[i]? = some p → p.1 = withIdx (hdS x) i) ∧
      g < w'.heap.size ∧ Parts w' g (hdS x) (sizesP (hdS x).k (hdS x).blk x.data.length) (blocksP (hdS x).k ((hdS x).k + (hdS x).m) (sizesP (hdS x).k (hdS x).blk x.data.length) x.data) l)) ∧ Ext w w' := by
  rcases h with ⟨⟨-, h1⟩ | ⟨h0, g, l, h1, h2, h3, -, h4, h5⟩, hx⟩
  · exact ⟨_, h1, .inl rfl, hx⟩
  · exact ⟨_, h1, .inr ⟨h0, g, l, rfl, h2, h3, h4, h5⟩, hx⟩
set_option maxHeartbeats 16000000 in
theorem topFiles_n (x : ObjX) (w : World) (h : ObjOk w x) : Calls Try.prog 5 #[.agg (objC x)] w fun e w' => e = .returned (.bool true) ∧ Ext w w' := by
  have hmo : Try.prog.follows Departure.mixedOrders = true := by kernel_rfl
  have HO := Lib.hid h
  have HB0 := Lib.hid (Blk.new w 34 (objC x))
  have HX0 := Lib.hid ((Ext.refl w).alloc (.cells (objC x) 34))
  clear h
  go_enter Try.func5, Try.ntmps5
  go_upto_region 4 with (first | (go_at_call 31; refine (alive_n _).mono ?_; rintro e w1 ⟨rfl, hx1⟩; have HB1 := Lib.hid (And.intro (HB0.out.ext hx1) (HX0.out.trans hx1)); clear hx1) | (refine wpList_load_at rfl 34 _ rfl ⟨w.heap.size, 0, none⟩ rfl (objC x) _ HB1.out.1.cells Try.underlying34 rfl (by kernel_rfl) ?_) | (go_at_call 32; refine (splitTop_n x _ (HO.out.ext HB1.out.2)).mono ?_; rintro e w2 h2; obtain ⟨sv, rfl, hc2, hx2⟩ := h2.val; have HC2 := Lib.hid hc2; have HB2 := Lib.hid (And.intro (HB1.out.1.ext hx2) (And.intro (HB1.out.2.trans hx2) hx2)); clear h2 hc2 hx2 HB1 HB0 HX0) | (refine wpList_store_at rfl 43 _ _ rfl w2.heap.size 0 (headC (hdS x)) rfl rfl 43 (headC zeroH) (Blk.new _ _ _) (by kernel_rfl) (Nat.le_refl 16) (headC_ones _) ?_; intro w3 k0 k2; have k1 : Blk w3 w2.heap.size 43 (headC (hdS x)) := (seg_all (headC zeroH) (headC (hdS x)) rfl) ▸ k0; have hx3 : Ext w2 w3 := k2.extNew ((Ext.refl w2).alloc _) (Nat.le_refl _); have HB3 := Lib.hid (And.intro k1 (And.intro hx3 (And.intro (HB2.out.1.ext hx3) (HB2.out.2.1.trans hx3)))); clear k0 k1 k2 hx3))
  rcases HC2.out with rfl | ⟨hok, g, l, rfl, hl, hh, hgl, hpt⟩
  · clear HC2
    go_wp2_with fail
    go_ret
    exact ⟨rfl, HB3.out.2.2.2⟩
  · obtain ⟨hd, hhd⟩ : ∃ h, h = hdS x := ⟨_, rfl⟩
    have hoh : ObjH hd (sizesP hd.k hd.blk x.data.length) := by rw [hhd]; exact ⟨hok, rfl, rfl⟩
    have hsz : hd.size = x.data.length := by rw [hhd]; rfl
    clear HC2
    rw [← hhd] at hl hh hpt HB3 ⊢
    obtain ⟨s1, s2, s3, s4, s5, s6, s7, s8, s9⟩ := hoh.small
    obtain ⟨ns, hns⟩ : ∃ ns, ns = sizesP hd.k hd.blk x.data.length := ⟨_, rfl⟩
    rw [← hns] at hpt hoh
    obtain ⟨n, hn⟩ : ∃ n, n = hd.k + hd.m := ⟨_, rfl⟩
    rw [← hn] at hl hpt ⊢
    obtain ⟨bl, hbl⟩ : ∃ b, b = blocksP hd.k n ns x.data := ⟨_, rfl⟩
    rw [← hbl] at hpt
    have hn2 : 2 ≤ n := by omega
    have hn255 : n ≤ 255 := by omega
    have hwr : IntKind.i64.wrap ((hd.k : Int) + (hd.m : Int)) = (n : Int) := by rw [IntKind.wrap_i64]; omega
    obtain ⟨gh, hgh⟩ : ∃ g, g = w2.heap.size := ⟨_, rfl⟩
    rw [← hgh] at HB3 ⊢
    have k8 : w3.cell? ⟨gh, 8, none⟩ = some (.int .i64 (hd.k : Int)) := HB3.out.1.cell 8
    have k9 : w3.cell? ⟨gh, 9, none⟩ = some (.int .i64 (hd.m : Int)) := HB3.out.1.cell 9
    have n0 : ((n : Int) == 0) = false := by rw [beq_eq_false_iff_ne]; omega
    have HSP := Lib.hid (And.intro hl (And.intro hh (hpt.ext HB3.out.2.1)))
    have HOH := Lib.hid hoh
    have HSZ := Lib.hid hsz
    have HNS := Lib.hid hns
    have HBL := Lib.hid hbl
    have HN := Lib.hid (And.intro hn s3)
    have HMK := Lib.hid (And.intro s1 s2)
    clear hhd hok hl hh hgl hpt hoh hsz hns hbl hn hgh HB2 s1 s2 s3 s4 s5 s6 s7 s8 s9
    go_wp2_with fail
    go_loopw [2, 7, 8] (fun r v i wr => ∃ (q : Nat) (v' : Value) (F : List (List E)), r = .bool false ∧ v' = v ∧ q ≤ n ∧ i = .int .i64 q ∧ Ext w3 wr ∧ Rows8 w3.heap.size wr v' F ∧ F = (List.range q).map (fun t => formP (withIdx hd t) (bl t))) (fun _ _ i _ => n - (intOf i).toNat)
    case atStart => exact ⟨0, _, [], rfl, rfl, Nat.zero_le _, rfl, Ext.refl _, Rows8.nil _ _, rfl⟩
    case round =>
      clear k8 k9
      obtain ⟨W, rfl⟩ : ∃ W, W = wr := ⟨_, rfl⟩
      obtain ⟨q, v', F, rfl, rfl, hq, rfl, hxw, hro, hF⟩ := hrel
      by_cases hlt : q < n
      · obtain ⟨pp, hpp⟩ : ∃ p, l[q]? = some p := ⟨_, List.getElem?_eq_getElem (by rw [HSP.out.1]; exact hlt)⟩
        obtain ⟨h0, v0⟩ := pp
        obtain rfl : h0 = withIdx hd q := HSP.out.2.1 q _ hpp
        obtain ⟨Ab, cb, hv0, hrb, hml, -⟩ : ∃ A c, v0 = .slice A ns.length c ∧ RdRows w3 A (bl q) ∧ (bl q).map List.length = ns ∧ ns.length ≤ c := by
          rcases HSP.out.2.2.each q _ hpp with ⟨e, -⟩ | ⟨-, A, c, e1, e2, e3, e4⟩
          · have := congrArg HeadP.k e
            have e2 : hd.k = 0 := this
            have := HMK.out.1; omega
          · exact ⟨A, c, e1, e2, e3, e4⟩
        subst hv0
        have hcl := (HSP.out.2.2.rd.ext hxw).shard hpp
        obtain ⟨nb, hnb⟩ : ∃ k, k = ns.length := ⟨_, rfl⟩
        rw [← hnb] at hcl
        have HCL := Lib.hid hcl
        have HEN := Lib.hid (encode_shard (withIdx hd q) Ab nb cb (bl q) W (HOH.out.okI (by rw [← HN.out.1]; exact hlt)) HOH.out.st (by rw [hml, HNS.out, ← HSZ.out]; rfl) (by rw [hnb, ← hml, List.length_map]) (hrb.ext hxw))
        obtain ⟨V, hV, hVl, hVr⟩ := hro
        have HV := Lib.hid (And.intro hV (And.intro hVl (And.intro hVr hxw)))
        obtain ⟨bq, hbq⟩ : ∃ b, b = formP (withIdx hd q) (bl q) := ⟨_, rfl⟩
        rw [← hbq] at HEN
        have HBQ := Lib.hid hbq
        have HF := Lib.hid hF
        have hbd : (V.length + 1) * 24 ≤ 140737488355328 := by rw [hVl, hF, List.length_map, List.length_range]; omega
        have hle4 : ∀ w4 : World, Ext W w4 → w3.heap.size ≤ (w4.alloc (.cells #[.slice none 0 0] 24)).heap.size := fun w4 hx => by have := hxw.le; have := hx.le; simp; omega
        have HLE := Lib.hid hle4
        clear hle4 hcl hrb hml hV hVl hVr hxw hbq hF hpp hnb
        go_wp2_with (first | (refine wpList_load_at rfl 50 _ rfl ⟨g, q * 17, none⟩ rfl (shardC (withIdx hd q) (.slice Ab nb cb)) _ HCL.out Try.underlying50 rfl (by kernel_rfl) ?_) | (go_at_call 33; refine HEN.out.mono ?_; rintro e w4 ⟨u, rfl, hu, hx4⟩; have HU := Lib.hid (And.intro (hu.mono HV.out.2.2.2.le) hx4); clear hu hx4; obtain ⟨Au, nu, cu, rfl⟩ : ∃ A n c, u = Value.slice A n c := by { obtain ⟨A, c, h⟩ := HU.out.1.anySlice; exact ⟨_, _, _, h⟩ }) | (at_builtin; refine wpList_app (w4.alloc (.cells #[.slice Au nu cu] 24)) eltRowU8 rfl _ _ (by rfl) w3.heap.size v' V (by rfl) ((HV.out.1.ext HU.out.2).alloc _) (some ⟨w4.heap.size, 0, none⟩) 1 1 [.slice Au nu cu] (by rfl) (rd_new w4 _ _) rfl (by simp [Value.oneCell']) hbd (by have := HLE.out w4 HU.out.2; simpa using this) ?_))
        intro v5 w5 h5 hm5
        have h8 := Rows8.hang HV.out.1 HV.out.2.1 HV.out.2.2.1 HU.out.2 HU.out.1 h5 hm5
        have p1 : Ext w3 (w4.alloc (.cells #[.slice Au nu cu] 24)) := (HV.out.2.2.2.trans HU.out.2).alloc _
        have hx5 : Ext w3 w5 := p1.below.trans (hm5.below p1.le fun g hg => (((HV.out.1.ext HU.out.2).alloc (.cells #[.slice Au nu cu] 24)).lt g hg).1)
        have HR := Lib.hid (And.intro h8 hx5)
        clear h5 hm5 h8 p1 hx5 hbd
        go_wp2_with fail
        go_roundw
        case rel => exact ⟨q + 1, v5, F ++ [bq], rfl, rfl, by omega, by go_num, HR.out.2, HR.out.1, by rw [List.range_succ, List.map_append, ← HF.out, HBQ.out]; rfl⟩
        case measure => simp [intOf]; omega
      · obtain rfl : n = q := by omega
        have hFl : F.length = n := by rw [hF, List.length_map, List.length_range]
        obtain ⟨V, hV, hVl, hVr⟩ := hro
        obtain ⟨gf, cf, rfl, hgf, -, hcf, -⟩ := hV.some_ (fun e => by rw [e, List.length_nil] at hVl; omega)
        have hVn : V.length = n := by omega
        rw [hVn] at hV hcf ⊢
        have HFL := Lib.hid (And.intro (show Rows8 w3.heap.size W (.slice (some ⟨gf, 0, none⟩) n cf) F from ⟨V, hV, hVl, hVr⟩) (And.intro hFl (And.intro hF hxw)))
        clear hV hVl hVr hFl hF hxw hgf hVn hlt
        have hmkB : ∀ w, (Instr.makeSlice 51 (.int .i64 (n : Int)) (.int .i64 (n : Int))).run Try.prog w = .ok (.slice (some ⟨w.heap.size, 0, none⟩) n n) (w.alloc (.cells (zrow (.bool false) n) 4)) := fun w => run_make_elt eltBool _ _ n (by omega) w
        go_upto_block 2 with fail
        obtain ⟨W1, hW1⟩ : ∃ W1, W1 = W.alloc (.cells (zrow (.bool false) n) 4) := ⟨_, rfl⟩
        have hx1 : Ext W W1 := by rw [hW1]; exact (Ext.refl W).alloc _
        have hl0 : Own W1 w3.heap.size 4 (.slice (some ⟨W.heap.size, 0, none⟩) n n) (bools (List.replicate n false)) := by
          have h1 := (Blk.new W 4 (zrow (.bool false) n)).own (B := w3.heap.size) (n := n) (cap := n) HFL.out.2.2.2.le (Nat.le_refl _) (by simp only [maxLen]; omega) (zrow_size _ _)
          rw [zrow_list, List.take_of_length_le (by simp)] at h1
          rw [hW1, bools, List.map_replicate]
          exact h1
        rw [← hW1]
        obtain ⟨gl, hgl⟩ : ∃ g, g = W.heap.size := ⟨_, rfl⟩
        rw [← hgl] at hl0 ⊢
        have HT0 : Hid (TSt w3 W1 n gf cf gl hd bl F (List.replicate n false)) := Lib.hid ⟨HFL.out.2.2.2.trans hx1, HFL.out.1.ext hx1, HFL.out.2.1, hl0, List.length_replicate, fun i b hi => by
          have hin : i < n := by
            have := (List.getElem?_eq_some_iff.1 hi).1
            rwa [HFL.out.2.1] at this
          rw [HFL.out.2.2.1, List.getElem?_map] at hi
          rw [List.getElem?_range hin, Option.map_some, Option.some.injEq] at hi
          have q1 := HOH.out.okI (show i < hd.k + hd.m by rw [← HN.out.1]; exact hin)
          have q2 : (bl i).map List.length = sizesP hd.k hd.blk hd.size := by rw [HBL.out, HSZ.out, ← HNS.out]; exact blocksP_lengths hin
          rw [← hi]
          exact ⟨.inl (parse_form q1 HOH.out.st q2), formP_small q1 HOH.out.st q2⟩⟩
        clear hW1 hl0 hgl hx1 HFL hmkB
        go_cut [2] (fun s2 wx => s2 = .bool false ∧ ∃ (F' : List (List E)) (Ls : List Bool), Ext w3 wx ∧ Rows8 w3.heap.size wx (.slice (some ⟨gf, 0, none⟩) n cf) F' ∧ F'.length = n ∧ Ls.length = n ∧ (∀ (i : Nat) (b : List E), F'[i]? = some b → Good hd bl Ls i b) ∧ cntT Ls ≤ hd.m)
        case first =>
          go_wp2_with fail
          obtain ⟨np, hnp⟩ : ∃ k, k = x.places.length := ⟨_, rfl⟩
          have hnpb : np ≤ 1048576 := by have := HO.out.places.2; omega
          go_loopw [2, 12, 13] (fun r m i wr => ∃ (q : Nat) (F' : List (List E)) (Ls : List Bool), r = .bool false ∧ q ≤ np ∧ i = .int .i64 q ∧ m = .int .i64 (cntT Ls : Nat) ∧ TSt w3 wr n gf cf gl hd bl F' Ls ∧ cntT Ls ≤ hd.m) (fun _ _ i _ => np - (intOf i).toNat)
          case atStart => exact ⟨0, F, _, rfl, Nat.zero_le _, rfl, by rw [cntT_zero]; rfl, HT0.out, by rw [cntT_zero]; exact Nat.zero_le _⟩
          case round =>
            clear HT0 W1
            obtain ⟨W, rfl⟩ : ∃ W, W = wr := ⟨_, rfl⟩
            obtain ⟨q, F', Ls, rfl, hq, rfl, rfl, hts, hcm⟩ := hrel
            have hxx : Ext w3 W := hts.ext
            have kp : W.cell? ⟨w.heap.size, 7, none⟩ = some (.slice x.Ap x.places.length x.cp) := Blk.cell (HB3.out.2.2.1.ext hxx) 7
            rw [← hnp] at kp
            have HTS := Lib.hid (And.intro hts hcm)
            clear hts hcm hxx
            by_cases hlt : q < np
            · obtain ⟨aa, hA, hca⟩ := ((HO.out.places.1.ext (HB3.out.2.2.2.trans HTS.out.1.ext))).at_ (intsZ_get x.places q (by omega))
              rw [hA] at kp
              obtain ⟨z, hz⟩ : ∃ z, z = x.places[q]'(by omega) := ⟨_, rfl⟩
              rw [← hz] at hca
              have hzw : (Lit.int .i64 z).wf = true := by rw [hz]; exact HO.out.places.2.2.2 _ (List.getElem_mem _)
              have HPK := Lib.hid fun w => pick_n (n : Int) z n w hzw (by omega) (by omega) rfl
              obtain ⟨a, ha⟩ : ∃ a, a = pickP z n := ⟨_, rfl⟩
              have han : a < n := by rw [ha]; exact pickP_lt z (by omega)
              rw [← ha] at HPK
              clear hz hzw ha hA
              obtain ⟨lb, hlb⟩ : ∃ b, Ls[a]? = some b := ⟨_, List.getElem?_eq_getElem (by rw [HTS.out.1.llen]; exact han)⟩
              have cl : W.cell? ⟨gl, a, none⟩ = some (.bool lb) := HTS.out.1.lost.cell (by rw [bools, List.getElem?_map, hlb]; rfl)
              have fl : W.frozen? ⟨gl, a, none⟩ = false := HTS.out.1.lost.frozen a
              have k9 : W.cell? ⟨gh, 9, none⟩ = some (.int .i64 (hd.m : Int)) := Blk.cell (HB3.out.1.ext HTS.out.1.ext) 9
              have HLB := Lib.hid hlb
              clear hlb
              go_upto_if 86 with (go_at_call 34; refine (HPK.out _).mono ?_; rintro e w' ⟨rfl, rfl⟩)
              go_cut [12] (fun m wx => ∃ Ls' : List Bool, m = .int .i64 (cntT Ls' : Nat) ∧ TSt w3 wx n gf cf gl hd bl F' Ls' ∧ cntT Ls' ≤ hd.m ∧ Ls'[a]? = some true)
              case first =>
                cases lb with
                | true =>
                  go_wp2_with fail
                  go_meet
                  exact ⟨Ls, rfl, HTS.out.1, HTS.out.2, HLB.out⟩
                | false =>
                  have HM := Lib.hid (HTS.out.1.mark a)
                  have hc1 := cntT_set Ls a HLB.out
                  obtain ⟨c, hc⟩ : ∃ c, c = cntT Ls := ⟨_, rfl⟩
                  have hcm : c ≤ 255 := by rw [hc]; have := HTS.out.2; have := HN.out; omega
                  have hw1 : IntKind.i64.wrap ((c : Int) + 1) = ((c + 1 : Nat) : Int) := by rw [IntKind.wrap_i64]; omega
                  rw [← hc] at hc1 ⊢
                  have HC1 := Lib.hid (And.intro hc1 hc)
                  clear hc1 hc
                  have k9m : (W.setCell ⟨gl, a, none⟩ (.bool true)).cell? ⟨gh, 9, none⟩ = some (.int .i64 (hd.m : Int)) := Blk.cell (HB3.out.1.ext HM.out.ext) 9
                  by_cases hgt : hd.m < c + 1
                  · have hgi : (hd.m : Int) < ((c + 1 : Nat) : Int) := by omega
                    go_wp2_with fail
                    go_meet
                    exact ⟨rfl, F', Ls, HM.out.ext, HM.out.files, HM.out.flen, HTS.out.1.llen, HTS.out.1.good, HTS.out.2⟩
                  · have hgi : ¬ (hd.m : Int) < ((c + 1 : Nat) : Int) := by omega
                    go_wp2_with fail
                    go_meet
                    exact ⟨Ls.set a true, by rw [HC1.out.1]; rfl, HM.out, by rw [HC1.out.1]; omega, by rw [List.getElem?_set, if_pos rfl, if_pos (by rw [HTS.out.1.llen]; exact han)]⟩
              case rest =>
                obtain ⟨Ls', rfl, hts2, hcm2, hmk⟩ := hcut
                have HT2 := Lib.hid (And.intro hts2 (And.intro hcm2 hmk))
                clear hts2 hcm2 hmk HTS HLB cl fl k9 kp
                have kb : wc.cell? ⟨w.heap.size, 8, none⟩ = some (.slice x.Ab x.bytes.length x.cb) := Blk.cell (HB3.out.2.2.1.ext HT2.out.1.ext) 8
                obtain ⟨ny, hny⟩ : ∃ k, k = x.bytes.length := ⟨_, rfl⟩
                rw [← hny] at kb
                obtain ⟨W, rfl⟩ : ∃ W, W = wc := ⟨_, rfl⟩
                go_upto_if 101 with fail
                go_cut [15] (fun u wx => ∃ (A' : Option Addr) (nb cb : Nat) (bb : List E), u = .slice A' nb cb ∧ bb.length = nb ∧ nb ≤ 1048576 ∧ Own wx w3.heap.size 5 (.slice A' nb cb) (bs bb) ∧ TSt w3 wx n gf cf gl hd bl F' Ls')
                case first =>
                  by_cases hqb : q < ny
                  · have hqi : (q : Int) < (ny : Int) := by omega
                    obtain ⟨ab, B, cB, hA, hcb, hrb, -⟩ := (HO.out.bytes.1.ext (HB3.out.2.2.2.trans HT2.out.1.ext)).at_ (show q < x.bytes.length by omega)
                    obtain ⟨rr, hrr⟩ : ∃ r, r = x.bytes[q]'(by omega) := ⟨_, rfl⟩
                    rw [← hrr] at hcb hrb
                    rw [hA] at kb
                    have hrl : rr.length ≤ 1048576 := by rw [hrr]; exact HO.out.bytes.2.2.2 _ (List.getElem_mem _)
                    have HCP := Lib.hid (copied_top B rr.length cB rr W rfl hrb (by omega))
                    have HRL := Lib.hid hrl
                    clear hrb hrr hA hrl
                    go_wp2_with (go_at_call 35; refine HCP.out.mono ?_; rintro e w' ⟨u, rfl, hu, hxu⟩; have HU := Lib.hid (And.intro hu hxu); clear hu hxu)
                    go_meet
                    obtain ⟨A', c', hv, -⟩ := HU.out.1.slice
                    rw [bs_length] at hv
                    exact ⟨A', rr.length, c', rr, hv, rfl, HRL.out, hv ▸ HU.out.1.mono HT2.out.1.ext.le, HT2.out.1.later HU.out.2⟩
                  · have hqi : ¬ (q : Int) < (ny : Int) := by omega
                    go_wp2_with fail
                    go_meet
                    exact ⟨none, 0, 0, [], rfl, rfl, by omega, Own.nil _ _ _, HT2.out.1⟩
                case rest =>
                  obtain ⟨A', nb, cb, bb, rfl, hbl', hbs, hob, hts3⟩ := hcut
                  obtain ⟨W4, rfl⟩ : ∃ W, W = wc := ⟨_, rfl⟩
                  have hbc : nb ≤ cb := by
                    obtain ⟨A2, c2, hv, -, h2, -⟩ := hob.slice
                    injection hv with e1 e2 e3
                    rw [e2, e3]; exact h2
                  have HRP := Lib.hid (rparse_n A' nb cb bb W4 hbl' hob.rd hbc (by omega))
                  have H4 := Lib.hid (And.intro hob (And.intro hts3 (show bb.length ≤ 100000000000 by omega)))
                  clear hob hts3 hbl' hbc
                  obtain ⟨pa, hpa⟩ : ∃ p, l[a]? = some p := ⟨_, List.getElem?_eq_getElem (by rw [HSP.out.1]; exact han)⟩
                  obtain ⟨h0, v0⟩ := pa
                  obtain rfl : h0 = withIdx hd a := HSP.out.2.1 a _ hpa
                  obtain ⟨Aq, cq, hv0, hrq, hmq, -⟩ : ∃ A c, v0 = .slice A ns.length c ∧ RdRows w3 A (bl a) ∧ (bl a).map List.length = ns ∧ ns.length ≤ c := by
                    rcases HSP.out.2.2.each a _ hpa with ⟨e, -⟩ | ⟨-, A, c, e1, e2, e3, e4⟩
                    · have e2 : hd.k = 0 := congrArg HeadP.k e
                      have := HMK.out.1; omega
                    · exact ⟨A, c, e1, e2, e3, e4⟩
                  subst hv0
                  obtain ⟨nq, hnq⟩ : ∃ k, k = ns.length := ⟨_, rfl⟩
                  rw [← hnq] at hpa
                  have HPA := Lib.hid (And.intro (HSP.out.2.2.rd.shard hpa) (And.intro hrq (And.intro (show (bl a).map List.length = sizesP (withIdx hd a).k (withIdx hd a).blk (withIdx hd a).size by rw [hmq, HNS.out, ← HSZ.out]; rfl) (show (bl a).length = nq by rw [hnq, ← hmq, List.length_map]))))
                  have HLS := Lib.hid HT2.out.2
                  clear hpa hrq hmq hnq HT2 kb HPK
                  go_upto_region 29 with (first | (go_at_call 36; refine HRP.out.mono ?_; rintro e w5 h5; obtain ⟨hh, A5, n5, c5, z, rfl, hc5, hx5⟩ := h5.val; have HC5 := Lib.hid (And.intro hc5 hx5); clear h5 hc5 hx5) | (refine wpList_store_at rfl 50 _ _ rfl w5.heap.size 0 (shardC hh (.slice A5 n5 c5)) rfl rfl 50 (shardC zeroH (.slice none 0 0)) (Blk.new _ _ _) (by kernel_rfl) (Nat.le_refl 17) (shardC_ones hh rfl) ?_; intro w6 k0 k2; have k1 : Blk w6 w5.heap.size 50 (shardC hh (.slice A5 n5 c5)) := (seg_all (shardC zeroH (.slice none 0 0)) (shardC hh (.slice A5 n5 c5)) rfl) ▸ k0; have hx6 : Ext w5 w6 := k2.extNew ((Ext.refl w5).alloc _) (Nat.le_refl _); have HB6 := Lib.hid (And.intro k1 hx6); clear k0 k1 k2 hx6))
                  obtain ⟨g6, hg6⟩ : ∃ g, g = w5.heap.size := ⟨_, rfl⟩
                  rw [← hg6] at HB6 ⊢
                  have HX6 := Lib.hid (HC5.out.2.trans HB6.out.2)
                  have HC6 := Lib.hid HC5.out.1
                  have HR6 := Lib.hid fun bls (hr : Rows8 W4.heap.size w5 (.slice A5 n5 c5) bls) => hr.rd
                  clear hg6 HC5 HRP
                  rcases HC6.out with ⟨rfl, bls, hpp, hbn, hr5⟩ | ⟨hz, hpn, -, -, -, -⟩
                  · obtain ⟨o1, o2, o3⟩ := parseP_some hpp
                    obtain ⟨p1, p2⟩ := rows_pos o1 o3
                    obtain ⟨p3, p4⟩ := rows_pos (HOH.out.okI (show a < hd.k + hd.m by rw [← HN.out.1]; exact han)) HPA.out.2.2.1
                    obtain ⟨A5', c5', hv5, hr5', -⟩ := hr5.rd
                    injection hv5 with e1 e2 e3
                    subst e1 e3
                    have hx36 : Ext w3 w6 := H4.out.2.1.ext.trans HX6.out
                    obtain ⟨Wd, hWd⟩ : ∃ Wd, Wd = w6.drew := ⟨_, rfl⟩
                    have hxd : Ext w6 Wd := by rw [hWd]; exact (Ext.refl w6).drewN 1
                    have HSM := Lib.hid (rsame_n hh (withIdx hd a) A5 Aq n5 nq c5 cq bls (bl a) Wd (o1.smallH o2) (HOH.out.smallH a (by omega)) hbn HPA.out.2.2.2 ((hr5'.ext HB6.out.2).ext hxd) (HPA.out.2.1.ext (hx36.trans hxd)) p1 p3 (by rw [← hbn]; exact p2) (by rw [← HPA.out.2.2.2]; exact p4))
                    have q1 : ∀ w', Ext w6 w' → ∀ (j : Nat) (v : Value), (shardC hh (.slice A5 n5 c5))[j]? = some v → w'.cell? ((⟨g6, 0, none⟩ : Addr).add j) = some v := fun w' hx => (HB6.out.1.ext hx).cells
                    have q2 : ∀ w', Ext w6 w' → ∀ (j : Nat) (v : Value), (shardC (withIdx hd a) (.slice Aq nq cq))[j]? = some v → w'.cell? ((⟨g, a * 17, none⟩ : Addr).add j) = some v := fun w' hx j v hv => ((hx36.trans hx).cell (World.block_lt_of_cell? _ _ (HPA.out.1 j v hv))).trans (HPA.out.1 j v hv)
                    have Q1 := Lib.hid q1
                    have Q2 := Lib.hid q2
                    have HXD := Lib.hid (And.intro hxd (H4.out.2.1.later HX6.out))
                    have HPP := Lib.hid hpp
                    clear o1 o2 o3 p1 p2 p3 p4 hr5 hr5' hbn hpp q1 q2 hx36 hxd
                    refine Grd.wp_region_mix (fun i => [3, 3, 3, 0, 3, 3, 3, 0, 1, 3, 3].getD i 0) (fun w' => Ext w6 w') hmo (by kernel_rfl) (by kernel_rfl) ((Ext.refl w6).drewN 1) ?_
                    rw [← hWd]
                    clear hWd
                    refine Grd.mix_pure (.int .i64 0) rfl (by kernel_rfl) (fun w' => by go_simp) ?_
                    refine Grd.mix_pure (.bool true) rfl (by kernel_rfl) (fun w' => by go_simp) ?_
                    refine Grd.mix_pure (.bool true) rfl (by kernel_rfl) (fun w' => by go_simp) ?_
                    refine Grd.mix_still (.agg (shardC hh (.slice A5 n5 c5))) rfl (by kernel_rfl) (fun w' hw' => load_run rfl (by go_simp) (Q1.out w' hw') Try.underlying50 rfl (by kernel_rfl)) ?_
                    refine Grd.mix_pure (.slice (some ⟨g, 0, none⟩) n n) rfl (by kernel_rfl) (fun w' => by go_simp) ?_
                    refine Grd.mix_pure (.int .i64 (a : Int)) rfl (by kernel_rfl) (fun w' => by go_simp) ?_
                    refine Grd.mix_pure (.pointer (some ⟨g, a * 17, none⟩)) rfl (by kernel_rfl) (fun w' => by go_simp) ?_
                    refine Grd.mix_still (.agg (shardC (withIdx hd a) (.slice Aq nq cq))) rfl (by kernel_rfl) (fun w' hw' => load_run rfl (by go_simp) (Q2.out w' hw') Try.underlying50 rfl (by kernel_rfl)) ?_
                    refine Grd.mix_call 37 #[.agg (shardC hh (.slice A5 n5 c5)), .agg (shardC (withIdx hd a) (.slice Aq nq cq))] rfl (by kernel_rfl) (by go_simp) ?_
                    refine HSM.out.mono ?_
                    rintro e w7 ⟨⟨r, rfl, hr⟩, hx7⟩
                    have HR7 := Lib.hid (And.intro hr (HXD.out.1.trans hx7))
                    clear hr hx7 HSM Q1 Q2
                    refine ⟨_, rfl, HR7.out.2, ?_⟩
                    refine Grd.mix_pure (.bool (!r)) rfl (by kernel_rfl) (fun w' => by go_simp) ?_
                    refine Grd.mix_pure (.bool (!r)) rfl (by kernel_rfl) (fun w' => by go_simp) ?_
                    refine Grd.mix_nil ?_
                    have HT7 : Hid (TSt w3 w7 n gf cf gl hd bl F' Ls' ∧ Ext W4 w7) := Lib.hid (by have h := HX6.out.trans HR7.out.2; exact ⟨H4.out.2.1.later h, h⟩)
                    have ff : w7.frozen? ⟨gf, a, none⟩ = false := by obtain ⟨V, h1, -⟩ := HT7.out.1.files; exact h1.frozen a
                    obtain ⟨vf, cvf⟩ : ∃ v, w7.cell? ⟨gf, a, none⟩ = some v := by
                      obtain ⟨V, h1, h2, -⟩ := HT7.out.1.files
                      exact ⟨_, h1.cell (List.getElem?_eq_getElem (show a < V.length by rw [h2, HT7.out.1.flen]; exact han))⟩
                    cases r with
                    | false =>
                      go_simp
                      go_wp2_with fail
                      go_ret
                      exact ⟨rfl, (HB3.out.2.2.2.trans HT7.out.1.ext)⟩
                    | true =>
                      have hgood : Good hd bl Ls' a bb := ⟨.inl (by
                        obtain ⟨e1, e2⟩ := HR7.out.1.1 rfl
                        rw [HPP.out, e1, e2]), H4.out.2.2⟩
                      have HPUT := Lib.hid (HT7.out.1.put (j := a) (H4.out.1.ext HT7.out.2) hgood)
                      clear hgood
                      go_simp
                      go_wp2_with fail
                      go_roundw
                      case rel => exact ⟨q + 1, _, Ls', rfl, by omega, by go_num, rfl, HPUT.out, HLS.out.1⟩
                      case measure => simp [intOf]; omega
                  · have hz0 : (z == 0) = false := by rw [beq_eq_false_iff_ne]; exact hz
                    have hgood : Good hd bl Ls' a bb := ⟨.inr ⟨hpn, HLS.out.2⟩, H4.out.2.2⟩
                    have hd6 : ∀ k, Ext W4 (w6.drewN k) := fun k => HX6.out.trans ((Ext.refl w6).drewN k)
                    have hT6 := H4.out.2.1.later HX6.out
                    have HPUT := Lib.hid fun k => (H4.out.2.1.later (hd6 k)).put (j := a) (H4.out.1.ext (hd6 k)) hgood
                    have ff6 : w6.frozen? ⟨gf, a, none⟩ = false := by obtain ⟨V, h1, -⟩ := hT6.files; exact h1.frozen a
                    obtain ⟨vf, cv6⟩ : ∃ v, w6.cell? ⟨gf, a, none⟩ = some v := by
                      obtain ⟨V, h1, h2, -⟩ := hT6.files
                      exact ⟨_, h1.cell (List.getElem?_eq_getElem (show a < V.length by rw [h2, hT6.flen]; exact han))⟩
                    clear hpn hgood hd6 hT6
                    go_quiet (fail)
                    go_wp2_with fail
                    go_roundw
                    case rel => exact ⟨q + 1, _, Ls', rfl, by omega, by go_num, rfl, HPUT.out _, HLS.out.1⟩
                    case measure => simp [intOf]; omega
            · obtain rfl : q = np := by omega
              go_wp2_with fail
              go_meet
              exact ⟨rfl, F', Ls, HTS.out.1.ext, HTS.out.1.files, HTS.out.1.flen, HTS.out.1.llen, HTS.out.1.good, HTS.out.2⟩
        case rest =>
          obtain ⟨rfl, F2, Ls, hx2, hfi, hfl, hll, hgd, hcm⟩ := hcut
          obtain ⟨W2, rfl⟩ : ∃ W, W = wc := ⟨_, rfl⟩
          have HFI := Lib.hid (And.intro hfi (And.intro hfl (And.intro hll (And.intro hgd (And.intro hcm hx2)))))
          clear hx2 hfi hfl hll hgd hcm HT0
          go_wp2_with fail
          go_loopw [18, 19] (fun v i wr => ∃ (q : Nat) (v' : Value) (lb : List (HeadP × Value)), v' = v ∧ q ≤ n ∧ i = .int .i64 q ∧ BSt W2 wr hd bl Ls v' lb ∧ lb.length = q) (fun _ i _ => n - (intOf i).toNat)
          case atStart => exact ⟨0, _, [], rfl, Nat.zero_le _, rfl, ⟨Ext.refl _, OwnS.nil _ _, fun i p hi => by simp at hi⟩, rfl⟩
          case round =>
            obtain ⟨W, rfl⟩ : ∃ W, W = wr := ⟨_, rfl⟩
            obtain ⟨q, v', lb, rfl, hq, rfl, hbs, hlb⟩ := hrel
            by_cases hlt : q < n
            · have hbl2 : lb.length ≤ 1000 := by omega
              obtain ⟨V, hV, hVl, hVr⟩ := HFI.out.1.ext hbs.ext
              obtain ⟨u, hu⟩ : ∃ u, V[q]? = some u := ⟨_, List.getElem?_eq_getElem (by rw [hVl, HFI.out.2.1]; exact hlt)⟩
              obtain ⟨b, hb⟩ : ∃ b, F2[q]? = some b := ⟨_, List.getElem?_eq_getElem (by rw [HFI.out.2.1]; exact hlt)⟩
              have hown := hVr q u hu
              rw [List.getD_eq_getElem?_getD, hb, Option.getD_some] at hown
              obtain ⟨Af, cq, rfl, hrd, hle, -, hAb⟩ := hown.slice
              rw [bs_length] at hle hu
              have cf1 : W.cell? ⟨gf, q, none⟩ = some (.slice Af b.length cq) := hV.cell hu
              have hgood := HFI.out.2.2.2.1 q b hb
              have HPS := Lib.hid (parse_n Af b.length cq b W rfl hrd (fun ad e => (hAb ad e).2) hle hgood.2)
              have HG := Lib.hid hgood.1
              have HBS := Lib.hid (And.intro hbs hlb)
              have hl0 : lb.length = q := hlb
              clear hV hVl hVr hu hb hown hrd hle hAb hgood hbs hlb
              go_upto_if 142 with (first | (go_at_call 38; refine HPS.out.mono ?_; rintro e w5 h5; obtain ⟨hh, A5, n5, c5, z, rfl, hc5, hx5⟩ := h5.val; have HC5 := Lib.hid (And.intro hc5 hx5); clear h5 hc5 hx5) | (refine wpList_store_at rfl 50 _ _ rfl w5.heap.size 0 (shardC hh (.slice A5 n5 c5)) rfl rfl 50 (shardC zeroH (.slice none 0 0)) (Blk.new _ _ _) (by kernel_rfl) (Nat.le_refl 17) (shardC_ones hh rfl) ?_; intro w6 k0 k2; have k1 : Blk w6 w5.heap.size 50 (shardC hh (.slice A5 n5 c5)) := (seg_all (shardC zeroH (.slice none 0 0)) (shardC hh (.slice A5 n5 c5)) rfl) ▸ k0; have hx6 : Ext w5 w6 := k2.extNew ((Ext.refl w5).alloc _) (Nat.le_refl _); have HB6 := Lib.hid (And.intro k1 hx6); clear k0 k1 k2 hx6))
              have hg5 : w5.heap.size ≤ w5.heap.size := Nat.le_refl _
              obtain ⟨g6, hg6⟩ : ∃ g, g = w5.heap.size := ⟨_, rfl⟩
              have HG6 := Lib.hid hg6
              rw [← hg6] at HB6 ⊢
              clear hg6 hg5 HPS cf1
              go_cut [] (fun wx => Blk wx g6 50 (shardC hh (.slice A5 n5 c5)) ∧ Ext w5 wx)
              case first =>
                rcases HC5.out.1 with ⟨rfl, -⟩ | ⟨hz, -, rfl, rfl, rfl, rfl⟩
                · go_wp2_with fail
                  go_meet
                  exact HB6.out
                · have hz0 : (z != 0) = true := by rw [bne_iff_ne]; exact hz
                  go_wp2_with (first | (refine wpList_build_to rfl 50 #[] rfl (shardC zeroH (.slice none 0 0)) (by kernel_rfl) ?_) | (refine wpList_store_at rfl 50 _ _ rfl g6 0 (shardC zeroH (.slice none 0 0)) rfl rfl 50 (shardC zeroH (.slice none 0 0)) HB6.out.1 (by kernel_rfl) (Nat.le_refl 17) (shardC_ones zeroH rfl) ?_; intro w7 k0 k2; have k1 : Blk w7 g6 50 (shardC zeroH (.slice none 0 0)) := (seg_all (shardC zeroH (.slice none 0 0)) (shardC zeroH (.slice none 0 0)) rfl) ▸ k0; have hx7 : Ext w5 w7 := k2.extNew HB6.out.2 (by rw [HG6.out]; exact Nat.le_refl _)))
                  go_meet
                  exact ⟨k1, hx7⟩
              case rest =>
                obtain ⟨hb7, hx7⟩ := hcut
                obtain ⟨W7, rfl⟩ : ∃ W, W = wc := ⟨_, rfl⟩
                have HB7 := Lib.hid (And.intro hb7 (HC5.out.2.trans hx7))
                have hle7 : W2.heap.size ≤ W7.heap.size := Nat.le_trans HBS.out.1.ext.le (HC5.out.2.trans hx7).le
                have HE : Hid (BackE hd bl Ls W2.heap.size W7 q (hh, .slice A5 n5 c5)) := Lib.hid (by
                  rcases HC5.out.1 with ⟨rfl, bls, hpp, hbn, hr⟩ | ⟨hz, hpn, rfl, rfl, rfl, rfl⟩
                  · rcases HG.out with h1 | ⟨h1, -⟩
                    · rw [h1] at hpp
                      injection hpp with hpp
                      injection hpp with e1 e2
                      refine .inr ⟨e1.symm, ?_⟩
                      rw [e2]
                      exact (hr.mono HBS.out.1.ext.le).ext hx7
                    · rw [h1] at hpp; cases hpp
                  · rcases HG.out with h1 | ⟨-, h1⟩
                    · rw [h1] at hpn; cases hpn
                    · exact .inl ⟨rfl, rfl, h1⟩)
                have HL7 := Lib.hid hle7
                clear hb7 hx7 hle7 HC5 HB6 HG6 HG
                go_wp2_with (first | (refine wpList_load_at rfl 50 _ rfl ⟨g6, 0, none⟩ rfl (shardC hh (.slice A5 n5 c5)) _ HB7.out.1.cells Try.underlying50 rfl (by kernel_rfl) ?_) | (at_builtin; rw [fold_shard]; refine wpList_appS rfl _ _ rfl W2.heap.size v' lb rfl (OwnS.ext HBS.out.1.own (HB7.out.2.alloc (.cells (shardC hh (.slice A5 n5 c5)) 50))) ⟨W7.heap.size, 0, none⟩ 1 (hh, .slice A5 n5 c5) rfl (Blk.new W7 50 (shardC hh (.slice A5 n5 c5))).cells rfl hbl2 (by have := HL7.out; simp; omega) ?_))
                · exfalso
                  have e17 : (shardC hh (.slice A5 n5 c5)).size = 17 := rfl
                  rcases h with h | h
                  · exact of_decide_eq_true h e17
                  · exact Nat.lt_irrefl 17 (e17 ▸ h)
                intro v9 w9 ho9 hg9
                have hA7 : Ext W7 (W7.alloc (.cells (shardC hh (.slice A5 n5 c5)) 50)) := (Ext.refl W7).alloc _
                have HA := Lib.hid (HBS.out.1.app (HB7.out.2.trans hA7) ho9 hg9 (by
                  rw [hl0]
                  rcases HE.out with h1 | ⟨h1, h2⟩
                  · exact .inl h1
                  · exact .inr ⟨h1, h2.ext hA7⟩))
                clear hA7 ho9 hg9
                go_wp2_with fail
                go_roundw
                case rel => exact ⟨q + 1, v9, lb ++ [(hh, .slice A5 n5 c5)], rfl, by omega, by go_num, HA.out, by rw [List.length_append, hl0]; rfl⟩
                case measure => simp [intOf]; omega
            · obtain rfl : n = q := by omega
              obtain ⟨gb, cb, rfl, hrs⟩ := hbs.own.rd (by omega)
              rw [hlb] at hbs ⊢
              have hbs' : BSt W2 W hd (blocksP hd.k n ns x.data) Ls (.slice (some ⟨gb, 0, none⟩) n cb) lb := by rw [← HBL.out]; exact hbs
              have hp := hbs'.parts hlb hrs
              have hen := here_marks hlb HFI.out.2.2.1 (fun i p hi => by
                rcases hbs.each i p hi with ⟨-, -, h⟩ | ⟨h, -⟩
                · exact .inr h
                · exact .inl (by rw [h]; exact HMK.out.1))
              have HJ := Lib.hid (join_shards gb n cb hd ns x.data lb W hlb HN.out.1 hp HOH.out HSZ.out (by have := HFI.out.2.2.2.2.1; have := HN.out.1; omega))
              have HXW : Hid (Ext w3 W) := Lib.hid (HFI.out.2.2.2.2.2.trans hbs.ext)
              clear hp hen hbs hbs' hrs
              go_upto_region 41 with (go_at_call 39; refine HJ.out.mono ?_; rintro e w9 ⟨⟨A9, c9, rfl, hr9⟩, hx9⟩; have HR9 := Lib.hid (And.intro hr9 (HXW.out.trans hx9)); clear hr9 hx9)
              have hx39 : Ext w3 w9 := HR9.out.2
              have kd : w9.cell? ⟨w.heap.size, 6, none⟩ = some (.slice x.Ad x.data.length x.cd) := Blk.cell (HB3.out.2.2.1.ext hx39) 6
              have Kd : ∀ w', Ext w9 w' → w'.cell? ⟨w.heap.size, 6, none⟩ = some (.slice x.Ad x.data.length x.cd) := fun w' hx => (hx.cell (World.block_lt_of_cell? _ _ kd)).trans kd
              obtain ⟨sx, hsx⟩ : ∃ s, s = strB x.data := ⟨_, rfl⟩
              have C1 : ∀ w', Ext w9 w' → (convert 24 9 (.slice A9 x.data.length c9)).run Try.prog w' = .ok (.string sx) w' := fun w' hx => by rw [hsx]; exact convert_any (HR9.out.1.ext hx) c9
              have C2 : ∀ w', Ext w9 w' → (convert 24 9 (.slice x.Ad x.data.length x.cd)).run Try.prog w' = .ok (.string sx) w' := fun w' hx => by rw [hsx]; exact convert_any ((HO.out.data.1.ext (HB3.out.2.2.2.trans hx39)).ext hx) x.cd
              obtain ⟨ln, hln⟩ : ∃ k, k = x.data.length := ⟨_, rfl⟩
              rw [← hln] at C1 C2 Kd ⊢
              have HXF : Hid (Ext w w9) := Lib.hid (HB3.out.2.2.2.trans hx39)
              clear hsx hln kd hx39
              have kd9 := Kd w9 (Ext.refl w9)
              have C19 := C1 w9 (Ext.refl w9)
              have C29 := C2 w9 (Ext.refl w9)
              clear Kd C1 C2
              go_wp2_with fail
              go_ret
              exact ⟨rfl, HXF.out⟩
end Go.Proofs.Ytdoeelfcihdmbaa
/-
  The argument of the law through the layers opened, where it is of a bulk that is bounded: a struct of nine.
-/
namespace Go.Proofs.Ytdoeelfcihdmbaa
open Go.ChangeShapes Go.WideShapes Go.ChangeAt Go.RowKit Gf Go.Deep
set_option linter.unusedVariables false

section
variable {H : Type} {enc : TypeId × Value → H} {P : Program} {w : World}
theorem array9 {α : Type} {cs : Array α} (h : cs.size = 9) : ∃ c0 c1 c2 c3 c4 c5 c6 c7 c8, cs = #[c0, c1, c2, c3, c4, c5, c6, c7, c8] := by
  obtain ⟨l⟩ := cs
  match l, h with
  | [c0, c1, c2, c3, c4, c5, c6, c7, c8], _ => exact ⟨c0, c1, c2, c3, c4, c5, c6, c7, c8, rfl⟩
theorem open_agg9u {base : Nat} {spare : Nat → Bool} {held : Bool} {r : Reach} {b0 : Nat} {t : TypeId} {f0 f1 f2 f3 f4 f5 f6 f7 f8 : Field} {v : Value} {d : DataW H} {p : List MemPlace} (hs : P.underlying t = some (.struct #[f0, f1, f2, f3, f4, f5, f6, f7, f8])) (hone : oneCellFields P #[f0, f1, f2, f3, f4, f5, f6, f7, f8] = true) (hC : P.cellsOf t = 9)
    (hv : Value.okWide P w r b0 t v) (h : DataW.Trod enc P w base spare held t v d p) :
    ∃ (v0 v1 v2 v3 v4 v5 v6 v7 v8 : Value) (y0 y1 y2 y3 y4 y5 y6 y7 y8 : DataW H × List MemPlace) (n : Nat), v = .agg #[v0, v1, v2, v3, v4, v5, v6, v7, v8] ∧ d = .agg [y0.1, y1.1, y2.1, y3.1, y4.1, y5.1, y6.1, y7.1, y8.1] ∧
      DataW.trod enc P w base spare held n f0.type [v0] = some y0 ∧ DataW.trod enc P w base spare held n f1.type [v1] = some y1 ∧ DataW.trod enc P w base spare held n f2.type [v2] = some y2 ∧ DataW.trod enc P w base spare held n f3.type [v3] = some y3 ∧
      DataW.trod enc P w base spare held n f4.type [v4] = some y4 ∧ DataW.trod enc P w base spare held n f5.type [v5] = some y5 ∧ DataW.trod enc P w base spare held n f6.type [v6] = some y6 ∧ DataW.trod enc P w base spare held n f7.type [v7] = some y7 ∧ DataW.trod enc P w base spare held n f8.type [v8] = some y8 := by
  obtain ⟨cs, rfl, hsz⟩ := okWide_struct hs hv
  obtain ⟨c0, c1, c2, c3, c4, c5, c6, c7, c8, rfl⟩ := array9 (hsz.trans hC)
  obtain ⟨fuel, hf⟩ := h
  obtain ⟨xs, n, _, hx, hl, hlen, hff⟩ := DataW.trod_struct hs hf
  obtain ⟨o0, k0⟩ := hone_of hone 0 f0 rfl
  obtain ⟨o1, k1⟩ := hone_of hone 1 f1 rfl
  obtain ⟨o2, k2⟩ := hone_of hone 2 f2 rfl
  obtain ⟨o3, k3⟩ := hone_of hone 3 f3 rfl
  obtain ⟨o4, k4⟩ := hone_of hone 4 f4 rfl
  obtain ⟨o5, k5⟩ := hone_of hone 5 f5 rfl
  obtain ⟨o6, k6⟩ := hone_of hone 6 f6 rfl
  obtain ⟨o7, k7⟩ := hone_of hone 7 f7 rfl
  obtain ⟨o8, k8⟩ := hone_of hone 8 f8 rfl
  match xs, hlen with
  | [y0, y1, y2, y3, y4, y5, y6, y7, y8], _ =>
    simp only [Prod.mk.injEq] at hx
    exact ⟨c0, c1, c2, c3, c4, c5, c6, c7, c8, y0, y1, y2, y3, y4, y5, y6, y7, y8, n, rfl, by simpa using hx.1, by simpa [Value.cells, o0, k0] using hff 0 f0 rfl, by simpa [Value.cells, o1, k1] using hff 1 f1 rfl, by simpa [Value.cells, o2, k2] using hff 2 f2 rfl, by simpa [Value.cells, o3, k3] using hff 3 f3 rfl, by simpa [Value.cells, o4, k4] using hff 4 f4 rfl, by simpa [Value.cells, o5, k5] using hff 5 f5 rfl, by simpa [Value.cells, o6, k6] using hff 6 f6 rfl, by simpa [Value.cells, o7, k7] using hff 7 f7 rfl, by simpa [Value.cells, o8, k8] using hff 8 f8 rfl⟩
/-- A text as the bytes it is of. -/
theorem strB_of (s : ByteArray) : ∃ l : List E, s = strB l ∧ l.length = s.size := by
  obtain ⟨d⟩ := s
  have e : bytesU (d.toList.map (fun b => E.of b.toNat)) = d.toList := by
    rw [bytesU, List.map_map]
    conv => rhs; rw [← List.map_id d.toList]
    apply List.map_congr_left
    intro b _
    have := b.toNat_lt
    simp only [Function.comp]
    rw [E.val_of (by omega)]
    simp
  refine ⟨d.toList.map (fun b => E.of b.toNat), ?_, ?_⟩
  · rw [strB, e]
  · rw [List.length_map]; rfl
theorem open_string_u {base : Nat} {spare : Nat → Bool} {held : Bool} {t : TypeId} {fuel : Nat} {cs : List Value} {y : DataW H × List MemPlace} (ht : P.underlying t = some .string)
    (h : DataW.trod enc P w base spare held fuel t cs = some y) (hB : Rows.uptoBulk y.1 ≤ 1048576) : ∃ l : List E, cs = [.string (strB l)] ∧ l.length ≤ 1048576 := by
  obtain ⟨s, e1, e2, -⟩ := DataW.trod_string ht h
  obtain ⟨l, e3, e4⟩ := strB_of s
  refine ⟨l, by rw [e1, e3], ?_⟩
  rw [e2] at hB
  simp only [Rows.uptoBulk] at hB
  rw [e4]
  have e5 : s.data.toList.length = s.size := rfl
  omega
end
end Go.Proofs.Ytdoeelfcihdmbaa
