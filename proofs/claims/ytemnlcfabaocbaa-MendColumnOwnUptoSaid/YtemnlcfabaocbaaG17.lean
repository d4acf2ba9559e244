/-
  Texts of mine, merged: ColW.
-/
import Derived.Test.YtemnlcfabaocbaaG5
import Derived.Test.YtemnlcfabaocbaaG7
import Derived.Test.YtemnlcfabaocbaaG12
import Derived.Test.YtemnlcfabaocbaaG16
import Derived.Deep.RegionHeld3
import Derived.Deep.DeepCutAuto
/-
  Layer 5: the walk of the statement MendColumnOwn.
-/
namespace Go.Proofs.Ytemnlcfabaocbaa
open Go.RowKit Gf
set_option maxRecDepth 20000
set_option linter.unusedVariables false
set_option maxHeartbeats 16000000 in
theorem colWalk_n (kx ky : Int) (Awx Alx Awy Aly : Option Addr) (nwx cwx nlx clx nwy cwy nly cly : Nat) (xw yw : List E) (xl yl : List Bool) (w : World) (hnwx : xw.length = nwx) (hnlx : xl.length = nlx) (hnwy : yw.length = nwy) (hnly : yl.length = nly)
    (hrwx : Rd w Awx (bs xw)) (hrlx : Rd w Alx (bools xl)) (hrwy : Rd w Awy (bs yw)) (hrly : Rd w Aly (bools yl)) (hbwx : nwx ≤ 1048576) (hblx : nlx ≤ 1048576) (hbwy : nwy ≤ 1048576) (hbly : nly ≤ 1048576) (hkx : (Lit.int .i64 kx).wf = true) (hky : (Lit.int .i64 ky).wf = true) :
    Calls Try.prog 19 #[.agg #[.int .i64 kx, .slice Awx nwx cwx, .slice Alx nlx clx], .agg #[.int .i64 ky, .slice Awy nwy cwy, .slice Aly nly cly]] w fun e w' => e = .returned (.bool true) ∧ Ext w w' := by
  obtain ⟨wb, hwb0⟩ : ∃ wb, wb = (w.alloc (.cells #[.int .i64 kx, .slice Awx nwx cwx, .slice Alx nlx clx] 69)).alloc (.cells #[.int .i64 ky, .slice Awy nwy cwy, .slice Aly nly cly] 69) := ⟨_, rfl⟩
  have Y : Hid (Ext w wb) := Lib.hid (by rw [hwb0]; exact ((Ext.refl w).alloc _).alloc _)
  have lb : wb.heap.size = w.heap.size + 2 := by rw [hwb0]; simp
  have BK : Hid (Blk wb w.heap.size 69 #[.int .i64 kx, .slice Awx nwx cwx, .slice Alx nlx clx]) := Lib.hid (by rw [hwb0]; exact (Blk.new _ _ _).alloc _)
  have BY : Hid (Blk wb (w.heap.size + 1) 69 #[.int .i64 ky, .slice Awy nwy cwy, .slice Aly nly cly]) := Lib.hid (by
    have h : (w.alloc (.cells #[.int .i64 kx, .slice Awx nwx cwx, .slice Alx nlx clx] 69)).heap.size = w.heap.size + 1 := by simp
    rw [hwb0, ← h]; exact Blk.new _ _ _)
  have RW : Hid (Rd wb Awx (bs xw)) := Lib.hid (hrwx.ext Y.out)
  have RL : Hid (Rd wb Alx (bools xl)) := Lib.hid (hrlx.ext Y.out)
  have SW : Hid (Rd wb Awy (bs yw)) := Lib.hid (hrwy.ext Y.out)
  have SL : Hid (Rd wb Aly (bools yl)) := Lib.hid (hrly.ext Y.out)
  have RW0 := RW
  have RL0 := RL
  have NW := Lib.hid hnwx
  have NL := Lib.hid hnlx
  have MW := Lib.hid hnwy
  have ML := Lib.hid hnly
  have Y0 : Hid (Ext wb wb) := Lib.hid (Ext.refl wb)
  have hmo : Try.prog.follows Departure.mixedOrders = true := by kernel_rfl
  have HWB := Lib.hid hwb0
  clear hrwx hrlx hrwy hrly hnwx hnlx hnwy hnly hwb0
  go_enter Try.func19, Try.ntmps19
  go_wp2_with fail
  rw [← HWB.out]
  clear HWB
  refine (awake_n _).mono ?_
  rintro e w1 ⟨rfl, hx⟩
  have l1 := hx.le
  replace BK := Lib.hid (BK.out.ext hx)
  replace BY := Lib.hid (BY.out.ext hx)
  replace RW := Lib.hid (RW.out.ext hx)
  replace RL := Lib.hid (RL.out.ext hx)
  replace SW := Lib.hid (SW.out.ext hx)
  replace SL := Lib.hid (SL.out.ext hx)
  replace Y := Lib.hid (Y.out.trans hx)
  replace Y0 := Lib.hid (Y0.out.trans hx)
  clear hx
  have q11 : World.cell? w1 ⟨w.heap.size, 1, none⟩ = some (Value.slice Awx nwx cwx) := BK.out.cell 1
  go_wp2_with fail
  clear q11
  refine (elems5_n Awx _ xw cwx _ NW.out RW.out (by omega)).mono ?_
  rintro e w2 ⟨v, rfl, ho, hx⟩
  obtain ⟨Ap, cp, hv, -, hcAp, hmAp, someAp⟩ := ho.opened
  rw [bs_length, NW.out] at hv hcAp someAp
  subst hv
  simp only [maxLen] at hmAp
  have HP := Lib.hid (Span.of ho)
  clear ho
  have l2 := hx.le
  replace BK := Lib.hid (BK.out.ext hx)
  replace BY := Lib.hid (BY.out.ext hx)
  replace RW := Lib.hid (RW.out.ext hx)
  replace RL := Lib.hid (RL.out.ext hx)
  replace SW := Lib.hid (SW.out.ext hx)
  replace SL := Lib.hid (SL.out.ext hx)
  replace Y := Lib.hid (Y.out.trans hx)
  replace Y0 := Lib.hid (Y0.out.trans hx)
  clear hx
  have q : World.cell? (w2.alloc (.cells #[] 4)) ⟨w.heap.size, 2, none⟩ = some (Value.slice Alx nlx clx) := (BK.out.alloc _).cell 2
  have h0 : Own (w2.alloc (.cells #[] 4)) w2.heap.size 4 (.slice (some ⟨w2.heap.size, 0, none⟩) 0 0) [] := (Blk.new w2 4 #[]).own (Nat.le_refl _) (Nat.le_refl _) (Nat.zero_le _) rfl
  have hbd : (([] : List Value).length + nlx) * 1 ≤ 140737488355328 := by simp; omega
  have hln : (bools xl).length = nlx := by rw [bools_length, NL.out]
  have HLN := Lib.hid hln
  clear hln
  go_wp2_with (at_builtin; refine wpList_app (w2.alloc (.cells #[] 4)) eltBool rfl _ _ (by rfl) w2.heap.size (.slice (some ⟨w2.heap.size, 0, none⟩) 0 0) [] (by rfl) (by exact h0) Alx nlx clx (bools xl) (by rfl) (RL.out.alloc _) HLN.out (bools_ones _) hbd (by simp) ?_)
  intro v w3 ho hmv
  have ho' : Own w3 w2.heap.size 4 v (bools xl) := by simpa using ho
  have hx : Ext w2 w3 := ((Ext.refl w2).alloc _).below.trans (hmv.below (by simp) fun g hg => by simp [Value.ownBlock] at hg; omega)
  clear h0 hbd ho hmv q
  obtain ⟨Aq, cq, hv, -, hcAq, hmAq, someAq⟩ := ho'.opened
  rw [HLN.out] at hv hcAq someAq
  subst hv
  simp only [maxLen] at hmAq
  have HQ := Lib.hid (Span.of ho')
  clear ho' HLN
  have l3 := hx.le
  replace BK := Lib.hid (BK.out.ext hx)
  replace BY := Lib.hid (BY.out.ext hx)
  replace RW := Lib.hid (RW.out.ext hx)
  replace RL := Lib.hid (RL.out.ext hx)
  replace SW := Lib.hid (SW.out.ext hx)
  replace SL := Lib.hid (SL.out.ext hx)
  replace HP := Lib.hid (HP.out.ext hx)
  replace Y := Lib.hid (Y.out.trans hx)
  replace Y0 := Lib.hid (Y0.out.trans hx)
  clear hx
  have q10 : World.cell? w3 ⟨w.heap.size, 0, none⟩ = some (Value.int .i64 kx) := BK.out.cell 0
  go_wp2_with fail
  clear q10
  refine (column_n Ap Aq nwx nlx cp cq kx (xw) (xl) _ NW.out NL.out HP.out.rd HQ.out.rd (by omega) (by omega) hkx).mono ?_
  rintro e w4 ⟨va, vb, out_, bad_, ee_, rfl, hsp, hoa, hob, hx⟩
  obtain ⟨out, bad, ee, rfl, rfl, rfl⟩ : ∃ a b c, a = out_ ∧ b = bad_ ∧ c = ee_ := ⟨_, _, _, rfl, rfl, rfl⟩
  obtain ⟨sout, sbad, -⟩ := hsp.small
  have SPX := Lib.hid hsp
  clear hsp
  obtain ⟨Aa, ca, hv, -, hcAa, hmAa, someAa⟩ := hoa.opened
  rw [bs_length] at hv hcAa someAa
  subst hv
  simp only [maxLen] at hmAa
  have OA := Lib.hid (Span.of hoa)
  clear hoa
  obtain ⟨Ba, da, hv, -, hcBa, hmBa, someBa⟩ := hob.opened
  rw [ints_length] at hv hcBa someBa
  subst hv
  simp only [maxLen] at hmBa
  have IA := Lib.hid (Span.of hob)
  clear hob
  have l4 := hx.le
  replace BK := Lib.hid (BK.out.ext hx)
  replace BY := Lib.hid (BY.out.ext hx)
  replace RW := Lib.hid (RW.out.ext hx)
  replace RL := Lib.hid (RL.out.ext hx)
  replace SW := Lib.hid (SW.out.ext hx)
  replace SL := Lib.hid (SL.out.ext hx)
  replace HP := Lib.hid (HP.out.ext hx)
  replace HQ := Lib.hid (HQ.out.ext hx)
  replace Y := Lib.hid (Y.out.trans hx)
  replace Y0 := Lib.hid (Y0.out.trans hx)
  clear hx
  have q10 : World.cell? w4 ⟨w.heap.size, 0, none⟩ = some (Value.int .i64 kx) := BK.out.cell 0
  go_wp2_with fail
  clear q10
  refine (column_n Ap Aq nwx nlx cp cq kx (xw) (xl) _ NW.out NL.out HP.out.rd HQ.out.rd (by omega) (by omega) hkx).mono ?_
  rintro e w5 ⟨va, vb, out_, bad_, ee_, rfl, hsp, hoa, hob, hx⟩
  obtain ⟨rfl, rfl, rfl⟩ := SPX.out.uniq hsp
  clear hsp
  obtain ⟨Ab, cb, hv, -, hcAb, hmAb, someAb⟩ := hoa.opened
  rw [bs_length] at hv hcAb someAb
  subst hv
  simp only [maxLen] at hmAb
  have OB := Lib.hid (Span.of hoa)
  clear hoa
  obtain ⟨Bb, db, hv, -, hcBb, hmBb, someBb⟩ := hob.opened
  rw [ints_length] at hv hcBb someBb
  subst hv
  simp only [maxLen] at hmBb
  have IB := Lib.hid (Span.of hob)
  clear hob
  have l5 := hx.le
  replace BK := Lib.hid (BK.out.ext hx)
  replace BY := Lib.hid (BY.out.ext hx)
  replace RW := Lib.hid (RW.out.ext hx)
  replace RL := Lib.hid (RL.out.ext hx)
  replace SW := Lib.hid (SW.out.ext hx)
  replace SL := Lib.hid (SL.out.ext hx)
  replace HP := Lib.hid (HP.out.ext hx)
  replace HQ := Lib.hid (HQ.out.ext hx)
  replace OA := Lib.hid (OA.out.ext hx)
  replace IA := Lib.hid (IA.out.ext hx)
  replace Y := Lib.hid (Y.out.trans hx)
  replace Y0 := Lib.hid (Y0.out.trans hx)
  clear hx
  go_wp2_with fail
  refine wp_region_mix (fun i => [0, 0, 0, 0, 1, 0, 0, 1, 3, 3, 3, 3, 3, 3, 3].getD i 0) (fun w' => Ext w5 w') hmo (by kernel_rfl) (by kernel_rfl) ((Ext.refl _).drewN 1) ?_
  have xd : Ext w5 (World.drew w5) := (Ext.refl _).drewN 1
  have b0 : ∀ w', Ext w5 w' → w'.cell? ⟨w.heap.size + 1, 0, none⟩ = some (Value.int .i64 ky) := fun w' h => (BY.out.ext h).cell 0
  have b1 : ∀ w', Ext w5 w' → w'.cell? ⟨w.heap.size + 1, 1, none⟩ = some (Value.slice Awy nwy cwy) := fun w' h => (BY.out.ext h).cell 1
  have b2 : ∀ w', Ext w5 w' → w'.cell? ⟨w.heap.size + 1, 2, none⟩ = some (Value.slice Aly nly cly) := fun w' h => (BY.out.ext h).cell 2
  refine mix_still (.pointer (some ⟨w.heap.size + 1, 0, none⟩)) rfl (fun w' hw' => by go_simp) ?_
  refine mix_still (Value.int .i64 ky) rfl (fun w' hw' => by have := b0 w' hw'; go_simp) ?_
  refine mix_still (.pointer (some ⟨w.heap.size + 1, 1, none⟩)) rfl (fun w' hw' => by go_simp) ?_
  refine mix_still (Value.slice Awy nwy cwy) rfl (fun w' hw' => by have := b1 w' hw'; go_simp) ?_
  refine mix_call 75 #[Value.slice Awy nwy cwy] rfl (by go_simp) ?_
  refine (elems5_n Awy _ yw cwy _ MW.out (SW.out.ext xd) (by omega)).mono ?_
  rintro e w6 ⟨v, rfl, ho, hx1⟩
  have x1 := xd.trans hx1
  have l6 := x1.le
  obtain ⟨Ae, ce, hv, hr1, hcAe, hmAe, someAe⟩ := ho.opened
  rw [bs_length, MW.out] at hv hcAe someAe
  subst hv
  simp only [maxLen] at hmAe
  refine ⟨_, rfl, x1, ?_⟩
  refine mix_still (.pointer (some ⟨w.heap.size + 1, 2, none⟩)) rfl (fun w' hw' => by go_simp) ?_
  refine mix_still (Value.slice Aly nly cly) rfl (fun w' hw' => by have := b2 w' hw'; go_simp) ?_
  refine mix_call 63 #[Value.int .i64 ky, .slice Ae nwy ce, Value.slice Aly nly cly] rfl (by go_simp) ?_
  refine (column_n Ae Aly nwy nly ce cly ky (yw) (yl) _ MW.out ML.out hr1 (SL.out.ext x1) (by omega) (by omega) hky).mono ?_
  rintro e w7 ⟨va, vb, out_, bad_, ee_, rfl, hsp, hoa, hob, hx2⟩
  have hx := x1.trans hx2
  refine ⟨_, rfl, hx, ?_⟩
  refine mix_pure (.tuple #[va, vb, .int .i64 ee_]) rfl (fun w' => by go_simp) ?_
  refine mix_pure (va) rfl (fun w' => by go_simp) ?_
  refine mix_pure (vb) rfl (fun w' => by go_simp) ?_
  refine mix_pure (.int .i64 ee_) rfl (fun w' => by go_simp) ?_
  refine mix_pure (va) rfl (fun w' => by go_simp) ?_
  refine mix_pure (vb) rfl (fun w' => by go_simp) ?_
  refine mix_pure (.int .i64 ee_) rfl (fun w' => by go_simp) ?_
  refine mix_nil ?_
  have l7b := hx2.le
  clear b0 b1 b2 xd hx1 x1 hr1 ho hx2
  obtain ⟨outy, bady, eey, rfl, rfl, rfl⟩ : ∃ a b c, a = out_ ∧ b = bad_ ∧ c = ee_ := ⟨_, _, _, rfl, rfl, rfl⟩
  obtain ⟨souty, sbady, -⟩ := hsp.small
  have SPY := Lib.hid hsp
  clear hsp
  obtain ⟨Ac, cc, hv, -, hcAc, hmAc, someAc⟩ := hoa.opened
  rw [bs_length] at hv hcAc someAc
  subst hv
  simp only [maxLen] at hmAc
  have OC := Lib.hid (Span.of hoa)
  clear hoa
  obtain ⟨Bc, dc, hv, -, hcBc, hmBc, someBc⟩ := hob.opened
  rw [ints_length] at hv hcBc someBc
  subst hv
  simp only [maxLen] at hmBc
  have IC := Lib.hid (Span.of hob)
  clear hob
  have l7 := hx.le
  replace BK := Lib.hid (BK.out.ext hx)
  replace BY := Lib.hid (BY.out.ext hx)
  replace RW := Lib.hid (RW.out.ext hx)
  replace RL := Lib.hid (RL.out.ext hx)
  replace SW := Lib.hid (SW.out.ext hx)
  replace SL := Lib.hid (SL.out.ext hx)
  replace HP := Lib.hid (HP.out.ext hx)
  replace HQ := Lib.hid (HQ.out.ext hx)
  replace OA := Lib.hid (OA.out.ext hx)
  replace IA := Lib.hid (IA.out.ext hx)
  replace OB := Lib.hid (OB.out.ext hx)
  replace IB := Lib.hid (IB.out.ext hx)
  replace Y := Lib.hid (Y.out.trans hx)
  replace Y0 := Lib.hid (Y0.out.trans hx)
  clear hx
  clear BY SW SL
  have q10 : World.cell? w7 ⟨w.heap.size, 0, none⟩ = some (Value.int .i64 kx) := BK.out.cell 0
  go_wp2_with fail
  clear q10
  refine (column_n Ap Aq nwx nlx cp cq kx (xw) (xl) _ NW.out NL.out HP.out.rd HQ.out.rd (by omega) (by omega) hkx).mono ?_
  rintro e w8 ⟨va, vb, out_, bad_, ee_, rfl, hsp, hoa, hob, hx⟩
  obtain ⟨rfl, rfl, rfl⟩ := SPX.out.uniq hsp
  clear hsp
  obtain ⟨Ad, cd, hv, -, hcAd, hmAd, someAd⟩ := hoa.opened
  rw [bs_length] at hv hcAd someAd
  subst hv
  simp only [maxLen] at hmAd
  have OD := Lib.hid (Span.of hoa)
  clear hoa
  obtain ⟨Bd, dd, hv, -, hcBd, hmBd, someBd⟩ := hob.opened
  rw [ints_length] at hv hcBd someBd
  subst hv
  simp only [maxLen] at hmBd
  have ID := Lib.hid (Span.of hob)
  clear hob
  have l8 := hx.le
  replace BK := Lib.hid (BK.out.ext hx)
  replace RW := Lib.hid (RW.out.ext hx)
  replace RL := Lib.hid (RL.out.ext hx)
  replace HP := Lib.hid (HP.out.ext hx)
  replace HQ := Lib.hid (HQ.out.ext hx)
  replace OA := Lib.hid (OA.out.ext hx)
  replace IA := Lib.hid (IA.out.ext hx)
  replace OB := Lib.hid (OB.out.ext hx)
  replace IB := Lib.hid (IB.out.ext hx)
  replace OC := Lib.hid (OC.out.ext hx)
  replace IC := Lib.hid (IC.out.ext hx)
  replace Y := Lib.hid (Y.out.trans hx)
  replace Y0 := Lib.hid (Y0.out.trans hx)
  clear hx
  have h0 : Own (w8.alloc (.cells #[] 34)) w8.heap.size 34 (.slice (some ⟨w8.heap.size, 0, none⟩) 0 0) [] := (Blk.new w8 34 #[]).own (Nat.le_refl _) (Nat.le_refl _) (Nat.zero_le _) rfl
  have hbd : (([] : List Value).length + out.length) * 1 ≤ 140737488355328 := by simp; omega
  have hln : (bs out).length = out.length := bs_length _
  have HLN := Lib.hid hln
  clear hln
  go_wp2_with (at_builtin; refine wpList_app (w8.alloc (.cells #[] 34)) eltEl rfl _ _ (by rfl) w8.heap.size (.slice (some ⟨w8.heap.size, 0, none⟩) 0 0) [] (by rfl) (by exact h0) Aa out.length ca (bs out) (by rfl) (OA.out.rd.alloc _) HLN.out (bs_ones _) hbd (by simp) ?_)
  intro v w9 ho hmv
  have ho' : Own w9 w8.heap.size 34 v (bs out) := by simpa using ho
  have hx : Ext w8 w9 := ((Ext.refl w8).alloc _).below.trans (hmv.below (by simp) fun g hg => by simp [Value.ownBlock] at hg; omega)
  clear h0 hbd ho hmv
  obtain ⟨Aw, cw, hv, -, hcAw, hmAw, someAw⟩ := ho'.opened
  rw [HLN.out] at hv hcAw someAw
  subst hv
  simp only [maxLen] at hmAw
  have OW := Lib.hid (Span.of ho')
  clear ho' HLN
  have l9 := hx.le
  replace BK := Lib.hid (BK.out.ext hx)
  replace RW := Lib.hid (RW.out.ext hx)
  replace RL := Lib.hid (RL.out.ext hx)
  replace HP := Lib.hid (HP.out.ext hx)
  replace HQ := Lib.hid (HQ.out.ext hx)
  replace OA := Lib.hid (OA.out.ext hx)
  replace IA := Lib.hid (IA.out.ext hx)
  replace OB := Lib.hid (OB.out.ext hx)
  replace IB := Lib.hid (IB.out.ext hx)
  replace OC := Lib.hid (OC.out.ext hx)
  replace IC := Lib.hid (IC.out.ext hx)
  replace OD := Lib.hid (OD.out.ext hx)
  replace ID := Lib.hid (ID.out.ext hx)
  replace Y := Lib.hid (Y.out.trans hx)
  replace Y0 := Lib.hid (Y0.out.trans hx)
  clear hx
  have h0 : Own (w9.alloc (.cells #[] 3)) w9.heap.size 3 (.slice (some ⟨w9.heap.size, 0, none⟩) 0 0) [] := (Blk.new w9 3 #[]).own (Nat.le_refl _) (Nat.le_refl _) (Nat.zero_le _) rfl
  have hbd : (([] : List Value).length + bad.length) * 8 ≤ 140737488355328 := by simp; omega
  have hln : (ints bad).length = bad.length := ints_length _
  have HLN := Lib.hid hln
  clear hln
  go_wp2_with (at_builtin; refine wpList_app (w9.alloc (.cells #[] 3)) eltInt rfl _ _ (by rfl) w9.heap.size (.slice (some ⟨w9.heap.size, 0, none⟩) 0 0) [] (by rfl) (by exact h0) Ba bad.length da (ints bad) (by rfl) (IA.out.rd.alloc _) HLN.out (ints_ones _) hbd (by simp) ?_)
  intro v w10 ho hmv
  have ho' : Own w10 w9.heap.size 3 v (ints bad) := by simpa using ho
  have hx : Ext w9 w10 := ((Ext.refl w9).alloc _).below.trans (hmv.below (by simp) fun g hg => by simp [Value.ownBlock] at hg; omega)
  clear h0 hbd ho hmv
  obtain ⟨Bw, dw, hv, -, hcBw, hmBw, someBw⟩ := ho'.opened
  rw [HLN.out] at hv hcBw someBw
  subst hv
  simp only [maxLen] at hmBw
  have IW := Lib.hid (Span.of ho')
  clear ho' HLN
  have l10 := hx.le
  replace BK := Lib.hid (BK.out.ext hx)
  replace RW := Lib.hid (RW.out.ext hx)
  replace RL := Lib.hid (RL.out.ext hx)
  replace HP := Lib.hid (HP.out.ext hx)
  replace HQ := Lib.hid (HQ.out.ext hx)
  replace OA := Lib.hid (OA.out.ext hx)
  replace IA := Lib.hid (IA.out.ext hx)
  replace OB := Lib.hid (OB.out.ext hx)
  replace IB := Lib.hid (IB.out.ext hx)
  replace OC := Lib.hid (OC.out.ext hx)
  replace IC := Lib.hid (IC.out.ext hx)
  replace OD := Lib.hid (OD.out.ext hx)
  replace ID := Lib.hid (ID.out.ext hx)
  replace OW := Lib.hid (OW.out.ext hx)
  replace Y := Lib.hid (Y.out.trans hx)
  replace Y0 := Lib.hid (Y0.out.trans hx)
  clear hx
  have HBD := Lib.hid SPX.out.bads
  go_wp2_with fail
  refine (sameElems_n Ab Aw _ _ out cb cw _ rfl rfl OB.out.rd OW.out.rd (by omega)).mono ?_
  rintro e w11 ⟨rfl, hx⟩
  have l11 := hx.le
  replace BK := Lib.hid (BK.out.ext hx)
  replace RW := Lib.hid (RW.out.ext hx)
  replace RL := Lib.hid (RL.out.ext hx)
  replace HP := Lib.hid (HP.out.ext hx)
  replace HQ := Lib.hid (HQ.out.ext hx)
  replace OA := Lib.hid (OA.out.ext hx)
  replace IA := Lib.hid (IA.out.ext hx)
  replace OB := Lib.hid (OB.out.ext hx)
  replace IB := Lib.hid (IB.out.ext hx)
  replace OC := Lib.hid (OC.out.ext hx)
  replace IC := Lib.hid (IC.out.ext hx)
  replace OD := Lib.hid (OD.out.ext hx)
  replace ID := Lib.hid (ID.out.ext hx)
  replace OW := Lib.hid (OW.out.ext hx)
  replace IW := Lib.hid (IW.out.ext hx)
  replace Y := Lib.hid (Y.out.trans hx)
  replace Y0 := Lib.hid (Y0.out.trans hx)
  clear hx
  go_wp2_with fail
  refine (sameElems_n Ad Aw _ _ out cd cw _ rfl rfl OD.out.rd OW.out.rd (by omega)).mono ?_
  rintro e w12 ⟨rfl, hx⟩
  have l12 := hx.le
  replace BK := Lib.hid (BK.out.ext hx)
  replace RW := Lib.hid (RW.out.ext hx)
  replace RL := Lib.hid (RL.out.ext hx)
  replace HP := Lib.hid (HP.out.ext hx)
  replace HQ := Lib.hid (HQ.out.ext hx)
  replace OA := Lib.hid (OA.out.ext hx)
  replace IA := Lib.hid (IA.out.ext hx)
  replace OB := Lib.hid (OB.out.ext hx)
  replace IB := Lib.hid (IB.out.ext hx)
  replace OC := Lib.hid (OC.out.ext hx)
  replace IC := Lib.hid (IC.out.ext hx)
  replace OD := Lib.hid (OD.out.ext hx)
  replace ID := Lib.hid (ID.out.ext hx)
  replace OW := Lib.hid (OW.out.ext hx)
  replace IW := Lib.hid (IW.out.ext hx)
  replace Y := Lib.hid (Y.out.trans hx)
  replace Y0 := Lib.hid (Y0.out.trans hx)
  clear hx
  go_wp2_with fail
  refine (sameInts_n Bb Bw _ _ bad db dw _ rfl rfl IB.out.rd IW.out.rd (by omega) HBD.out).mono ?_
  rintro e w13 ⟨rfl, hx⟩
  have l13 := hx.le
  replace BK := Lib.hid (BK.out.ext hx)
  replace RW := Lib.hid (RW.out.ext hx)
  replace RL := Lib.hid (RL.out.ext hx)
  replace HP := Lib.hid (HP.out.ext hx)
  replace HQ := Lib.hid (HQ.out.ext hx)
  replace OA := Lib.hid (OA.out.ext hx)
  replace IA := Lib.hid (IA.out.ext hx)
  replace OB := Lib.hid (OB.out.ext hx)
  replace IB := Lib.hid (IB.out.ext hx)
  replace OC := Lib.hid (OC.out.ext hx)
  replace IC := Lib.hid (IC.out.ext hx)
  replace OD := Lib.hid (OD.out.ext hx)
  replace ID := Lib.hid (ID.out.ext hx)
  replace OW := Lib.hid (OW.out.ext hx)
  replace IW := Lib.hid (IW.out.ext hx)
  replace Y := Lib.hid (Y.out.trans hx)
  replace Y0 := Lib.hid (Y0.out.trans hx)
  clear hx
  go_wp2_with fail
  refine (sameInts_n Bd Bw _ _ bad dd dw _ rfl rfl ID.out.rd IW.out.rd (by omega) HBD.out).mono ?_
  rintro e w14 ⟨rfl, hx⟩
  have l14 := hx.le
  replace BK := Lib.hid (BK.out.ext hx)
  replace RW := Lib.hid (RW.out.ext hx)
  replace RL := Lib.hid (RL.out.ext hx)
  replace HP := Lib.hid (HP.out.ext hx)
  replace HQ := Lib.hid (HQ.out.ext hx)
  replace OA := Lib.hid (OA.out.ext hx)
  replace IA := Lib.hid (IA.out.ext hx)
  replace OB := Lib.hid (OB.out.ext hx)
  replace IB := Lib.hid (IB.out.ext hx)
  replace OC := Lib.hid (OC.out.ext hx)
  replace IC := Lib.hid (IC.out.ext hx)
  replace OD := Lib.hid (OD.out.ext hx)
  replace ID := Lib.hid (ID.out.ext hx)
  replace OW := Lib.hid (OW.out.ext hx)
  replace IW := Lib.hid (IW.out.ext hx)
  replace Y := Lib.hid (Y.out.trans hx)
  replace Y0 := Lib.hid (Y0.out.trans hx)
  clear hx
  go_wp2_with fail
  have TU : Hid (TurnV w14 w14 w1.heap.size 34 (.slice Ap nwx cp) incV (bs xw) 0) := Lib.hid (TurnV.start HP.out.own)
  go_loopw [22] (fun i wr => ∃ k : Nat, k ≤ nwx ∧ i = .int .i64 k ∧ TurnV w14 wr w1.heap.size 34 (.slice Ap nwx cp) incV (bs xw) k) (fun i _ => nwx - (intOf i).toNat)
  case atStart => exact ⟨0, by omega, rfl, TU.out⟩
  case round =>
   obtain ⟨j, hj, rfl, hT⟩ := hrel
   clear TU
   by_cases hlt : j < nwx
   · obtain ⟨g, rfl⟩ := someAp (by omega)
     have hjx : j < xw.length := by rw [NW.out]; exact hlt
     have hx : (bs xw)[j]? = some (.int .u8 ((xw[j]).val : Int)) := bs_get xw j hjx
     have hxl := (xw[j]).lt
     have hcj := hT.cell hx
     have hfj := hT.own.frozen j
     have HT2 := Lib.hid (hT.step hx (show incV (.int .u8 ((xw[j]).val : Int)) = .int .u8 (IntKind.u8.wrap (((xw[j]).val : Int) + 1)) from rfl))
     clear hT hx
     go_wp2_with fail
     go_roundw
     case rel => exact ⟨j + 1, by omega, by go_num, HT2.out⟩
     case measure => simp [intOf]; omega
   · obtain ⟨w15, rfl⟩ : ∃ W, W = wr := ⟨_, rfl⟩
     have ht := hT.touch
     have ho1 := hT.own
     have l15 := ht.size
     have hin : ∀ k, (Value.slice Ap nwx cp).ownBlock = some k → w1.heap.size ≤ k ∧ k < w2.heap.size := fun k hk => HP.out.in_ hk
     have HIN := Lib.hid hin
     clear hin
     replace OA := Lib.hid (OA.out.touch ht fun k h1 h2 e => by have := HIN.out k e; omega)
     replace IA := Lib.hid (IA.out.touch ht fun k h1 h2 e => by have := HIN.out k e; omega)
     replace OB := Lib.hid (OB.out.touch ht fun k h1 h2 e => by have := HIN.out k e; omega)
     replace IB := Lib.hid (IB.out.touch ht fun k h1 h2 e => by have := HIN.out k e; omega)
     replace OC := Lib.hid (OC.out.touch ht fun k h1 h2 e => by have := HIN.out k e; omega)
     replace IC := Lib.hid (IC.out.touch ht fun k h1 h2 e => by have := HIN.out k e; omega)
     replace OD := Lib.hid (OD.out.touch ht fun k h1 h2 e => by have := HIN.out k e; omega)
     replace ID := Lib.hid (ID.out.touch ht fun k h1 h2 e => by have := HIN.out k e; omega)
     replace OW := Lib.hid (OW.out.touch ht fun k h1 h2 e => by have := HIN.out k e; omega)
     replace IW := Lib.hid (IW.out.touch ht fun k h1 h2 e => by have := HIN.out k e; omega)
     replace HQ := Lib.hid (HQ.out.touch ht fun k h1 h2 e => by have := HIN.out k e; omega)
     replace RW := Lib.hid (RW0.out.over Y0.out ht fun k h1 e => by have := HIN.out k e; omega)
     replace RL := Lib.hid (RL0.out.over Y0.out ht fun k h1 e => by have := HIN.out k e; omega)
     replace BK := Lib.hid (BK.out.touch ht fun e => by have := HIN.out _ e; omega)
     replace Y := Lib.hid (Y.out.touched ht fun k e => by have := HIN.out k e; omega)
     replace Y0 := Lib.hid (Y0.out.touched ht fun k e => by have := HIN.out k e; omega)
     have ho2 : Own w15 w1.heap.size 34 (.slice Ap nwx cp) (bs (xw.map (incBy 1))) := by
       have e : j = (bs xw).length := by rw [bs_length, NW.out]; omega
       rw [e, turnedV_all, incV_bs] at ho1
       exact ho1
     have HPU := HP.out.up
     replace HP : Hid (Span w15 w1.heap.size w2.heap.size 34 (.slice Ap nwx cp) (bs (xw.map (incBy 1)))) := Lib.hid ⟨ho2, HPU⟩
     clear hT ht ho1 ho2 HIN HPU
     go_wp2_with fail
     have TU : Hid (TurnV w15 w15 w2.heap.size 4 (.slice Aq nlx cq) notV (bools xl) 0) := Lib.hid (TurnV.start HQ.out.own)
     go_loopw [23] (fun i wr => ∃ k : Nat, k ≤ nlx ∧ i = .int .i64 k ∧ TurnV w15 wr w2.heap.size 4 (.slice Aq nlx cq) notV (bools xl) k) (fun i _ => nlx - (intOf i).toNat)
     case atStart => exact ⟨0, by omega, rfl, TU.out⟩
     case round =>
      obtain ⟨j, hj, rfl, hT⟩ := hrel
      clear TU
      by_cases hlt : j < nlx
      · obtain ⟨g, rfl⟩ := someAq (by omega)
        have hjx : j < xl.length := by rw [NL.out]; exact hlt
        have hx : (bools xl)[j]? = some (.bool xl[j]) := by rw [bools, List.getElem?_map, List.getElem?_eq_getElem hjx]; rfl
        have hcj := hT.cell hx
        have hfj := hT.own.frozen j
        have HT2 := Lib.hid (hT.step hx (show notV (.bool xl[j]) = .bool (!xl[j]) from rfl))
        clear hT hx
        go_wp2_with fail
        go_roundw
        case rel => exact ⟨j + 1, by omega, by go_num, HT2.out⟩
        case measure => simp [intOf]; omega
      · obtain ⟨w16, rfl⟩ : ∃ W, W = wr := ⟨_, rfl⟩
        have ht := hT.touch
        have ho1 := hT.own
        have l16 := ht.size
        have hin : ∀ k, (Value.slice Aq nlx cq).ownBlock = some k → w2.heap.size ≤ k ∧ k < w3.heap.size := fun k hk => HQ.out.in_ hk
        have HIN := Lib.hid hin
        clear hin
        replace OA := Lib.hid (OA.out.touch ht fun k h1 h2 e => by have := HIN.out k e; omega)
        replace IA := Lib.hid (IA.out.touch ht fun k h1 h2 e => by have := HIN.out k e; omega)
        replace OB := Lib.hid (OB.out.touch ht fun k h1 h2 e => by have := HIN.out k e; omega)
        replace IB := Lib.hid (IB.out.touch ht fun k h1 h2 e => by have := HIN.out k e; omega)
        replace OC := Lib.hid (OC.out.touch ht fun k h1 h2 e => by have := HIN.out k e; omega)
        replace IC := Lib.hid (IC.out.touch ht fun k h1 h2 e => by have := HIN.out k e; omega)
        replace OD := Lib.hid (OD.out.touch ht fun k h1 h2 e => by have := HIN.out k e; omega)
        replace ID := Lib.hid (ID.out.touch ht fun k h1 h2 e => by have := HIN.out k e; omega)
        replace OW := Lib.hid (OW.out.touch ht fun k h1 h2 e => by have := HIN.out k e; omega)
        replace IW := Lib.hid (IW.out.touch ht fun k h1 h2 e => by have := HIN.out k e; omega)
        replace HP := Lib.hid (HP.out.touch ht fun k h1 h2 e => by have := HIN.out k e; omega)
        replace RW := Lib.hid (RW0.out.over Y0.out ht fun k h1 e => by have := HIN.out k e; omega)
        replace RL := Lib.hid (RL0.out.over Y0.out ht fun k h1 e => by have := HIN.out k e; omega)
        replace BK := Lib.hid (BK.out.touch ht fun e => by have := HIN.out _ e; omega)
        replace Y := Lib.hid (Y.out.touched ht fun k e => by have := HIN.out k e; omega)
        replace Y0 := Lib.hid (Y0.out.touched ht fun k e => by have := HIN.out k e; omega)
        have ho2 : Own w16 w2.heap.size 4 (.slice Aq nlx cq) (bools (xl.map not)) := by
          have e : j = (bools xl).length := by rw [bools_length, NL.out]; omega
          rw [e, turnedV_all, notV_bools] at ho1
          exact ho1
        have HQU := HQ.out.up
        replace HQ : Hid (Span w16 w2.heap.size w3.heap.size 4 (.slice Aq nlx cq) (bools (xl.map not))) := Lib.hid ⟨ho2, HQU⟩
        clear hT ht ho1 ho2 HIN HQU
        go_wp2_with fail
        refine (sameElems_n Aa Aw _ _ out ca cw _ rfl rfl OA.out.rd OW.out.rd (by omega)).mono ?_
        rintro e w17 ⟨rfl, hx⟩
        have l17 := hx.le
        replace BK := Lib.hid (BK.out.ext hx)
        replace RW := Lib.hid (RW.out.ext hx)
        replace RL := Lib.hid (RL.out.ext hx)
        replace HP := Lib.hid (HP.out.ext hx)
        replace HQ := Lib.hid (HQ.out.ext hx)
        replace OA := Lib.hid (OA.out.ext hx)
        replace IA := Lib.hid (IA.out.ext hx)
        replace OB := Lib.hid (OB.out.ext hx)
        replace IB := Lib.hid (IB.out.ext hx)
        replace OC := Lib.hid (OC.out.ext hx)
        replace IC := Lib.hid (IC.out.ext hx)
        replace OD := Lib.hid (OD.out.ext hx)
        replace ID := Lib.hid (ID.out.ext hx)
        replace OW := Lib.hid (OW.out.ext hx)
        replace IW := Lib.hid (IW.out.ext hx)
        replace Y := Lib.hid (Y.out.trans hx)
        replace Y0 := Lib.hid (Y0.out.trans hx)
        clear hx
        go_wp2_with fail
        refine (sameElems_n Ab Aw _ _ out cb cw _ rfl rfl OB.out.rd OW.out.rd (by omega)).mono ?_
        rintro e w18 ⟨rfl, hx⟩
        have l18 := hx.le
        replace BK := Lib.hid (BK.out.ext hx)
        replace RW := Lib.hid (RW.out.ext hx)
        replace RL := Lib.hid (RL.out.ext hx)
        replace HP := Lib.hid (HP.out.ext hx)
        replace HQ := Lib.hid (HQ.out.ext hx)
        replace OA := Lib.hid (OA.out.ext hx)
        replace IA := Lib.hid (IA.out.ext hx)
        replace OB := Lib.hid (OB.out.ext hx)
        replace IB := Lib.hid (IB.out.ext hx)
        replace OC := Lib.hid (OC.out.ext hx)
        replace IC := Lib.hid (IC.out.ext hx)
        replace OD := Lib.hid (OD.out.ext hx)
        replace ID := Lib.hid (ID.out.ext hx)
        replace OW := Lib.hid (OW.out.ext hx)
        replace IW := Lib.hid (IW.out.ext hx)
        replace Y := Lib.hid (Y.out.trans hx)
        replace Y0 := Lib.hid (Y0.out.trans hx)
        clear hx
        go_wp2_with fail
        refine (sameElems_n Ad Aw _ _ out cd cw _ rfl rfl OD.out.rd OW.out.rd (by omega)).mono ?_
        rintro e w19 ⟨rfl, hx⟩
        have l19 := hx.le
        replace BK := Lib.hid (BK.out.ext hx)
        replace RW := Lib.hid (RW.out.ext hx)
        replace RL := Lib.hid (RL.out.ext hx)
        replace HP := Lib.hid (HP.out.ext hx)
        replace HQ := Lib.hid (HQ.out.ext hx)
        replace OA := Lib.hid (OA.out.ext hx)
        replace IA := Lib.hid (IA.out.ext hx)
        replace OB := Lib.hid (OB.out.ext hx)
        replace IB := Lib.hid (IB.out.ext hx)
        replace OC := Lib.hid (OC.out.ext hx)
        replace IC := Lib.hid (IC.out.ext hx)
        replace OD := Lib.hid (OD.out.ext hx)
        replace ID := Lib.hid (ID.out.ext hx)
        replace OW := Lib.hid (OW.out.ext hx)
        replace IW := Lib.hid (IW.out.ext hx)
        replace Y := Lib.hid (Y.out.trans hx)
        replace Y0 := Lib.hid (Y0.out.trans hx)
        clear hx
        have q10 : World.cell? w19 ⟨w.heap.size, 0, none⟩ = some (Value.int .i64 kx) := BK.out.cell 0
        go_wp2_with fail
        clear q10
        refine (column_n Ap Aq nwx nlx cp cq kx (xw.map (incBy 1)) (xl.map not) _ (by rw [List.length_map, NW.out]) (by rw [List.length_map, NL.out]) HP.out.rd HQ.out.rd (by omega) (by omega) hkx).mono ?_
        rintro e w20 ⟨va, vb, out_, bad_, ee_, rfl, hsp, hoa, hob, hx⟩
        obtain ⟨outg, badg, eeg, rfl, rfl, rfl⟩ : ∃ a b c, a = out_ ∧ b = bad_ ∧ c = ee_ := ⟨_, _, _, rfl, rfl, rfl⟩
        obtain ⟨soutg, sbadg, -⟩ := hsp.small
        have SPG := Lib.hid hsp
        clear hsp
        obtain ⟨Ag, cg, hv, -, hcAg, hmAg, someAg⟩ := hoa.opened
        rw [bs_length] at hv hcAg someAg
        subst hv
        simp only [maxLen] at hmAg
        have OG := Lib.hid (Span.of hoa)
        clear hoa
        obtain ⟨Bg, dg_, hv, -, hcBg, hmBg, someBg⟩ := hob.opened
        rw [ints_length] at hv hcBg someBg
        subst hv
        simp only [maxLen] at hmBg
        have IG := Lib.hid (Span.of hob)
        clear hob
        have l20 := hx.le
        replace BK := Lib.hid (BK.out.ext hx)
        replace RW := Lib.hid (RW.out.ext hx)
        replace RL := Lib.hid (RL.out.ext hx)
        replace HP := Lib.hid (HP.out.ext hx)
        replace HQ := Lib.hid (HQ.out.ext hx)
        replace OA := Lib.hid (OA.out.ext hx)
        replace IA := Lib.hid (IA.out.ext hx)
        replace OB := Lib.hid (OB.out.ext hx)
        replace IB := Lib.hid (IB.out.ext hx)
        replace OC := Lib.hid (OC.out.ext hx)
        replace IC := Lib.hid (IC.out.ext hx)
        replace OD := Lib.hid (OD.out.ext hx)
        replace ID := Lib.hid (ID.out.ext hx)
        replace OW := Lib.hid (OW.out.ext hx)
        replace IW := Lib.hid (IW.out.ext hx)
        replace Y := Lib.hid (Y.out.trans hx)
        replace Y0 := Lib.hid (Y0.out.trans hx)
        clear hx
        go_upto_region 25 with fail
        have b0 : ∀ w', Ext w20 w' → w'.cell? ⟨w.heap.size, 0, none⟩ = some (.int .i64 kx) := fun w' h => (BK.out.ext h).cell 0
        have hl1 : Hid ((bs (xw.map (incBy 1))).length = nwx) := Lib.hid (by rw [bs_length, List.length_map, NW.out])
        have hl2 : Hid ((bools (xl.map not)).length = nlx) := Lib.hid (by rw [bools_length, List.length_map, NL.out])
        have hl3 : Hid ((xw.map (incBy 1)).length = nwx) := Lib.hid (by rw [List.length_map, NW.out])
        have hl4 : Hid ((xl.map not).length = nlx) := Lib.hid (by rw [List.length_map, NL.out])
        have hbd1 : nwx * 1 ≤ 140737488355328 := by omega
        have hbd2 : nlx * 1 ≤ 140737488355328 := by omega
        go_cut [27, 28, 29] (fun s27 s28 s29 wx => s29 = .int .i64 eeg ∧ Own wx w20.heap.size 34 s27 (bs outg) ∧ Own wx w20.heap.size 3 s28 (ints badg) ∧ Ext w20 wx)
        case first =>
          go_region_held3 (fun w' => Ext w20 w') (repeat (first | assumption | exact Ext.refl _ | refine Ext.drewN ?_ 1 | refine Ext.alloc ?_ _))
            (first
              | (refine step_app0 _ eltEl rfl _ _ (by rfl) _ (by rfl) Ap nwx cp (bs (xw.map (incBy 1))) (by rfl) (HP.out.rd.ext (by assumption)) hl1.out hbd1 ?_; intro A1 c1 wA hA1 hA2 hA3 hA4; have HSA : Ext w20 wA := Ext.trans (by assumption) hA4)
              | (refine step_app0 _ eltBool rfl _ _ (by rfl) _ (by rfl) Aq nlx cq (bools (xl.map not)) (by rfl) (HQ.out.rd.ext (by assumption)) hl2.out hbd2 ?_; intro A2 c2 wB hB1 hB2 hB3 hB4; have hA5 : Ext wA wB := (by first | exact hB4 | exact ((Ext.refl _).alloc _).trans hB4); have hA6 := hA1.ext hA5; have HSB : Ext w20 wB := HSA.trans hA5)
              | (go_at_call 63; refine (column_n A1 A2 nwx nlx c1 c2 kx (xw.map (incBy 1)) (xl.map not) _ hl3.out hl4.out hA6 hB1 (by omega) (by omega) hkx).mono ?_; rintro e wC ⟨va, vb, out_, bad_, ee_, rfl, hsp, hoa, hob, hxC⟩; obtain ⟨rfl, rfl, rfl⟩ := SPG.out.uniq hsp; have HSC : Ext w20 wC := HSB.trans hxC))
          all_goals (go_wp2_with fail; go_meet; exact ⟨rfl, hoa.mono HSB.le, hob.mono HSB.le, HSC⟩)
        case rest =>
         obtain ⟨rfl, hoa, hob, hx⟩ := hcut
         obtain ⟨Ar, cr, hv, -, hcAr, hmAr, someAr⟩ := hoa.opened
         rw [bs_length] at hv hcAr someAr
         subst hv
         simp only [maxLen] at hmAr
         have OP := Lib.hid (Span.of hoa)
         clear hoa
         obtain ⟨Br, dr, hv, -, hcBr, hmBr, someBr⟩ := hob.opened
         rw [ints_length] at hv hcBr someBr
         subst hv
         simp only [maxLen] at hmBr
         have IP := Lib.hid (Span.of hob)
         clear hob
         have HBG := Lib.hid SPG.out.bads
         have lc := hx.le
         replace BK := Lib.hid (BK.out.ext hx)
         replace RW := Lib.hid (RW.out.ext hx)
         replace RL := Lib.hid (RL.out.ext hx)
         replace HP := Lib.hid (HP.out.ext hx)
         replace HQ := Lib.hid (HQ.out.ext hx)
         replace OA := Lib.hid (OA.out.ext hx)
         replace IA := Lib.hid (IA.out.ext hx)
         replace OB := Lib.hid (OB.out.ext hx)
         replace IB := Lib.hid (IB.out.ext hx)
         replace OC := Lib.hid (OC.out.ext hx)
         replace IC := Lib.hid (IC.out.ext hx)
         replace OD := Lib.hid (OD.out.ext hx)
         replace ID := Lib.hid (ID.out.ext hx)
         replace OW := Lib.hid (OW.out.ext hx)
         replace IW := Lib.hid (IW.out.ext hx)
         replace OG := Lib.hid (OG.out.ext hx)
         replace IG := Lib.hid (IG.out.ext hx)
         replace Y := Lib.hid (Y.out.trans hx)
         replace Y0 := Lib.hid (Y0.out.trans hx)
         clear hx
         clear hl1 hl2 hl3 hl4 hbd1 hbd2 b0
         go_wp2_with fail
         refine (sameElems_n Ag Ar _ _ outg cg cr _ rfl rfl OG.out.rd OP.out.rd (by omega)).mono ?_
         rintro e w22 ⟨rfl, hx⟩
         have l22 := hx.le
         replace BK := Lib.hid (BK.out.ext hx)
         replace RW := Lib.hid (RW.out.ext hx)
         replace RL := Lib.hid (RL.out.ext hx)
         replace HP := Lib.hid (HP.out.ext hx)
         replace HQ := Lib.hid (HQ.out.ext hx)
         replace OA := Lib.hid (OA.out.ext hx)
         replace IA := Lib.hid (IA.out.ext hx)
         replace OB := Lib.hid (OB.out.ext hx)
         replace IB := Lib.hid (IB.out.ext hx)
         replace OC := Lib.hid (OC.out.ext hx)
         replace IC := Lib.hid (IC.out.ext hx)
         replace OD := Lib.hid (OD.out.ext hx)
         replace ID := Lib.hid (ID.out.ext hx)
         replace OW := Lib.hid (OW.out.ext hx)
         replace IW := Lib.hid (IW.out.ext hx)
         replace OG := Lib.hid (OG.out.ext hx)
         replace IG := Lib.hid (IG.out.ext hx)
         replace OP := Lib.hid (OP.out.ext hx)
         replace IP := Lib.hid (IP.out.ext hx)
         replace Y := Lib.hid (Y.out.trans hx)
         replace Y0 := Lib.hid (Y0.out.trans hx)
         clear hx
         go_wp2_with fail
         refine (sameInts_n Bg Br _ _ badg dg_ dr _ rfl rfl IG.out.rd IP.out.rd (by omega) HBG.out).mono ?_
         rintro e w23 ⟨rfl, hx⟩
         have l23 := hx.le
         replace BK := Lib.hid (BK.out.ext hx)
         replace RW := Lib.hid (RW.out.ext hx)
         replace RL := Lib.hid (RL.out.ext hx)
         replace HP := Lib.hid (HP.out.ext hx)
         replace HQ := Lib.hid (HQ.out.ext hx)
         replace OA := Lib.hid (OA.out.ext hx)
         replace IA := Lib.hid (IA.out.ext hx)
         replace OB := Lib.hid (OB.out.ext hx)
         replace IB := Lib.hid (IB.out.ext hx)
         replace OC := Lib.hid (OC.out.ext hx)
         replace IC := Lib.hid (IC.out.ext hx)
         replace OD := Lib.hid (OD.out.ext hx)
         replace ID := Lib.hid (ID.out.ext hx)
         replace OW := Lib.hid (OW.out.ext hx)
         replace IW := Lib.hid (IW.out.ext hx)
         replace OG := Lib.hid (OG.out.ext hx)
         replace IG := Lib.hid (IG.out.ext hx)
         replace OP := Lib.hid (OP.out.ext hx)
         replace IP := Lib.hid (IP.out.ext hx)
         replace Y := Lib.hid (Y.out.trans hx)
         replace Y0 := Lib.hid (Y0.out.trans hx)
         clear hx
         have PA : PileV w23 w3.heap.size w8.heap.size 34 [Value.slice Aa out.length ca, Value.slice Ab out.length cb, Value.slice Ac outy.length cc, Value.slice Ad out.length cd] [bs out, bs out, bs outy, bs out] := (((PileV.one OA.out).snoc OB.out (m' := w4.heap.size) (by omega) (by omega) (by omega)).snoc OC.out (m' := w6.heap.size) (by omega) (by omega) (by omega)).snoc OD.out (m' := w7.heap.size) (by omega) (by omega) (by omega)
         have PB : PileV w23 w19.heap.size wc.heap.size 34 [Value.slice Ag outg.length cg, Value.slice Ar outg.length cr] [bs outg, bs outg] := (PileV.one OG.out).snoc OP.out (m' := w20.heap.size) (by omega) (by omega) (by omega)
         have PP : Hid (PileV w23 w3.heap.size wc.heap.size 34 [Value.slice Aa out.length ca, Value.slice Ab out.length cb, Value.slice Ac outy.length cc, Value.slice Ad out.length cd, Value.slice Ag outg.length cg, Value.slice Ar outg.length cr] [bs out, bs out, bs outy, bs out, bs outg, bs outg]) := Lib.hid (PA.append PB (by omega) (by omega) (by omega))
         have IN : Hid (∀ k, InRows [Value.slice Aa out.length ca, Value.slice Ab out.length cb, Value.slice Ac outy.length cc, Value.slice Ad out.length cd, Value.slice Ag outg.length cg, Value.slice Ar outg.length cr] k → (w3.heap.size ≤ k ∧ k < w8.heap.size) ∨ (w19.heap.size ≤ k ∧ k < wc.heap.size)) := Lib.hid (fun k h => (inRows_append (V := [Value.slice Aa out.length ca, Value.slice Ab out.length cb, Value.slice Ac outy.length cc, Value.slice Ad out.length cd]) (U := [Value.slice Ag outg.length cg, Value.slice Ar outg.length cr]) h).elim (fun h => .inl (PA.within h)) (fun h => .inr (PB.within h)))
         have HLEN : Hid (∀ i, (([bs out, bs out, bs outy, bs out, bs outg, bs outg] : List (List Value)).getD i []).length ≤ 1000000000) := Lib.hid (getDV_len (by simp [bs_length]; omega))
         clear PA PB
         go_wp2_with fail
         have hall : Hid (Own (w23.alloc (.cells #[Value.slice Aa out.length ca, Value.slice Ab out.length cb, Value.slice Ac outy.length cc, Value.slice Ad out.length cd, Value.slice Ag outg.length cg, Value.slice Ar outg.length cr] 26)) w23.heap.size 26 (.slice (some ⟨w23.heap.size, 0, none⟩) 6 6) [Value.slice Aa out.length ca, Value.slice Ab out.length cb, Value.slice Ac outy.length cc, Value.slice Ad out.length cd, Value.slice Ag outg.length cg, Value.slice Ar outg.length cr]) := Lib.hid ((Blk.new w23 26 #[Value.slice Aa out.length ca, Value.slice Ab out.length cb, Value.slice Ac outy.length cc, Value.slice Ad out.length cd, Value.slice Ag outg.length cg, Value.slice Ar outg.length cr]).own (Nat.le_refl _) (Nat.le_refl _) (by decide) rfl)
         have hxa : Ext w23 (w23.alloc (.cells #[Value.slice Aa out.length ca, Value.slice Ab out.length cb, Value.slice Ac outy.length cc, Value.slice Ad out.length cd, Value.slice Ag outg.length cg, Value.slice Ar outg.length cr] 26)) := (Ext.refl _).alloc _
         have PV := Lib.hid ((PP.out.ext hxa).vs)
         refine (apartElems_n w23.heap.size 6 6 [Value.slice Aa out.length ca, Value.slice Ab out.length cb, Value.slice Ac outy.length cc, Value.slice Ad out.length cd, Value.slice Ag outg.length cg, Value.slice Ar outg.length cr] (fun i => ([bs out, bs out, bs outy, bs out, bs outg, bs outg] : List (List Value)).getD i []) w3.heap.size w23.heap.size _ rfl hall.out PV.out PP.out.far (by omega) HLEN.out (by simp; omega) (by omega)).mono ?_
         rintro e w24 ⟨rfl, ht⟩
         have l24 : w23.heap.size ≤ w24.heap.size := by have := ht.size; simp at this; omega
         replace OW := Lib.hid ((OW.out.ext hxa).touch ht fun k h1 h2 h => by rcases IN.out k h with h3 | h3 <;> omega)
         replace IW := Lib.hid ((IW.out.ext hxa).others PV.out (by decide) ht)
         replace IA := Lib.hid ((IA.out.ext hxa).others PV.out (by decide) ht)
         replace IB := Lib.hid ((IB.out.ext hxa).others PV.out (by decide) ht)
         replace IC := Lib.hid ((IC.out.ext hxa).others PV.out (by decide) ht)
         replace ID := Lib.hid ((ID.out.ext hxa).others PV.out (by decide) ht)
         replace IG := Lib.hid ((IG.out.ext hxa).others PV.out (by decide) ht)
         replace IP := Lib.hid ((IP.out.ext hxa).others PV.out (by decide) ht)
         replace BK := Lib.hid ((BK.out.ext hxa).touch ht fun h => by rcases IN.out _ h with h3 | h3 <;> omega)
         replace RW := Lib.hid (RW0.out.over (Y0.out.trans hxa) ht fun k h1 h => by rcases IN.out k h with h3 | h3 <;> omega)
         replace RL := Lib.hid (RL0.out.over (Y0.out.trans hxa) ht fun k h1 h => by rcases IN.out k h with h3 | h3 <;> omega)
         replace Y := Lib.hid ((Y.out.trans hxa).touched ht fun k h => by rcases IN.out k h with h3 | h3 <;> omega)
         replace Y0 := Lib.hid ((Y0.out.trans hxa).touched ht fun k h => by rcases IN.out k h with h3 | h3 <;> omega)
         clear ht hxa IN PP PV HLEN hall
         clear OA OB OC OD OG OP HP HQ
         have PA : PileV w24 w3.heap.size w8.heap.size 3 [Value.slice Ba bad.length da, Value.slice Bb bad.length db, Value.slice Bc bady.length dc, Value.slice Bd bad.length dd] [ints bad, ints bad, ints bady, ints bad] := (((PileV.one IA.out).snoc IB.out (m' := w4.heap.size) (by omega) (by omega) (by omega)).snoc IC.out (m' := w6.heap.size) (by omega) (by omega) (by omega)).snoc ID.out (m' := w7.heap.size) (by omega) (by omega) (by omega)
         have PB : PileV w24 w19.heap.size wc.heap.size 3 [Value.slice Bg badg.length dg_, Value.slice Br badg.length dr] [ints badg, ints badg] := (PileV.one IG.out).snoc IP.out (m' := w20.heap.size) (by omega) (by omega) (by omega)
         have PP : Hid (PileV w24 w3.heap.size wc.heap.size 3 [Value.slice Ba bad.length da, Value.slice Bb bad.length db, Value.slice Bc bady.length dc, Value.slice Bd bad.length dd, Value.slice Bg badg.length dg_, Value.slice Br badg.length dr] [ints bad, ints bad, ints bady, ints bad, ints badg, ints badg]) := Lib.hid (PA.append PB (by omega) (by omega) (by omega))
         have IN : Hid (∀ k, InRows [Value.slice Ba bad.length da, Value.slice Bb bad.length db, Value.slice Bc bady.length dc, Value.slice Bd bad.length dd, Value.slice Bg badg.length dg_, Value.slice Br badg.length dr] k → (w3.heap.size ≤ k ∧ k < w8.heap.size) ∨ (w19.heap.size ≤ k ∧ k < wc.heap.size)) := Lib.hid (fun k h => (inRows_append (V := [Value.slice Ba bad.length da, Value.slice Bb bad.length db, Value.slice Bc bady.length dc, Value.slice Bd bad.length dd]) (U := [Value.slice Bg badg.length dg_, Value.slice Br badg.length dr]) h).elim (fun h => .inl (PA.within h)) (fun h => .inr (PB.within h)))
         have HLEN : Hid (∀ i, (([ints bad, ints bad, ints bady, ints bad, ints badg, ints badg] : List (List Value)).getD i []).length ≤ 1000000000) := Lib.hid (getDV_len (by simp [ints_length]; omega))
         clear PA PB
         go_wp2_with fail
         have hall : Hid (Own (w24.alloc (.cells #[Value.slice Ba bad.length da, Value.slice Bb bad.length db, Value.slice Bc bady.length dc, Value.slice Bd bad.length dd, Value.slice Bg badg.length dg_, Value.slice Br badg.length dr] 70)) w24.heap.size 70 (.slice (some ⟨w24.heap.size, 0, none⟩) 6 6) [Value.slice Ba bad.length da, Value.slice Bb bad.length db, Value.slice Bc bady.length dc, Value.slice Bd bad.length dd, Value.slice Bg badg.length dg_, Value.slice Br badg.length dr]) := Lib.hid ((Blk.new w24 70 #[Value.slice Ba bad.length da, Value.slice Bb bad.length db, Value.slice Bc bady.length dc, Value.slice Bd bad.length dd, Value.slice Bg badg.length dg_, Value.slice Br badg.length dr]).own (Nat.le_refl _) (Nat.le_refl _) (by decide) rfl)
         have hxa : Ext w24 (w24.alloc (.cells #[Value.slice Ba bad.length da, Value.slice Bb bad.length db, Value.slice Bc bady.length dc, Value.slice Bd bad.length dd, Value.slice Bg badg.length dg_, Value.slice Br badg.length dr] 70)) := (Ext.refl _).alloc _
         have PV := Lib.hid ((PP.out.ext hxa).vs)
         refine (apartInts_n w24.heap.size 6 6 [Value.slice Ba bad.length da, Value.slice Bb bad.length db, Value.slice Bc bady.length dc, Value.slice Bd bad.length dd, Value.slice Bg badg.length dg_, Value.slice Br badg.length dr] (fun i => ([ints bad, ints bad, ints bady, ints bad, ints badg, ints badg] : List (List Value)).getD i []) w3.heap.size w24.heap.size _ rfl hall.out PV.out PP.out.far (by omega) HLEN.out (by simp; omega) (by omega)).mono ?_
         rintro e w25 ⟨rfl, ht⟩
         have l25 : w24.heap.size ≤ w25.heap.size := by have := ht.size; simp at this; omega
         replace IW := Lib.hid ((IW.out.ext hxa).touch ht fun k h1 h2 h => by rcases IN.out k h with h3 | h3 <;> omega)
         replace OW := Lib.hid ((OW.out.ext hxa).others PV.out (by decide) ht)
         replace BK := Lib.hid ((BK.out.ext hxa).touch ht fun h => by rcases IN.out _ h with h3 | h3 <;> omega)
         replace RW := Lib.hid (RW0.out.over (Y0.out.trans hxa) ht fun k h1 h => by rcases IN.out k h with h3 | h3 <;> omega)
         replace RL := Lib.hid (RL0.out.over (Y0.out.trans hxa) ht fun k h1 h => by rcases IN.out k h with h3 | h3 <;> omega)
         replace Y := Lib.hid ((Y.out.trans hxa).touched ht fun k h => by rcases IN.out k h with h3 | h3 <;> omega)
         replace Y0 := Lib.hid ((Y0.out.trans hxa).touched ht fun k h => by rcases IN.out k h with h3 | h3 <;> omega)
         clear ht hxa IN PP PV HLEN hall
         clear IA IB IC ID IG IP
         go_wp2_with fail
         refine wp_region_mix (fun i => [0, 0, 0, 0, 1, 0, 0, 1, 3, 3, 3, 3, 3, 3, 3].getD i 0) (fun w' => Ext w25 w') hmo (by kernel_rfl) (by kernel_rfl) ((Ext.refl _).drewN 1) ?_
         have xd : Ext w25 (World.drew w25) := (Ext.refl _).drewN 1
         have b0 : ∀ w', Ext w25 w' → w'.cell? ⟨w.heap.size, 0, none⟩ = some (Value.int .i64 kx) := fun w' h => (BK.out.ext h).cell 0
         have b1 : ∀ w', Ext w25 w' → w'.cell? ⟨w.heap.size, 1, none⟩ = some (Value.slice Awx nwx cwx) := fun w' h => (BK.out.ext h).cell 1
         have b2 : ∀ w', Ext w25 w' → w'.cell? ⟨w.heap.size, 2, none⟩ = some (Value.slice Alx nlx clx) := fun w' h => (BK.out.ext h).cell 2
         refine mix_still (.pointer (some ⟨w.heap.size, 0, none⟩)) rfl (fun w' hw' => by go_simp) ?_
         refine mix_still (Value.int .i64 kx) rfl (fun w' hw' => by have := b0 w' hw'; go_simp) ?_
         refine mix_still (.pointer (some ⟨w.heap.size, 1, none⟩)) rfl (fun w' hw' => by go_simp) ?_
         refine mix_still (Value.slice Awx nwx cwx) rfl (fun w' hw' => by have := b1 w' hw'; go_simp) ?_
         refine mix_call 75 #[Value.slice Awx nwx cwx] rfl (by go_simp) ?_
         refine (elems5_n Awx _ xw cwx _ NW.out (RW.out.ext xd) (by omega)).mono ?_
         rintro e w26 ⟨v, rfl, ho, hx1⟩
         have x1 := xd.trans hx1
         have l26 := x1.le
         obtain ⟨Af, cf, hv, hr1, hcAf, hmAf, someAf⟩ := ho.opened
         rw [bs_length, NW.out] at hv hcAf someAf
         subst hv
         simp only [maxLen] at hmAf
         refine ⟨_, rfl, x1, ?_⟩
         refine mix_still (.pointer (some ⟨w.heap.size, 2, none⟩)) rfl (fun w' hw' => by go_simp) ?_
         refine mix_still (Value.slice Alx nlx clx) rfl (fun w' hw' => by have := b2 w' hw'; go_simp) ?_
         refine mix_call 63 #[Value.int .i64 kx, .slice Af nwx cf, Value.slice Alx nlx clx] rfl (by go_simp) ?_
         refine (column_n Af Alx nwx nlx cf clx kx (xw) (xl) _ NW.out NL.out hr1 (RL.out.ext x1) (by omega) (by omega) hkx).mono ?_
         rintro e w27 ⟨va, vb, out_, bad_, ee_, rfl, hsp, hoa, hob, hx2⟩
         have hx := x1.trans hx2
         refine ⟨_, rfl, hx, ?_⟩
         refine mix_pure (.tuple #[va, vb, .int .i64 ee_]) rfl (fun w' => by go_simp) ?_
         refine mix_pure (va) rfl (fun w' => by go_simp) ?_
         refine mix_pure (vb) rfl (fun w' => by go_simp) ?_
         refine mix_pure (.int .i64 ee_) rfl (fun w' => by go_simp) ?_
         refine mix_pure (va) rfl (fun w' => by go_simp) ?_
         refine mix_pure (vb) rfl (fun w' => by go_simp) ?_
         refine mix_pure (.int .i64 ee_) rfl (fun w' => by go_simp) ?_
         refine mix_nil ?_
         have l27b := hx2.le
         clear b0 b1 b2 xd hx1 x1 hr1 ho hx2
         obtain ⟨rfl, rfl, rfl⟩ := SPX.out.uniq hsp
         clear hsp
         obtain ⟨As, cs, hv, -, hcAs, hmAs, someAs⟩ := hoa.opened
         rw [bs_length] at hv hcAs someAs
         subst hv
         simp only [maxLen] at hmAs
         have OS := Lib.hid (Span.of hoa)
         clear hoa
         obtain ⟨Bs, ds, hv, -, hcBs, hmBs, someBs⟩ := hob.opened
         rw [ints_length] at hv hcBs someBs
         subst hv
         simp only [maxLen] at hmBs
         have IS := Lib.hid (Span.of hob)
         clear hob
         have l27 := hx.le
         replace BK := Lib.hid (BK.out.ext hx)
         replace RW := Lib.hid (RW.out.ext hx)
         replace RL := Lib.hid (RL.out.ext hx)
         replace OW := Lib.hid (OW.out.ext hx)
         replace IW := Lib.hid (IW.out.ext hx)
         replace Y := Lib.hid (Y.out.trans hx)
         replace Y0 := Lib.hid (Y0.out.trans hx)
         clear hx
         go_wp2_with fail
         refine (sameElems_n As Aw _ _ out cs cw _ rfl rfl OS.out.rd OW.out.rd (by omega)).mono ?_
         rintro e w28 ⟨rfl, hx⟩
         have l28 := hx.le
         replace BK := Lib.hid (BK.out.ext hx)
         replace RW := Lib.hid (RW.out.ext hx)
         replace RL := Lib.hid (RL.out.ext hx)
         replace OW := Lib.hid (OW.out.ext hx)
         replace IW := Lib.hid (IW.out.ext hx)
         replace OS := Lib.hid (OS.out.ext hx)
         replace IS := Lib.hid (IS.out.ext hx)
         replace Y := Lib.hid (Y.out.trans hx)
         replace Y0 := Lib.hid (Y0.out.trans hx)
         clear hx
         go_wp2_with fail
         refine (sameInts_n Bs Bw _ _ bad ds dw _ rfl rfl IS.out.rd IW.out.rd (by omega) HBD.out).mono ?_
         rintro e w29 ⟨rfl, hx⟩
         have l29 := hx.le
         replace BK := Lib.hid (BK.out.ext hx)
         replace RW := Lib.hid (RW.out.ext hx)
         replace RL := Lib.hid (RL.out.ext hx)
         replace OW := Lib.hid (OW.out.ext hx)
         replace IW := Lib.hid (IW.out.ext hx)
         replace OS := Lib.hid (OS.out.ext hx)
         replace IS := Lib.hid (IS.out.ext hx)
         replace Y := Lib.hid (Y.out.trans hx)
         replace Y0 := Lib.hid (Y0.out.trans hx)
         clear hx
         go_wp2_with fail
         go_ret
         exact ⟨rfl, Y.out⟩
end Go.Proofs.Ytemnlcfabaocbaa
