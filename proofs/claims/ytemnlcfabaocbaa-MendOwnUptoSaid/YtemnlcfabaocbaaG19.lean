/-
  Texts of mine, merged: OwnW.
-/
import Derived.Test.YtemnlcfabaocbaaG5
import Derived.Test.YtemnlcfabaocbaaG12
import Derived.Test.YtemnlcfabaocbaaG14
import Derived.Test.YtemnlcfabaocbaaG18
/-
  Layer 5: the walk of the statement MendOwn.
-/
namespace Go.Proofs.Ytemnlcfabaocbaa
open Go.RowKit Gf
set_option maxRecDepth 20000
set_option linter.unusedVariables false

theorem RdRows.over {S : Nat → Prop} {w0 w w' : World} {A : Option Addr} {rs : List (List E)} (h : RdRows w0 A rs) (hx : Ext w0 w) (ht : Touch S w w') (hS : ∀ k, k < w0.heap.size → ¬ S k) : RdRows w' A rs := by
  obtain ⟨V, h1, h2, h3⟩ := h
  exact ⟨V, h1, h2.over hx ht hS, fun i r hi => by obtain ⟨B, c, k1, k2, k3⟩ := h3 i r hi; exact ⟨B, c, k1, k2.over hx ht hS, k3⟩⟩
theorem Span.apart2 {w w' : World} {lo hi B B' : Nat} {T T1 T2 : TypeId} {v : Value} {xs : List Value} {V1 V2 : List Value} {R1 : Nat → List Value} {R2 : Nat → List E} (h : Span w lo hi T v xs) (h1 : OwnVs w B T1 V1 R1) (h2 : OwnRows w B' T2 V2 R2) (n1 : T ≠ T1) (n2 : T ≠ T2)
    (ht : Touch (fun k => InRows V1 k ∨ InRows V2 k) w w') : Span w' lo hi T v xs :=
  ⟨h.own.touch ht fun g hg hk => by
    rcases hk with ⟨i, u, hi, hu⟩ | ⟨i, u, hi, hu⟩
    · rcases h.own.types (h1.own i u hi) n1 with e | e
      · rw [e] at hg; cases hg
      · exact e (hg.trans hu.symm)
    · rcases h.own.types (h2.own i u hi) n2 with e | e
      · rw [e] at hg; cases hg
      · exact e (hg.trans hu.symm), h.up⟩
set_option maxHeartbeats 16000000 in
theorem ownWalk_n (kx : Int) (Ax Ay : Option Addr) (nx cx ny cy : Nat) (xs ys : List (List E)) (w : World) (hnx : xs.length = nx) (hny : ys.length = ny) (hrx : RdRows w Ax xs) (hry : RdRows w Ay ys) (hnx2 : nx ≤ 1048576) (hny2 : ny ≤ 1048576)
    (hbx : ∀ r ∈ xs, r.length ≤ 1048576) (hby : ∀ r ∈ ys, r.length ≤ 1048576) (hkx : (Lit.int .i64 kx).wf = true) :
    Calls Try.prog 18 #[.agg #[.int .i64 kx, .slice Ax nx cx, .slice Ay ny cy]] w fun e w' => e = .returned (.bool true) ∧ Ext w w' := by
  obtain ⟨wb, hwb0⟩ : ∃ wb, wb = w.alloc (.cells #[.int .i64 kx, .slice Ax nx cx, .slice Ay ny cy] 86) := ⟨_, rfl⟩
  have Y : Hid (Ext w wb) := Lib.hid (by rw [hwb0]; exact (Ext.refl w).alloc _)
  have lb : wb.heap.size = w.heap.size + 1 := by rw [hwb0]; simp
  have BK : Hid (Blk wb w.heap.size 86 #[.int .i64 kx, .slice Ax nx cx, .slice Ay ny cy]) := Lib.hid (by rw [hwb0]; exact Blk.new _ _ _)
  have RX : Hid (RdRows wb Ax xs) := Lib.hid (hrx.ext Y.out)
  have RY : Hid (RdRows wb Ay ys) := Lib.hid (hry.ext Y.out)
  have RX0 := RX
  have NX := Lib.hid hnx
  have NY := Lib.hid hny
  have BX := Lib.hid hbx
  have BYS := Lib.hid hby
  have Y0 : Hid (Ext wb wb) := Lib.hid (Ext.refl wb)
  have hmo : Try.prog.follows Departure.mixedOrders = true := by kernel_rfl
  have HWB := Lib.hid hwb0
  clear hrx hry hnx hny hwb0 hbx hby
  go_enter Try.func18, Try.ntmps18
  go_wp2_with fail
  rw [← HWB.out]
  clear HWB
  refine (awake_n _).mono ?_
  rintro e w1 ⟨rfl, hx⟩
  have l1 := hx.le
  replace BK := Lib.hid (BK.out.ext hx)
  replace RX := Lib.hid (RX.out.ext hx)
  replace RY := Lib.hid (RY.out.ext hx)
  replace Y := Lib.hid (Y.out.trans hx)
  replace Y0 := Lib.hid (Y0.out.trans hx)
  clear hx
  have q1 : World.cell? w1 ⟨w.heap.size, 1, none⟩ = some (Value.slice Ax nx cx) := BK.out.cell 1
  go_wp2_with fail
  clear q1
  refine (lent5_n Ax nx cx xs _ NX.out RX.out (by omega) (fun r hr => by have := BX.out r hr; omega)).mono ?_
  rintro e w2 ⟨Gi, ci, Vl, rfl, hl, hci, hx⟩
  obtain ⟨Vi, hVi⟩ : ∃ V, V = Vl.take xs.length := ⟨_, rfl⟩
  have hg := hl.grp
  rw [← hVi, NX.out] at hg
  have HI := Lib.hid hg
  have HL := Lib.hid hl
  clear hg hl hVi
  have l2 := hx.le
  replace BK := Lib.hid (BK.out.ext hx)
  replace RX := Lib.hid (RX.out.ext hx)
  replace RY := Lib.hid (RY.out.ext hx)
  replace Y := Lib.hid (Y.out.trans hx)
  replace Y0 := Lib.hid (Y0.out.trans hx)
  clear hx
  have q0 : World.cell? w2 ⟨w.heap.size, 0, none⟩ = some (Value.int .i64 kx) := BK.out.cell 0
  go_wp2_with fail
  clear q0
  refine (mendR_n kx (some ⟨Gi, 0, none⟩) nx ci xs _ NX.out HI.out.rd hkx (by omega) (fun r hr => by have := BX.out r hr; omega)).mono ?_
  rintro e w3 ⟨va, vb, out_, bad_, ee_, rfl, hsp, hoa, hob, hx⟩
  obtain ⟨out, bad, ee, rfl, rfl, rfl⟩ : ∃ a b c, a = out_ ∧ b = bad_ ∧ c = ee_ := ⟨_, _, _, rfl, rfl, rfl⟩
  obtain ⟨sout, f2, sbad, f4, -⟩ := hsp.fine BX.out
  have Fout := Lib.hid f2
  have Fbad := Lib.hid f4
  have SPX := Lib.hid hsp
  clear hsp f2 f4
  obtain ⟨Va, hg⟩ := Grp.of hoa
  obtain ⟨Aa, ca, hv, hcAa, hmAa, someAa⟩ := hg.open_
  subst hv
  simp only [maxLen] at hmAa
  have GA := Lib.hid hg
  clear hg hoa
  obtain ⟨Ba, da, hv, -, hcBa, hmBa, someBa⟩ := hob.opened
  rw [ints_length] at hv hcBa someBa
  subst hv
  simp only [maxLen] at hmBa
  have IA := Lib.hid (Span.of hob)
  clear hob
  have l3 := hx.le
  replace BK := Lib.hid (BK.out.ext hx)
  replace RX := Lib.hid (RX.out.ext hx)
  replace RY := Lib.hid (RY.out.ext hx)
  replace HI := Lib.hid (HI.out.ext hx)
  replace HL := Lib.hid (HL.out.ext hx)
  replace Y := Lib.hid (Y.out.trans hx)
  replace Y0 := Lib.hid (Y0.out.trans hx)
  clear hx
  have q0 : World.cell? w3 ⟨w.heap.size, 0, none⟩ = some (Value.int .i64 kx) := BK.out.cell 0
  go_wp2_with fail
  clear q0
  refine (mendR_n kx (some ⟨Gi, 0, none⟩) nx ci xs _ NX.out HI.out.rd hkx (by omega) (fun r hr => by have := BX.out r hr; omega)).mono ?_
  rintro e w4 ⟨va, vb, out_, bad_, ee_, rfl, hsp, hoa, hob, hx⟩
  obtain ⟨rfl, rfl, rfl⟩ := SPX.out.uniq hsp
  clear hsp
  obtain ⟨Vb, hg⟩ := Grp.of hoa
  obtain ⟨Ab, cb, hv, hcAb, hmAb, someAb⟩ := hg.open_
  subst hv
  simp only [maxLen] at hmAb
  have GB := Lib.hid hg
  clear hg hoa
  obtain ⟨Bb, db, hv, -, hcBb, hmBb, someBb⟩ := hob.opened
  rw [ints_length] at hv hcBb someBb
  subst hv
  simp only [maxLen] at hmBb
  have IB := Lib.hid (Span.of hob)
  clear hob
  have l4 := hx.le
  replace BK := Lib.hid (BK.out.ext hx)
  replace RX := Lib.hid (RX.out.ext hx)
  replace RY := Lib.hid (RY.out.ext hx)
  replace HI := Lib.hid (HI.out.ext hx)
  replace HL := Lib.hid (HL.out.ext hx)
  replace GA := Lib.hid (GA.out.ext hx)
  replace IA := Lib.hid (IA.out.ext hx)
  replace Y := Lib.hid (Y.out.trans hx)
  replace Y0 := Lib.hid (Y0.out.trans hx)
  clear hx
  have q0 : World.cell? w4 ⟨w.heap.size, 0, none⟩ = some (Value.int .i64 kx) := BK.out.cell 0
  have q2 : World.cell? w4 ⟨w.heap.size, 2, none⟩ = some (Value.slice Ay ny cy) := BK.out.cell 2
  go_wp2_with fail
  clear q0 q2
  refine (mendR_n kx Ay ny cy ys _ NY.out RY.out hkx (by omega) (fun r hr => by have := BYS.out r hr; omega)).mono ?_
  rintro e w5 ⟨va, vb, out_, bad_, ee_, rfl, hsp, hoa, hob, hx⟩
  obtain ⟨outy, bady, eey, rfl, rfl, rfl⟩ : ∃ a b c, a = out_ ∧ b = bad_ ∧ c = ee_ := ⟨_, _, _, rfl, rfl, rfl⟩
  obtain ⟨souty, f2, sbady, f4, -⟩ := hsp.fine BYS.out
  have Fouty := Lib.hid f2
  have Fbady := Lib.hid f4
  have SPY := Lib.hid hsp
  clear hsp f2 f4
  obtain ⟨Vc, hg⟩ := Grp.of hoa
  obtain ⟨Ac, cc, hv, hcAc, hmAc, someAc⟩ := hg.open_
  subst hv
  simp only [maxLen] at hmAc
  have GC := Lib.hid hg
  clear hg hoa
  obtain ⟨Bc, dc, hv, -, hcBc, hmBc, someBc⟩ := hob.opened
  rw [ints_length] at hv hcBc someBc
  subst hv
  simp only [maxLen] at hmBc
  have IC := Lib.hid (Span.of hob)
  clear hob
  have l5 := hx.le
  replace BK := Lib.hid (BK.out.ext hx)
  replace RX := Lib.hid (RX.out.ext hx)
  replace RY := Lib.hid (RY.out.ext hx)
  replace HI := Lib.hid (HI.out.ext hx)
  replace HL := Lib.hid (HL.out.ext hx)
  replace GA := Lib.hid (GA.out.ext hx)
  replace IA := Lib.hid (IA.out.ext hx)
  replace GB := Lib.hid (GB.out.ext hx)
  replace IB := Lib.hid (IB.out.ext hx)
  replace Y := Lib.hid (Y.out.trans hx)
  replace Y0 := Lib.hid (Y0.out.trans hx)
  clear hx
  have q0 : World.cell? w5 ⟨w.heap.size, 0, none⟩ = some (Value.int .i64 kx) := BK.out.cell 0
  go_wp2_with fail
  clear q0
  refine (mendR_n kx (some ⟨Gi, 0, none⟩) nx ci xs _ NX.out HI.out.rd hkx (by omega) (fun r hr => by have := BX.out r hr; omega)).mono ?_
  rintro e w6 ⟨va, vb, out_, bad_, ee_, rfl, hsp, hoa, hob, hx⟩
  obtain ⟨rfl, rfl, rfl⟩ := SPX.out.uniq hsp
  clear hsp
  obtain ⟨Vd, hg⟩ := Grp.of hoa
  obtain ⟨Ad, cd, hv, hcAd, hmAd, someAd⟩ := hg.open_
  subst hv
  simp only [maxLen] at hmAd
  have GD := Lib.hid hg
  clear hg hoa
  obtain ⟨Bd, dd, hv, -, hcBd, hmBd, someBd⟩ := hob.opened
  rw [ints_length] at hv hcBd someBd
  subst hv
  simp only [maxLen] at hmBd
  have ID := Lib.hid (Span.of hob)
  clear hob
  have l6 := hx.le
  replace BK := Lib.hid (BK.out.ext hx)
  replace RX := Lib.hid (RX.out.ext hx)
  replace RY := Lib.hid (RY.out.ext hx)
  replace HI := Lib.hid (HI.out.ext hx)
  replace HL := Lib.hid (HL.out.ext hx)
  replace GA := Lib.hid (GA.out.ext hx)
  replace IA := Lib.hid (IA.out.ext hx)
  replace GB := Lib.hid (GB.out.ext hx)
  replace IB := Lib.hid (IB.out.ext hx)
  replace GC := Lib.hid (GC.out.ext hx)
  replace IC := Lib.hid (IC.out.ext hx)
  replace Y := Lib.hid (Y.out.trans hx)
  replace Y0 := Lib.hid (Y0.out.trans hx)
  clear hx
  go_wp2_with fail
  refine (copied_n Aa out.length ca out _ rfl GA.out.rd (by omega) (fun r hr => by have := Fout.out r hr; omega)).mono ?_
  rintro e w7 ⟨v, rfl, hro, hx⟩
  obtain ⟨Vw, hg⟩ := Grp.of hro
  obtain ⟨Aw, cw, hv, hcAw, hmAw, someAw⟩ := hg.open_
  subst hv
  simp only [maxLen] at hmAw
  have GW := Lib.hid hg
  clear hg hro
  have l7 := hx.le
  replace BK := Lib.hid (BK.out.ext hx)
  replace RX := Lib.hid (RX.out.ext hx)
  replace RY := Lib.hid (RY.out.ext hx)
  replace HI := Lib.hid (HI.out.ext hx)
  replace HL := Lib.hid (HL.out.ext hx)
  replace GA := Lib.hid (GA.out.ext hx)
  replace IA := Lib.hid (IA.out.ext hx)
  replace GB := Lib.hid (GB.out.ext hx)
  replace IB := Lib.hid (IB.out.ext hx)
  replace GC := Lib.hid (GC.out.ext hx)
  replace IC := Lib.hid (IC.out.ext hx)
  replace GD := Lib.hid (GD.out.ext hx)
  replace ID := Lib.hid (ID.out.ext hx)
  replace Y := Lib.hid (Y.out.trans hx)
  replace Y0 := Lib.hid (Y0.out.trans hx)
  clear hx
  have h0 : Own (w7.alloc (.cells #[] 3)) w7.heap.size 3 (.slice (some ⟨w7.heap.size, 0, none⟩) 0 0) [] := (Blk.new w7 3 #[]).own (Nat.le_refl _) (Nat.le_refl _) (Nat.zero_le _) rfl
  have hbd : (([] : List Value).length + bad.length) * 8 ≤ 140737488355328 := by simp; omega
  have hln : (ints bad).length = bad.length := ints_length _
  have HLN := Lib.hid hln
  clear hln
  go_wp2_with (at_builtin; refine wpList_app (w7.alloc (.cells #[] 3)) eltInt rfl _ _ (by rfl) w7.heap.size (.slice (some ⟨w7.heap.size, 0, none⟩) 0 0) [] (by rfl) (by exact h0) Ba bad.length da (ints bad) (by rfl) (IA.out.rd.alloc _) HLN.out (ints_ones _) hbd (by simp) ?_)
  intro v w8 ho hmv
  have ho' : Own w8 w7.heap.size 3 v (ints bad) := by simpa using ho
  have hx : Ext w7 w8 := ((Ext.refl w7).alloc _).below.trans (hmv.below (by simp) fun g hg => by simp [Value.ownBlock] at hg; omega)
  clear h0 hbd ho hmv
  obtain ⟨Bw, dw, hv, -, hcBw, hmBw, someBw⟩ := ho'.opened
  rw [HLN.out] at hv hcBw someBw
  subst hv
  simp only [maxLen] at hmBw
  have IW := Lib.hid (Span.of ho')
  clear ho' HLN
  have l8 := hx.le
  replace BK := Lib.hid (BK.out.ext hx)
  replace RX := Lib.hid (RX.out.ext hx)
  replace RY := Lib.hid (RY.out.ext hx)
  replace HI := Lib.hid (HI.out.ext hx)
  replace HL := Lib.hid (HL.out.ext hx)
  replace GA := Lib.hid (GA.out.ext hx)
  replace IA := Lib.hid (IA.out.ext hx)
  replace GB := Lib.hid (GB.out.ext hx)
  replace IB := Lib.hid (IB.out.ext hx)
  replace GC := Lib.hid (GC.out.ext hx)
  replace IC := Lib.hid (IC.out.ext hx)
  replace GD := Lib.hid (GD.out.ext hx)
  replace ID := Lib.hid (ID.out.ext hx)
  replace GW := Lib.hid (GW.out.ext hx)
  replace Y := Lib.hid (Y.out.trans hx)
  replace Y0 := Lib.hid (Y0.out.trans hx)
  clear hx
  go_wp2_with fail
  refine (copied_n Ac outy.length cc outy _ rfl GC.out.rd (by omega) (fun r hr => by have := Fouty.out r hr; omega)).mono ?_
  rintro e w9 ⟨v, rfl, hro, hx⟩
  obtain ⟨Vo, hg⟩ := Grp.of hro
  obtain ⟨Ao, co, hv, hcAo, hmAo, someAo⟩ := hg.open_
  subst hv
  simp only [maxLen] at hmAo
  have GO := Lib.hid hg
  clear hg hro
  have l9 := hx.le
  replace BK := Lib.hid (BK.out.ext hx)
  replace RX := Lib.hid (RX.out.ext hx)
  replace RY := Lib.hid (RY.out.ext hx)
  replace HI := Lib.hid (HI.out.ext hx)
  replace HL := Lib.hid (HL.out.ext hx)
  replace GA := Lib.hid (GA.out.ext hx)
  replace IA := Lib.hid (IA.out.ext hx)
  replace GB := Lib.hid (GB.out.ext hx)
  replace IB := Lib.hid (IB.out.ext hx)
  replace GC := Lib.hid (GC.out.ext hx)
  replace IC := Lib.hid (IC.out.ext hx)
  replace GD := Lib.hid (GD.out.ext hx)
  replace ID := Lib.hid (ID.out.ext hx)
  replace GW := Lib.hid (GW.out.ext hx)
  replace IW := Lib.hid (IW.out.ext hx)
  replace Y := Lib.hid (Y.out.trans hx)
  replace Y0 := Lib.hid (Y0.out.trans hx)
  clear hx
  go_wp2_with fail
  refine (sameRows_n Ab Aw _ _ cb cw out _ rfl rfl GB.out.rd GW.out.rd (by omega) (fun r hr => by have := Fout.out r hr; omega)).mono ?_
  rintro e w10 ⟨rfl, hx⟩
  have l10 := hx.le
  replace BK := Lib.hid (BK.out.ext hx)
  replace RX := Lib.hid (RX.out.ext hx)
  replace RY := Lib.hid (RY.out.ext hx)
  replace HI := Lib.hid (HI.out.ext hx)
  replace HL := Lib.hid (HL.out.ext hx)
  replace GA := Lib.hid (GA.out.ext hx)
  replace IA := Lib.hid (IA.out.ext hx)
  replace GB := Lib.hid (GB.out.ext hx)
  replace IB := Lib.hid (IB.out.ext hx)
  replace GC := Lib.hid (GC.out.ext hx)
  replace IC := Lib.hid (IC.out.ext hx)
  replace GD := Lib.hid (GD.out.ext hx)
  replace ID := Lib.hid (ID.out.ext hx)
  replace GW := Lib.hid (GW.out.ext hx)
  replace IW := Lib.hid (IW.out.ext hx)
  replace GO := Lib.hid (GO.out.ext hx)
  replace Y := Lib.hid (Y.out.trans hx)
  replace Y0 := Lib.hid (Y0.out.trans hx)
  clear hx
  go_wp2_with fail
  refine (sameRows_n Ad Aw _ _ cd cw out _ rfl rfl GD.out.rd GW.out.rd (by omega) (fun r hr => by have := Fout.out r hr; omega)).mono ?_
  rintro e w11 ⟨rfl, hx⟩
  have l11 := hx.le
  replace BK := Lib.hid (BK.out.ext hx)
  replace RX := Lib.hid (RX.out.ext hx)
  replace RY := Lib.hid (RY.out.ext hx)
  replace HI := Lib.hid (HI.out.ext hx)
  replace HL := Lib.hid (HL.out.ext hx)
  replace GA := Lib.hid (GA.out.ext hx)
  replace IA := Lib.hid (IA.out.ext hx)
  replace GB := Lib.hid (GB.out.ext hx)
  replace IB := Lib.hid (IB.out.ext hx)
  replace GC := Lib.hid (GC.out.ext hx)
  replace IC := Lib.hid (IC.out.ext hx)
  replace GD := Lib.hid (GD.out.ext hx)
  replace ID := Lib.hid (ID.out.ext hx)
  replace GW := Lib.hid (GW.out.ext hx)
  replace IW := Lib.hid (IW.out.ext hx)
  replace GO := Lib.hid (GO.out.ext hx)
  replace Y := Lib.hid (Y.out.trans hx)
  replace Y0 := Lib.hid (Y0.out.trans hx)
  clear hx
  go_wp2_with fail
  refine (sameInts_n Bb Bw _ _ bad db dw _ rfl rfl IB.out.rd IW.out.rd (by omega) Fbad.out).mono ?_
  rintro e w12 ⟨rfl, hx⟩
  have l12 := hx.le
  replace BK := Lib.hid (BK.out.ext hx)
  replace RX := Lib.hid (RX.out.ext hx)
  replace RY := Lib.hid (RY.out.ext hx)
  replace HI := Lib.hid (HI.out.ext hx)
  replace HL := Lib.hid (HL.out.ext hx)
  replace GA := Lib.hid (GA.out.ext hx)
  replace IA := Lib.hid (IA.out.ext hx)
  replace GB := Lib.hid (GB.out.ext hx)
  replace IB := Lib.hid (IB.out.ext hx)
  replace GC := Lib.hid (GC.out.ext hx)
  replace IC := Lib.hid (IC.out.ext hx)
  replace GD := Lib.hid (GD.out.ext hx)
  replace ID := Lib.hid (ID.out.ext hx)
  replace GW := Lib.hid (GW.out.ext hx)
  replace IW := Lib.hid (IW.out.ext hx)
  replace GO := Lib.hid (GO.out.ext hx)
  replace Y := Lib.hid (Y.out.trans hx)
  replace Y0 := Lib.hid (Y0.out.trans hx)
  clear hx
  go_wp2_with fail
  refine (sameInts_n Bd Bw _ _ bad dd dw _ rfl rfl ID.out.rd IW.out.rd (by omega) Fbad.out).mono ?_
  rintro e w13 ⟨rfl, hx⟩
  have l13 := hx.le
  replace BK := Lib.hid (BK.out.ext hx)
  replace RX := Lib.hid (RX.out.ext hx)
  replace RY := Lib.hid (RY.out.ext hx)
  replace HI := Lib.hid (HI.out.ext hx)
  replace HL := Lib.hid (HL.out.ext hx)
  replace GA := Lib.hid (GA.out.ext hx)
  replace IA := Lib.hid (IA.out.ext hx)
  replace GB := Lib.hid (GB.out.ext hx)
  replace IB := Lib.hid (IB.out.ext hx)
  replace GC := Lib.hid (GC.out.ext hx)
  replace IC := Lib.hid (IC.out.ext hx)
  replace GD := Lib.hid (GD.out.ext hx)
  replace ID := Lib.hid (ID.out.ext hx)
  replace GW := Lib.hid (GW.out.ext hx)
  replace IW := Lib.hid (IW.out.ext hx)
  replace GO := Lib.hid (GO.out.ext hx)
  replace Y := Lib.hid (Y.out.trans hx)
  replace Y0 := Lib.hid (Y0.out.trans hx)
  clear hx
  have q1 : World.cell? w13 ⟨w.heap.size, 1, none⟩ = some (Value.slice Ax nx cx) := BK.out.cell 1
  go_wp2_with fail
  clear q1
  refine (kept5_n Ax nx nx _ Gi ci cx Vl xs _ NX.out NX.out HL.out hci RX.out (by omega) (fun r hr => by have := BX.out r hr; omega)).mono ?_
  rintro e w14 ⟨rfl, hx⟩
  have l14 := hx.le
  replace BK := Lib.hid (BK.out.ext hx)
  replace RX := Lib.hid (RX.out.ext hx)
  replace RY := Lib.hid (RY.out.ext hx)
  replace HI := Lib.hid (HI.out.ext hx)
  replace HL := Lib.hid (HL.out.ext hx)
  replace GA := Lib.hid (GA.out.ext hx)
  replace IA := Lib.hid (IA.out.ext hx)
  replace GB := Lib.hid (GB.out.ext hx)
  replace IB := Lib.hid (IB.out.ext hx)
  replace GC := Lib.hid (GC.out.ext hx)
  replace IC := Lib.hid (IC.out.ext hx)
  replace GD := Lib.hid (GD.out.ext hx)
  replace ID := Lib.hid (ID.out.ext hx)
  replace GW := Lib.hid (GW.out.ext hx)
  replace IW := Lib.hid (IW.out.ext hx)
  replace GO := Lib.hid (GO.out.ext hx)
  replace Y := Lib.hid (Y.out.trans hx)
  replace Y0 := Lib.hid (Y0.out.trans hx)
  clear hx
  clear HL
  go_wp2_with fail
  have HVL : Hid (Vi.length = nx) := Lib.hid (by rw [HI.out.len, NX.out])
  have HIN : Hid (∀ k, InRows Vi k → w1.heap.size ≤ k ∧ k < w2.heap.size) := Lib.hid (fun k h => HI.out.rows.within h)
  have HFV := Lib.hid HI.out.rows.far
  obtain ⟨len, hlen⟩ : ∃ l : Nat → Nat, l = fun i => (xs.getD i []).length := ⟨_, rfl⟩
  have HLE : Hid (∀ i, len i ≤ 1048576) := Lib.hid (by rw [hlen]; exact getR_len BX.out)
  have XO : Hid (Xors w14 w14 w1.heap.size Gi nx ci Vi len) := Lib.hid (by rw [hlen]; exact Xors.start HI.out)
  clear hlen
  go_loopw [20] (fun i wr => ∃ q : Nat, q ≤ nx ∧ i = .int .i64 q ∧ Xors w14 wr w1.heap.size Gi nx ci Vi len) (fun i _ => nx - (intOf i).toNat)
  case atStart => exact ⟨0, by omega, rfl, XO.out⟩
  case round =>
    obtain ⟨q, hq, rfl, hT⟩ := hrel
    clear XO
    by_cases hlt : q < nx
    · obtain ⟨u, hu⟩ : ∃ u, Vi[q]? = some u := ⟨_, List.getElem?_eq_getElem (by rw [HVL.out]; exact hlt)⟩
      obtain ⟨A, c, rfl, -, hsome⟩ := hT.at_ hu
      have HU := Lib.hid hu
      have XO := Lib.hid hT
      have hqN : (q : Int) < (nx : Int) := by omega
      have hlb := HLE.out q
      clear hu hT
      go_wp2_with fail
      go_loopw [21] (fun jj wr => ∃ j : Nat, j ≤ len q ∧ jj = .int .i64 j ∧ Xors w14 wr w1.heap.size Gi nx ci Vi len) (fun jj _ => len q - (intOf jj).toNat)
      case atStart => exact ⟨0, by omega, rfl, XO.out⟩
      case round =>
        obtain ⟨W, rfl⟩ : ∃ W, W = wr := ⟨_, rfl⟩
        obtain ⟨j, hj, rfl, hT⟩ := hrel
        clear XO
        obtain ⟨_, _, e, hc, -⟩ := hT.at_ HU.out
        injection e with e1 e2 e3
        subst e1 e3
        clear e2
        by_cases hlt2 : j < len q
        · obtain ⟨g, rfl⟩ := hsome (by omega)
          obtain ⟨x, hx⟩ := hT.old HU.out hlt2
          have hjL : (j : Int) < (len q : Int) := by omega
          have hxl := x.lt
          have XO := Lib.hid hT
          clear hT
          rcases (show q % 2 = 0 ∨ q % 2 = 1 by omega) with h2 | h2
          · have hmd : Int.tmod (q : Int) 2 = 0 := by rw [Int.tmod_eq_emod_of_nonneg (by omega)]; omega
            have hmd2 : (q : Int) % 2 = 0 := by omega
            have hxo := xor1 x
            have hl3 := (x + E.of 1).lt
            clear h2
            go_wp2_with fail
            refine region_store_plain hmo (by kernel_rfl) (by kernel_rfl) (by kernel_rfl) ?_
            dsimp only [muted, mute, List.dropLast]
            repeat (gi_big_quiet_step (fail))
            refine wpQuietIn_nil ?_
            rintro _ ⟨nq, rfl⟩ s hs'
            simp only [List.getLast?_cons_cons, List.getLast?_singleton, Option.some.injEq] at hs'
            subst hs'
            obtain ⟨W4, hW4⟩ : ∃ x, x = W.drewN nq := ⟨_, rfl⟩
            have hT4 : Xors w14 W4 w1.heap.size Gi nx ci Vi len := by rw [hW4]; exact XO.out.drewN nq
            rw [← hW4]
            clear hW4 hc hx hxo XO hmd hmd2
            have f1 := hT4.frozen HU.out j
            obtain ⟨u1, c1⟩ := hT4.old HU.out hlt2
            have XO := Lib.hid (hT4.step HFV.out HU.out j (x + E.of 1))
            clear hT4
            go_simp
            go_wp2_with fail
            go_roundw
            case rel => exact ⟨j + 1, by omega, by go_num, XO.out⟩
            case measure => simp [intOf]; omega
          · have hmd : Int.tmod (q : Int) 2 = 1 := by rw [Int.tmod_eq_emod_of_nonneg (by omega)]; omega
            have hmd2 : (q : Int) % 2 = 1 := by omega
            have hxo := xor2 x
            have hl3 := (x + E.of 2).lt
            clear h2
            go_wp2_with fail
            refine region_store_plain hmo (by kernel_rfl) (by kernel_rfl) (by kernel_rfl) ?_
            dsimp only [muted, mute, List.dropLast]
            repeat (gi_big_quiet_step (fail))
            refine wpQuietIn_nil ?_
            rintro _ ⟨nq, rfl⟩ s hs'
            simp only [List.getLast?_cons_cons, List.getLast?_singleton, Option.some.injEq] at hs'
            subst hs'
            obtain ⟨W4, hW4⟩ : ∃ x, x = W.drewN nq := ⟨_, rfl⟩
            have hT4 : Xors w14 W4 w1.heap.size Gi nx ci Vi len := by rw [hW4]; exact XO.out.drewN nq
            rw [← hW4]
            clear hW4 hc hx hxo XO hmd hmd2
            have f1 := hT4.frozen HU.out j
            obtain ⟨u1, c1⟩ := hT4.old HU.out hlt2
            have XO := Lib.hid (hT4.step HFV.out HU.out j (x + E.of 2))
            clear hT4
            go_simp
            go_wp2_with fail
            go_roundw
            case rel => exact ⟨j + 1, by omega, by go_num, XO.out⟩
            case measure => simp [intOf]; omega
        · obtain rfl : j = len q := by omega
          have XO := Lib.hid hT
          clear hT
          go_wp2_with fail
          go_roundw
          case rel => exact ⟨q + 1, by omega, by go_num, XO.out⟩
          case measure => simp [intOf]; omega
    · obtain rfl : nx = q := by omega
      obtain ⟨w15, rfl⟩ : ∃ W, W = wr := ⟨_, rfl⟩
      obtain ⟨rs2, hn2, hl2, hr2⟩ := hT.fin HVL.out
      have ht := hT.touch
      have l15 := ht.size
      have N2 := Lib.hid hn2
      have R2 := Lib.hid hr2
      have B2 : Hid (∀ r ∈ rs2, r.length ≤ 1048576) := Lib.hid (rows_bound hn2 hl2 HLE.out)
      replace GA := Lib.hid (GA.out.touch ht fun k h1 h2 h => by have := HIN.out k h; omega)
      replace GB := Lib.hid (GB.out.touch ht fun k h1 h2 h => by have := HIN.out k h; omega)
      replace GC := Lib.hid (GC.out.touch ht fun k h1 h2 h => by have := HIN.out k h; omega)
      replace GD := Lib.hid (GD.out.touch ht fun k h1 h2 h => by have := HIN.out k h; omega)
      replace GW := Lib.hid (GW.out.touch ht fun k h1 h2 h => by have := HIN.out k h; omega)
      replace GO := Lib.hid (GO.out.touch ht fun k h1 h2 h => by have := HIN.out k h; omega)
      replace IA := Lib.hid (IA.out.touch ht fun k h1 h2 h => by have := HIN.out k h; omega)
      replace IB := Lib.hid (IB.out.touch ht fun k h1 h2 h => by have := HIN.out k h; omega)
      replace IC := Lib.hid (IC.out.touch ht fun k h1 h2 h => by have := HIN.out k h; omega)
      replace ID := Lib.hid (ID.out.touch ht fun k h1 h2 h => by have := HIN.out k h; omega)
      replace IW := Lib.hid (IW.out.touch ht fun k h1 h2 h => by have := HIN.out k h; omega)
      replace BK := Lib.hid (BK.out.touch ht fun h => by have := HIN.out _ h; omega)
      replace RX := Lib.hid (RX0.out.over Y0.out ht fun k h1 h => by have := HIN.out k h; omega)
      replace Y := Lib.hid (Y.out.touched ht fun k h => by have := HIN.out k h; omega)
      replace Y0 := Lib.hid (Y0.out.touched ht fun k h => by have := HIN.out k h; omega)
      clear hT ht hn2 hl2 hr2 HVL HLE HFV RY HI HIN
      go_wp2_with fail
      refine (sameRows_n Aa Aw _ _ ca cw out _ rfl rfl GA.out.rd GW.out.rd (by omega) (fun r hr => by have := Fout.out r hr; omega)).mono ?_
      rintro e w16 ⟨rfl, hx⟩
      have l16 := hx.le
      replace BK := Lib.hid (BK.out.ext hx)
      replace RX := Lib.hid (RX.out.ext hx)
      replace GA := Lib.hid (GA.out.ext hx)
      replace IA := Lib.hid (IA.out.ext hx)
      replace GB := Lib.hid (GB.out.ext hx)
      replace IB := Lib.hid (IB.out.ext hx)
      replace GC := Lib.hid (GC.out.ext hx)
      replace IC := Lib.hid (IC.out.ext hx)
      replace GD := Lib.hid (GD.out.ext hx)
      replace ID := Lib.hid (ID.out.ext hx)
      replace GW := Lib.hid (GW.out.ext hx)
      replace IW := Lib.hid (IW.out.ext hx)
      replace GO := Lib.hid (GO.out.ext hx)
      replace R2 := Lib.hid (R2.out.ext hx)
      replace Y := Lib.hid (Y.out.trans hx)
      replace Y0 := Lib.hid (Y0.out.trans hx)
      clear hx
      go_wp2_with fail
      refine (sameRows_n Ab Aw _ _ cb cw out _ rfl rfl GB.out.rd GW.out.rd (by omega) (fun r hr => by have := Fout.out r hr; omega)).mono ?_
      rintro e w17 ⟨rfl, hx⟩
      have l17 := hx.le
      replace BK := Lib.hid (BK.out.ext hx)
      replace RX := Lib.hid (RX.out.ext hx)
      replace GA := Lib.hid (GA.out.ext hx)
      replace IA := Lib.hid (IA.out.ext hx)
      replace GB := Lib.hid (GB.out.ext hx)
      replace IB := Lib.hid (IB.out.ext hx)
      replace GC := Lib.hid (GC.out.ext hx)
      replace IC := Lib.hid (IC.out.ext hx)
      replace GD := Lib.hid (GD.out.ext hx)
      replace ID := Lib.hid (ID.out.ext hx)
      replace GW := Lib.hid (GW.out.ext hx)
      replace IW := Lib.hid (IW.out.ext hx)
      replace GO := Lib.hid (GO.out.ext hx)
      replace R2 := Lib.hid (R2.out.ext hx)
      replace Y := Lib.hid (Y.out.trans hx)
      replace Y0 := Lib.hid (Y0.out.trans hx)
      clear hx
      go_wp2_with fail
      refine (sameRows_n Ac Ao _ _ cc co outy _ rfl rfl GC.out.rd GO.out.rd (by omega) (fun r hr => by have := Fouty.out r hr; omega)).mono ?_
      rintro e w18 ⟨rfl, hx⟩
      have l18 := hx.le
      replace BK := Lib.hid (BK.out.ext hx)
      replace RX := Lib.hid (RX.out.ext hx)
      replace GA := Lib.hid (GA.out.ext hx)
      replace IA := Lib.hid (IA.out.ext hx)
      replace GB := Lib.hid (GB.out.ext hx)
      replace IB := Lib.hid (IB.out.ext hx)
      replace GC := Lib.hid (GC.out.ext hx)
      replace IC := Lib.hid (IC.out.ext hx)
      replace GD := Lib.hid (GD.out.ext hx)
      replace ID := Lib.hid (ID.out.ext hx)
      replace GW := Lib.hid (GW.out.ext hx)
      replace IW := Lib.hid (IW.out.ext hx)
      replace GO := Lib.hid (GO.out.ext hx)
      replace R2 := Lib.hid (R2.out.ext hx)
      replace Y := Lib.hid (Y.out.trans hx)
      replace Y0 := Lib.hid (Y0.out.trans hx)
      clear hx
      clear GO
      have q0 : World.cell? w18 ⟨w.heap.size, 0, none⟩ = some (Value.int .i64 kx) := BK.out.cell 0
      go_wp2_with fail
      clear q0
      refine (mendR_n kx (some ⟨Gi, 0, none⟩) nx ci rs2 _ N2.out R2.out hkx (by omega) (fun r hr => by have := B2.out r hr; omega)).mono ?_
      rintro e w19 ⟨va, vb, out_, bad_, ee_, rfl, hsp, hoa, hob, hx⟩
      obtain ⟨outg, badg, eeg, rfl, rfl, rfl⟩ : ∃ a b c, a = out_ ∧ b = bad_ ∧ c = ee_ := ⟨_, _, _, rfl, rfl, rfl⟩
      obtain ⟨soutg, f2, sbadg, f4, -⟩ := hsp.fine B2.out
      have Foutg := Lib.hid f2
      have Fbadg := Lib.hid f4
      have SPG := Lib.hid hsp
      clear hsp f2 f4
      obtain ⟨Vg, hg⟩ := Grp.of hoa
      obtain ⟨Ag, cg, hv, hcAg, hmAg, someAg⟩ := hg.open_
      subst hv
      simp only [maxLen] at hmAg
      have GG := Lib.hid hg
      clear hg hoa
      obtain ⟨Bg, dg_, hv, -, hcBg, hmBg, someBg⟩ := hob.opened
      rw [ints_length] at hv hcBg someBg
      subst hv
      simp only [maxLen] at hmBg
      have IG := Lib.hid (Span.of hob)
      clear hob
      have l19 := hx.le
      replace BK := Lib.hid (BK.out.ext hx)
      replace RX := Lib.hid (RX.out.ext hx)
      replace GA := Lib.hid (GA.out.ext hx)
      replace IA := Lib.hid (IA.out.ext hx)
      replace GB := Lib.hid (GB.out.ext hx)
      replace IB := Lib.hid (IB.out.ext hx)
      replace GC := Lib.hid (GC.out.ext hx)
      replace IC := Lib.hid (IC.out.ext hx)
      replace GD := Lib.hid (GD.out.ext hx)
      replace ID := Lib.hid (ID.out.ext hx)
      replace GW := Lib.hid (GW.out.ext hx)
      replace IW := Lib.hid (IW.out.ext hx)
      replace R2 := Lib.hid (R2.out.ext hx)
      replace Y := Lib.hid (Y.out.trans hx)
      replace Y0 := Lib.hid (Y0.out.trans hx)
      clear hx
      go_wp2_with fail
      refine wp_region_mix (fun i => [0, 0, 3, 1, 1, 3, 3, 3, 3, 3, 3, 3].getD i 0) (fun w' => Ext w19 w') hmo (by kernel_rfl) (by kernel_rfl) ((Ext.refl _).drewN 1) ?_
      have xd : Ext w19 (World.drew w19) := (Ext.refl _).drewN 1
      have b0 : ∀ w', Ext w19 w' → w'.cell? ⟨w.heap.size, 0, none⟩ = some (Value.int .i64 kx) := fun w' h => (BK.out.ext h).cell 0
      refine mix_still (.pointer (some ⟨w.heap.size, 0, none⟩)) rfl (fun w' hw' => by go_simp) ?_
      refine mix_still (Value.int .i64 kx) rfl (fun w' hw' => by have := b0 w' hw'; go_simp) ?_
      refine mix_pure (.slice (some ⟨Gi, 0, none⟩) nx ci) rfl (fun w' => by go_simp) ?_
      refine mix_call 72 #[.slice (some ⟨Gi, 0, none⟩) nx ci] rfl (by go_simp) ?_
      refine (copied_n (some ⟨Gi, 0, none⟩) nx ci rs2 _ N2.out (R2.out.ext xd) (by omega) (fun r hr => by have := B2.out r hr; omega)).mono ?_
      rintro e w20 ⟨v, rfl, hro, hx1⟩
      have x1 := xd.trans hx1
      have l20 := x1.le
      obtain ⟨Aq, cq, hv, hrq, hcq, -⟩ := hro.rd
      rw [N2.out] at hv hcq
      subst hv
      refine ⟨_, rfl, x1, ?_⟩
      refine mix_call 68 #[Value.int .i64 kx, .slice Aq nx cq] rfl (by go_simp) ?_
      refine (mendR_n kx Aq nx cq rs2 _ N2.out hrq hkx (by omega) (fun r hr => by have := B2.out r hr; omega)).mono ?_
      rintro e w21 ⟨va, vb, out_, bad_, ee_, rfl, hsp, hoa, hob, hx2⟩
      have hx := x1.trans hx2
      refine ⟨_, rfl, hx, ?_⟩
      refine mix_pure (.tuple #[va, vb, .int .i64 ee_]) rfl (fun w' => by go_simp) ?_
      refine mix_pure (va) rfl (fun w' => by go_simp) ?_
      refine mix_pure (vb) rfl (fun w' => by go_simp) ?_
      refine mix_pure (.int .i64 ee_) rfl (fun w' => by go_simp) ?_
      refine mix_pure (va) rfl (fun w' => by go_simp) ?_
      refine mix_pure (vb) rfl (fun w' => by go_simp) ?_
      refine mix_pure (.int .i64 ee_) rfl (fun w' => by go_simp) ?_
      refine mix_nil ?_
      clear b0 xd hx1 x1 hrq hro hx2
      obtain ⟨rfl, rfl, rfl⟩ := SPG.out.uniq hsp
      clear hsp
      obtain ⟨Vp, hg⟩ := Grp.of hoa
      obtain ⟨Ap, cp, hv, hcAp, hmAp, someAp⟩ := hg.open_
      subst hv
      simp only [maxLen] at hmAp
      have GP := Lib.hid hg
      clear hg hoa
      obtain ⟨Bp, dp, hv, -, hcBp, hmBp, someBp⟩ := hob.opened
      rw [ints_length] at hv hcBp someBp
      subst hv
      simp only [maxLen] at hmBp
      have IP := Lib.hid (Span.of hob)
      clear hob
      have l21 := hx.le
      replace BK := Lib.hid (BK.out.ext hx)
      replace RX := Lib.hid (RX.out.ext hx)
      replace GA := Lib.hid (GA.out.ext hx)
      replace IA := Lib.hid (IA.out.ext hx)
      replace GB := Lib.hid (GB.out.ext hx)
      replace IB := Lib.hid (IB.out.ext hx)
      replace GC := Lib.hid (GC.out.ext hx)
      replace IC := Lib.hid (IC.out.ext hx)
      replace GD := Lib.hid (GD.out.ext hx)
      replace ID := Lib.hid (ID.out.ext hx)
      replace GW := Lib.hid (GW.out.ext hx)
      replace IW := Lib.hid (IW.out.ext hx)
      replace R2 := Lib.hid (R2.out.ext hx)
      replace GG := Lib.hid (GG.out.ext hx)
      replace IG := Lib.hid (IG.out.ext hx)
      replace Y := Lib.hid (Y.out.trans hx)
      replace Y0 := Lib.hid (Y0.out.trans hx)
      clear hx
      go_wp2_with fail
      refine (sameRows_n Ag Ap _ _ cg cp outg _ rfl rfl GG.out.rd GP.out.rd (by omega) (fun r hr => by have := Foutg.out r hr; omega)).mono ?_
      rintro e w22 ⟨rfl, hx⟩
      have l22 := hx.le
      replace BK := Lib.hid (BK.out.ext hx)
      replace RX := Lib.hid (RX.out.ext hx)
      replace GA := Lib.hid (GA.out.ext hx)
      replace IA := Lib.hid (IA.out.ext hx)
      replace GB := Lib.hid (GB.out.ext hx)
      replace IB := Lib.hid (IB.out.ext hx)
      replace GC := Lib.hid (GC.out.ext hx)
      replace IC := Lib.hid (IC.out.ext hx)
      replace GD := Lib.hid (GD.out.ext hx)
      replace ID := Lib.hid (ID.out.ext hx)
      replace GW := Lib.hid (GW.out.ext hx)
      replace IW := Lib.hid (IW.out.ext hx)
      replace R2 := Lib.hid (R2.out.ext hx)
      replace GG := Lib.hid (GG.out.ext hx)
      replace IG := Lib.hid (IG.out.ext hx)
      replace GP := Lib.hid (GP.out.ext hx)
      replace IP := Lib.hid (IP.out.ext hx)
      replace Y := Lib.hid (Y.out.trans hx)
      replace Y0 := Lib.hid (Y0.out.trans hx)
      clear hx
      clear GG GP IG IP R2 N2 B2 SPG
      have PL : Hid (PileV w22 w2.heap.size w6.heap.size 24 [Value.slice Aa out.length ca, Value.slice Ab out.length cb, Value.slice Ac outy.length cc, Value.slice Ad out.length cd] [Va, Vb, Vc, Vd]) := Lib.hid ((((PileV.one GA.out.list).snoc GB.out.list (m' := w3.heap.size) (by omega) (by omega) (by omega)).snoc GC.out.list (m' := w4.heap.size) (by omega) (by omega) (by omega)).snoc GD.out.list (m' := w5.heap.size) (by omega) (by omega) (by omega))
      have PR0 : PileV w22 w2.heap.size w6.heap.size 5 (Va ++ (Vb ++ (Vc ++ Vd))) (out.map bs ++ (out.map bs ++ (outy.map bs ++ out.map bs))) := (GA.out.rows).append ((GB.out.rows).append ((GC.out.rows).append (GD.out.rows) (by omega) (by omega) (by omega)) (by omega) (by omega) (by omega)) (by omega) (by omega) (by omega)
      have PR : Hid (PileV w22 w2.heap.size w6.heap.size 5 [Va, Vb, Vc, Vd].flatten ((out ++ (out ++ (outy ++ out))).map bs)) := Lib.hid (by simpa using PR0)
      clear PR0
      have RLEN : Hid (∀ i, ((out ++ (out ++ (outy ++ out))).getD i []).length ≤ 1048576) := Lib.hid (getR_len (fun r hr => by
        simp only [List.mem_append] at hr
        rcases hr with h | h | h | h
        · exact Fout.out r h
        · exact Fout.out r h
        · exact Fouty.out r h
        · exact Fout.out r h))
      have VLEN : Hid (∀ x ∈ [Va, Vb, Vc, Vd], x.length ≤ 255) := Lib.hid (by simp [GA.out.len, GB.out.len, GC.out.len, GD.out.len]; omega)
      go_wp2_with fail
      have hall : Hid (Own (w22.alloc (.cells #[Value.slice Aa out.length ca, Value.slice Ab out.length cb, Value.slice Ac outy.length cc, Value.slice Ad out.length cd] 77)) w22.heap.size 77 (.slice (some ⟨w22.heap.size, 0, none⟩) 4 4) [Value.slice Aa out.length ca, Value.slice Ab out.length cb, Value.slice Ac outy.length cc, Value.slice Ad out.length cd]) := Lib.hid ((Blk.new w22 77 #[Value.slice Aa out.length ca, Value.slice Ab out.length cb, Value.slice Ac outy.length cc, Value.slice Ad out.length cd]).own (Nat.le_refl _) (Nat.le_refl _) (by decide) rfl)
      have hxa : Ext w22 (w22.alloc (.cells #[Value.slice Aa out.length ca, Value.slice Ab out.length cb, Value.slice Ac outy.length cc, Value.slice Ad out.length cd] 77)) := (Ext.refl _).alloc _
      have PV := Lib.hid ((PL.out.ext hxa).vs)
      have PO : Hid (OwnRows (w22.alloc (.cells #[Value.slice Aa out.length ca, Value.slice Ab out.length cb, Value.slice Ac outy.length cc, Value.slice Ad out.length cd] 77)) w2.heap.size 5 [Va, Vb, Vc, Vd].flatten (fun i => (out ++ (out ++ (outy ++ out))).getD i [])) := Lib.hid ⟨fun i u hi => by rw [← getD_bs]; exact (PR.out.ext hxa).rows i u hi⟩
      refine (apartRows_n w22.heap.size 4 4 [Value.slice Aa out.length ca, Value.slice Ab out.length cb, Value.slice Ac outy.length cc, Value.slice Ad out.length cd] [Va, Vb, Vc, Vd] (fun i => (out ++ (out ++ (outy ++ out))).getD i []) w2.heap.size w22.heap.size _ rfl hall.out PV.out rfl PL.out.far PO.out PR.out.far (by omega) (by omega) VLEN.out RLEN.out (by simp; omega)).mono ?_
      rintro e w23 ⟨rfl, ht⟩
      have l23 : w22.heap.size ≤ w23.heap.size := by have := ht.size; simp at this; omega
      have hin : ∀ k, (InRows [Value.slice Aa out.length ca, Value.slice Ab out.length cb, Value.slice Ac outy.length cc, Value.slice Ad out.length cd] k ∨ InRows [Va, Vb, Vc, Vd].flatten k) → w2.heap.size ≤ k ∧ k < w6.heap.size := fun k h => h.elim (fun h => PL.out.within h) (fun h => PR.out.within h)
      have HIN := Lib.hid hin
      clear hin
      replace GW := Lib.hid ((GW.out.ext hxa).touch ht fun k h1 h2 h => by have := HIN.out k h; omega)
      replace IW := Lib.hid ((IW.out.ext hxa).touch ht fun k h1 h2 h => by have := HIN.out k h; omega)
      replace IA := Lib.hid ((IA.out.ext hxa).apart2 PV.out PO.out (by decide) (by decide) ht)
      replace IB := Lib.hid ((IB.out.ext hxa).apart2 PV.out PO.out (by decide) (by decide) ht)
      replace IC := Lib.hid ((IC.out.ext hxa).apart2 PV.out PO.out (by decide) (by decide) ht)
      replace ID := Lib.hid ((ID.out.ext hxa).apart2 PV.out PO.out (by decide) (by decide) ht)
      replace BK := Lib.hid ((BK.out.ext hxa).touch ht fun h => by have := HIN.out _ h; omega)
      replace RX := Lib.hid (RX0.out.over (Y0.out.trans hxa) ht fun k h1 h => by have := HIN.out k h; omega)
      replace Y := Lib.hid ((Y.out.trans hxa).touched ht fun k h => by have := HIN.out k h; omega)
      replace Y0 := Lib.hid ((Y0.out.trans hxa).touched ht fun k h => by have := HIN.out k h; omega)
      clear ht hxa HIN PL PR PV PO hall RLEN VLEN GA GB GC GD
      have PP : Hid (PileV w23 w2.heap.size w6.heap.size 3 [Value.slice Ba bad.length da, Value.slice Bb bad.length db, Value.slice Bc bady.length dc, Value.slice Bd bad.length dd] [ints bad, ints bad, ints bady, ints bad]) := Lib.hid ((((PileV.one IA.out).snoc IB.out (m' := w3.heap.size) (by omega) (by omega) (by omega)).snoc IC.out (m' := w4.heap.size) (by omega) (by omega) (by omega)).snoc ID.out (m' := w5.heap.size) (by omega) (by omega) (by omega))
      have HLEN : Hid (∀ i, (([ints bad, ints bad, ints bady, ints bad] : List (List Value)).getD i []).length ≤ 1000000000) := Lib.hid (getDV_len (by simp [ints_length]; omega))
      go_wp2_with fail
      have hall : Hid (Own (w23.alloc (.cells #[Value.slice Ba bad.length da, Value.slice Bb bad.length db, Value.slice Bc bady.length dc, Value.slice Bd bad.length dd] 70)) w23.heap.size 70 (.slice (some ⟨w23.heap.size, 0, none⟩) 4 4) [Value.slice Ba bad.length da, Value.slice Bb bad.length db, Value.slice Bc bady.length dc, Value.slice Bd bad.length dd]) := Lib.hid ((Blk.new w23 70 #[Value.slice Ba bad.length da, Value.slice Bb bad.length db, Value.slice Bc bady.length dc, Value.slice Bd bad.length dd]).own (Nat.le_refl _) (Nat.le_refl _) (by decide) rfl)
      have hxa : Ext w23 (w23.alloc (.cells #[Value.slice Ba bad.length da, Value.slice Bb bad.length db, Value.slice Bc bady.length dc, Value.slice Bd bad.length dd] 70)) := (Ext.refl _).alloc _
      have PV := Lib.hid ((PP.out.ext hxa).vs)
      refine (apartInts_n w23.heap.size 4 4 [Value.slice Ba bad.length da, Value.slice Bb bad.length db, Value.slice Bc bady.length dc, Value.slice Bd bad.length dd] (fun i => ([ints bad, ints bad, ints bady, ints bad] : List (List Value)).getD i []) w2.heap.size w23.heap.size _ rfl hall.out PV.out PP.out.far (by omega) HLEN.out (by simp; omega) (by omega)).mono ?_
      rintro e w24 ⟨rfl, ht⟩
      have l24 : w23.heap.size ≤ w24.heap.size := by have := ht.size; simp at this; omega
      have hin : ∀ k, InRows [Value.slice Ba bad.length da, Value.slice Bb bad.length db, Value.slice Bc bady.length dc, Value.slice Bd bad.length dd] k → w2.heap.size ≤ k ∧ k < w6.heap.size := fun k h => PP.out.within h
      have HIN := Lib.hid hin
      clear hin
      replace GW := Lib.hid ((GW.out.ext hxa).touch ht fun k h1 h2 h => by have := HIN.out k h; omega)
      replace IW := Lib.hid ((IW.out.ext hxa).touch ht fun k h1 h2 h => by have := HIN.out k h; omega)
      replace BK := Lib.hid ((BK.out.ext hxa).touch ht fun h => by have := HIN.out _ h; omega)
      replace RX := Lib.hid (RX0.out.over (Y0.out.trans hxa) ht fun k h1 h => by have := HIN.out k h; omega)
      replace Y := Lib.hid ((Y.out.trans hxa).touched ht fun k h => by have := HIN.out k h; omega)
      replace Y0 := Lib.hid ((Y0.out.trans hxa).touched ht fun k h => by have := HIN.out k h; omega)
      clear ht hxa HIN PP PV HLEN hall IA IB IC ID
      have q0 : World.cell? w24 ⟨w.heap.size, 0, none⟩ = some (Value.int .i64 kx) := BK.out.cell 0
      have q1 : World.cell? w24 ⟨w.heap.size, 1, none⟩ = some (Value.slice Ax nx cx) := BK.out.cell 1
      go_wp2_with fail
      clear q0 q1
      refine (mendR_n kx Ax nx cx xs _ NX.out RX.out hkx (by omega) (fun r hr => by have := BX.out r hr; omega)).mono ?_
      rintro e w25 ⟨va, vb, out_, bad_, ee_, rfl, hsp, hoa, hob, hx⟩
      obtain ⟨rfl, rfl, rfl⟩ := SPX.out.uniq hsp
      clear hsp
      obtain ⟨Vs_, hg⟩ := Grp.of hoa
      obtain ⟨As, cs, hv, hcAs, hmAs, someAs⟩ := hg.open_
      subst hv
      simp only [maxLen] at hmAs
      have GS := Lib.hid hg
      clear hg hoa
      obtain ⟨Bs, ds, hv, -, hcBs, hmBs, someBs⟩ := hob.opened
      rw [ints_length] at hv hcBs someBs
      subst hv
      simp only [maxLen] at hmBs
      have IS := Lib.hid (Span.of hob)
      clear hob
      have l25 := hx.le
      replace BK := Lib.hid (BK.out.ext hx)
      replace RX := Lib.hid (RX.out.ext hx)
      replace GW := Lib.hid (GW.out.ext hx)
      replace IW := Lib.hid (IW.out.ext hx)
      replace Y := Lib.hid (Y.out.trans hx)
      replace Y0 := Lib.hid (Y0.out.trans hx)
      clear hx
      go_wp2_with fail
      refine (sameRows_n As Aw _ _ cs cw out _ rfl rfl GS.out.rd GW.out.rd (by omega) (fun r hr => by have := Fout.out r hr; omega)).mono ?_
      rintro e w26 ⟨rfl, hx⟩
      have l26 := hx.le
      replace BK := Lib.hid (BK.out.ext hx)
      replace RX := Lib.hid (RX.out.ext hx)
      replace GW := Lib.hid (GW.out.ext hx)
      replace IW := Lib.hid (IW.out.ext hx)
      replace GS := Lib.hid (GS.out.ext hx)
      replace IS := Lib.hid (IS.out.ext hx)
      replace Y := Lib.hid (Y.out.trans hx)
      replace Y0 := Lib.hid (Y0.out.trans hx)
      clear hx
      go_wp2_with fail
      refine (sameInts_n Bs Bw _ _ bad ds dw _ rfl rfl IS.out.rd IW.out.rd (by omega) Fbad.out).mono ?_
      rintro e w27 ⟨rfl, hx⟩
      have l27 := hx.le
      replace BK := Lib.hid (BK.out.ext hx)
      replace RX := Lib.hid (RX.out.ext hx)
      replace GW := Lib.hid (GW.out.ext hx)
      replace IW := Lib.hid (IW.out.ext hx)
      replace GS := Lib.hid (GS.out.ext hx)
      replace IS := Lib.hid (IS.out.ext hx)
      replace Y := Lib.hid (Y.out.trans hx)
      replace Y0 := Lib.hid (Y0.out.trans hx)
      clear hx
      go_wp2_with fail
      go_ret
      exact ⟨rfl, Y.out⟩
end Go.Proofs.Ytemnlcfabaocbaa
