/-
  The law 'FieldMemory': for every input it returns true and leaves its arguments as they were. The frame is after the kit's shell; the walk is ours. No further condition.
-/
import Derived.Test.YtdimanoodfepiaaRows
import Derived.Test.YtdimanoodfepiaaMemPlain
import Derived.Test.YtdimanoodfepiaaOpen
import Derived.WalkKit
import Derived.ProofKit
import Derived.OpenShut
import Derived.ShutString
import Derived.ChangeOld
import Derived.Below
namespace Go.Proofs.Ytdimanoodfepiaa.fieldMemory
open Go.ChangeShapes Go.WideShapes Go.ChangeAt Go.RowKit
set_option linter.unusedVariables false
open Gf

theorem own : ownKnob Try.prog.godebug = none := by kernel_rfl
theorem laidOut : laidOutB Try.prog = true := by kernel_rfl

set_option maxRecDepth 20000 in
set_option maxHeartbeats 8000000 in
theorem walk (w : World) (A0 : Option Addr) (c0 : Nat) (x0 : List E) (hr0 : Rd w A0 (bs x0)) (hl0 : x0.length ≤ c0) (hc0 : c0 ≤ 140737488351232) (A1 : Option Addr) (c1 : Nat) (x1 : List E) (hr1 : Rd w A1 (bs x1)) (hl1 : x1.length ≤ c1) (hc1 : c1 ≤ 140737488351232) (A2 : Option Addr) (c2 : Nat) (x2 : List E) (hr2 : Rd w A2 (bs x2)) (hl2 : x2.length ≤ c2) (hc2 : c2 ≤ 140737488351232) (a3 : Int) (w3 : (Lit.int .u8 a3).wf = true) :
    Calls Try.prog 5 #[.slice A0 x0.length c0, .slice A1 x1.length c1, .slice A2 x2.length c2, .int .u8 a3] w fun e w' => e = .returned (.bool true) ∧ Below w.heap.size w w' := by
  obtain ⟨c, rfl⟩ := toE w3
  have hcl := c.lt
  have RD := Lib.hid hr2
  have RD0 := RD
  have Y := Lib.hid (Ext.refl w)
  go_enter Try.func5, Try.ntmps5
  go_wp2_with fail
  refine (even_len A0 A1 x0 x1 c0 c1 _ hr0 hr1 hl0 hl1 (by omega) (by omega) (by simp only [maxLen]; omega) (by simp only [maxLen]; omega)).mono ?_
  rintro e w_1 ⟨Ap, Aq, cp, cq, p, q, rfl, hqp, hpl, hcp, hcq, hmp, hmq, -, -, hp, hq, hx⟩
  simp only [maxLen] at hmp hmq
  have RP := Lib.hid hp
  have RQ := Lib.hid hq
  have RP0 := RP
  have RQ0 := RQ
  have HQ := hqp
  clear hp hq hqp hr0 hr1 hr2
  have hpb : p.length ≤ 140737488351232 := by omega
  have lw_1 := hx.le
  replace RD := Lib.hid (RD.out.ext hx)
  replace Y := Lib.hid (Y.out.trans hx)
  clear hx
  have Y1 := Lib.hid (Ext.refl w_1)
  have HSC := Lib.hid (show (p.map (· * c)).length = p.length from List.length_map _)
  have HSD := Lib.hid (show (x2.map (· * c)).length = x2.length from List.length_map _)
  have HAD := Lib.hid (show (addL p q).length = p.length by rw [addL]; simp; have := HQ.out; omega)
  go_wp2_with fail
  refine (refScale_n Ap _ p cp c _ rfl RP.out (by omega)).mono ?_
  rintro e w_2 ⟨v, rfl, ho, hx⟩
  obtain ⟨Aw, kw, rfl, ho', hcAw, hmAw⟩ := ho.bytesN HSC.out
  simp only [maxLen] at hmAw
  have ho2 := Slab.of ho'
  have W1 := Lib.hid ho2
  clear ho ho' ho2
  have lw_2 := hx.le
  replace RD := Lib.hid (RD.out.ext hx)
  replace RP := Lib.hid (RP.out.ext hx)
  replace RQ := Lib.hid (RQ.out.ext hx)
  replace Y := Lib.hid (Y.out.trans hx)
  replace Y1 := Lib.hid (Y1.out.trans hx)
  clear hx
  go_wp2_with fail
  refine (refSum_n Ap Aq _ _ p q cp cq _ rfl HQ.out RP.out RQ.out rfl (by omega)).mono ?_
  rintro e w_3 ⟨v, rfl, ho, hx⟩
  obtain ⟨Au, ku, rfl, ho', hcAu, hmAu⟩ := ho.bytesN HAD.out
  simp only [maxLen] at hmAu
  have ho2 := Slab.of ho'
  have W2 := Lib.hid ho2
  clear ho ho' ho2
  have lw_3 := hx.le
  replace RD := Lib.hid (RD.out.ext hx)
  replace RP := Lib.hid (RP.out.ext hx)
  replace RQ := Lib.hid (RQ.out.ext hx)
  replace W1 := Lib.hid (W1.out.ext hx)
  replace Y := Lib.hid (Y.out.trans hx)
  replace Y1 := Lib.hid (Y1.out.trans hx)
  clear hx
  go_wp2_with fail
  refine (refScale_n A2 _ x2 c2 c _ rfl RD.out (by omega)).mono ?_
  rintro e w_4 ⟨v, rfl, ho, hx⟩
  obtain ⟨Ao, ko, rfl, ho', hcAo, hmAo⟩ := ho.bytesN HSD.out
  simp only [maxLen] at hmAo
  have ho2 := Slab.of ho'
  have W3 := Lib.hid ho2
  clear ho ho' ho2
  have lw_4 := hx.le
  replace RD := Lib.hid (RD.out.ext hx)
  replace RP := Lib.hid (RP.out.ext hx)
  replace RQ := Lib.hid (RQ.out.ext hx)
  replace W1 := Lib.hid (W1.out.ext hx)
  replace W2 := Lib.hid (W2.out.ext hx)
  replace Y := Lib.hid (Y.out.trans hx)
  replace Y1 := Lib.hid (Y1.out.trans hx)
  clear hx
  go_wp2_with fail
  refine (scale_n Ap _ p cp c _ rfl RP.out (by omega)).mono ?_
  rintro e w_5 ⟨v, rfl, ho, hx⟩
  obtain ⟨As1, ks1, rfl, ho', hcAs1, hmAs1⟩ := ho.bytesN HSC.out
  simp only [maxLen] at hmAs1
  have ho2 := Slab.of ho'
  have S1 := Lib.hid ho2
  clear ho ho' ho2
  have lw_5 := hx.le
  replace RD := Lib.hid (RD.out.ext hx)
  replace RP := Lib.hid (RP.out.ext hx)
  replace RQ := Lib.hid (RQ.out.ext hx)
  replace W1 := Lib.hid (W1.out.ext hx)
  replace W2 := Lib.hid (W2.out.ext hx)
  replace W3 := Lib.hid (W3.out.ext hx)
  replace Y := Lib.hid (Y.out.trans hx)
  replace Y1 := Lib.hid (Y1.out.trans hx)
  clear hx
  go_wp2_with fail
  refine (scale_n Ap _ p cp c _ rfl RP.out (by omega)).mono ?_
  rintro e w_6 ⟨v, rfl, ho, hx⟩
  obtain ⟨As2, ks2, rfl, ho', hcAs2, hmAs2⟩ := ho.bytesN HSC.out
  simp only [maxLen] at hmAs2
  have ho2 := Slab.of ho'
  have S2 := Lib.hid ho2
  clear ho ho' ho2
  have lw_6 := hx.le
  replace RD := Lib.hid (RD.out.ext hx)
  replace RP := Lib.hid (RP.out.ext hx)
  replace RQ := Lib.hid (RQ.out.ext hx)
  replace W1 := Lib.hid (W1.out.ext hx)
  replace W2 := Lib.hid (W2.out.ext hx)
  replace W3 := Lib.hid (W3.out.ext hx)
  replace S1 := Lib.hid (S1.out.ext hx)
  replace Y := Lib.hid (Y.out.trans hx)
  replace Y1 := Lib.hid (Y1.out.trans hx)
  clear hx
  go_wp2_with fail
  refine (scale_n A2 _ x2 c2 c _ rfl RD.out (by omega)).mono ?_
  rintro e w_7 ⟨v, rfl, ho, hx⟩
  obtain ⟨As3, ks3, rfl, ho', hcAs3, hmAs3⟩ := ho.bytesN HSD.out
  simp only [maxLen] at hmAs3
  have ho2 := Slab.of ho'
  have S3 := Lib.hid ho2
  clear ho ho' ho2
  have lw_7 := hx.le
  replace RD := Lib.hid (RD.out.ext hx)
  replace RP := Lib.hid (RP.out.ext hx)
  replace RQ := Lib.hid (RQ.out.ext hx)
  replace W1 := Lib.hid (W1.out.ext hx)
  replace W2 := Lib.hid (W2.out.ext hx)
  replace W3 := Lib.hid (W3.out.ext hx)
  replace S1 := Lib.hid (S1.out.ext hx)
  replace S2 := Lib.hid (S2.out.ext hx)
  replace Y := Lib.hid (Y.out.trans hx)
  replace Y1 := Lib.hid (Y1.out.trans hx)
  clear hx
  go_wp2_with fail
  refine (sum_n Ap Aq _ _ p q cp cq _ rfl HQ.out RP.out RQ.out rfl (by omega)).mono ?_
  rintro e w_8 ⟨v, rfl, ho, hx⟩
  obtain ⟨As4, ks4, rfl, ho', hcAs4, hmAs4⟩ := ho.bytesN HAD.out
  simp only [maxLen] at hmAs4
  have ho2 := Slab.of ho'
  have S4 := Lib.hid ho2
  clear ho ho' ho2
  have lw_8 := hx.le
  replace RD := Lib.hid (RD.out.ext hx)
  replace RP := Lib.hid (RP.out.ext hx)
  replace RQ := Lib.hid (RQ.out.ext hx)
  replace W1 := Lib.hid (W1.out.ext hx)
  replace W2 := Lib.hid (W2.out.ext hx)
  replace W3 := Lib.hid (W3.out.ext hx)
  replace S1 := Lib.hid (S1.out.ext hx)
  replace S2 := Lib.hid (S2.out.ext hx)
  replace S3 := Lib.hid (S3.out.ext hx)
  replace Y := Lib.hid (Y.out.trans hx)
  replace Y1 := Lib.hid (Y1.out.trans hx)
  clear hx
  go_wp2_with fail
  refine (sum_n Ap Aq _ _ p q cp cq _ rfl HQ.out RP.out RQ.out rfl (by omega)).mono ?_
  rintro e w_9 ⟨v, rfl, ho, hx⟩
  obtain ⟨As5, ks5, rfl, ho', hcAs5, hmAs5⟩ := ho.bytesN HAD.out
  simp only [maxLen] at hmAs5
  have ho2 := Slab.of ho'
  have S5 := Lib.hid ho2
  clear ho ho' ho2
  have lw_9 := hx.le
  replace RD := Lib.hid (RD.out.ext hx)
  replace RP := Lib.hid (RP.out.ext hx)
  replace RQ := Lib.hid (RQ.out.ext hx)
  replace W1 := Lib.hid (W1.out.ext hx)
  replace W2 := Lib.hid (W2.out.ext hx)
  replace W3 := Lib.hid (W3.out.ext hx)
  replace S1 := Lib.hid (S1.out.ext hx)
  replace S2 := Lib.hid (S2.out.ext hx)
  replace S3 := Lib.hid (S3.out.ext hx)
  replace S4 := Lib.hid (S4.out.ext hx)
  replace Y := Lib.hid (Y.out.trans hx)
  replace Y1 := Lib.hid (Y1.out.trans hx)
  clear hx
  go_wp2_with fail
  refine (scale_n Ap _ p cp c _ rfl RP.out (by omega)).mono ?_
  rintro e w_10 ⟨v, rfl, ho, hx⟩
  obtain ⟨As6, ks6, rfl, ho', hcAs6, hmAs6⟩ := ho.bytesN HSC.out
  simp only [maxLen] at hmAs6
  have ho2 := Slab.of ho'
  have S6 := Lib.hid ho2
  clear ho ho' ho2
  have lw_10 := hx.le
  replace RD := Lib.hid (RD.out.ext hx)
  replace RP := Lib.hid (RP.out.ext hx)
  replace RQ := Lib.hid (RQ.out.ext hx)
  replace W1 := Lib.hid (W1.out.ext hx)
  replace W2 := Lib.hid (W2.out.ext hx)
  replace W3 := Lib.hid (W3.out.ext hx)
  replace S1 := Lib.hid (S1.out.ext hx)
  replace S2 := Lib.hid (S2.out.ext hx)
  replace S3 := Lib.hid (S3.out.ext hx)
  replace S4 := Lib.hid (S4.out.ext hx)
  replace S5 := Lib.hid (S5.out.ext hx)
  replace Y := Lib.hid (Y.out.trans hx)
  replace Y1 := Lib.hid (Y1.out.trans hx)
  clear hx
  go_wp2_with fail
  refine (same_n As1 Aw _ _ (p.map (· * c)) ks1 kw _ HSC.out HSC.out S1.out.own.rd W1.out.own.rd (by omega)).mono ?_
  rintro e w_11 ⟨rfl, hx⟩
  have lw_11 := hx.le
  replace RD := Lib.hid (RD.out.ext hx)
  replace RP := Lib.hid (RP.out.ext hx)
  replace RQ := Lib.hid (RQ.out.ext hx)
  replace W1 := Lib.hid (W1.out.ext hx)
  replace W2 := Lib.hid (W2.out.ext hx)
  replace W3 := Lib.hid (W3.out.ext hx)
  replace S1 := Lib.hid (S1.out.ext hx)
  replace S2 := Lib.hid (S2.out.ext hx)
  replace S3 := Lib.hid (S3.out.ext hx)
  replace S4 := Lib.hid (S4.out.ext hx)
  replace S5 := Lib.hid (S5.out.ext hx)
  replace S6 := Lib.hid (S6.out.ext hx)
  replace Y := Lib.hid (Y.out.trans hx)
  replace Y1 := Lib.hid (Y1.out.trans hx)
  clear hx
  go_wp2_with fail
  refine (same_n As2 Aw _ _ (p.map (· * c)) ks2 kw _ HSC.out HSC.out S2.out.own.rd W1.out.own.rd (by omega)).mono ?_
  rintro e w_12 ⟨rfl, hx⟩
  have lw_12 := hx.le
  replace RD := Lib.hid (RD.out.ext hx)
  replace RP := Lib.hid (RP.out.ext hx)
  replace RQ := Lib.hid (RQ.out.ext hx)
  replace W1 := Lib.hid (W1.out.ext hx)
  replace W2 := Lib.hid (W2.out.ext hx)
  replace W3 := Lib.hid (W3.out.ext hx)
  replace S1 := Lib.hid (S1.out.ext hx)
  replace S2 := Lib.hid (S2.out.ext hx)
  replace S3 := Lib.hid (S3.out.ext hx)
  replace S4 := Lib.hid (S4.out.ext hx)
  replace S5 := Lib.hid (S5.out.ext hx)
  replace S6 := Lib.hid (S6.out.ext hx)
  replace Y := Lib.hid (Y.out.trans hx)
  replace Y1 := Lib.hid (Y1.out.trans hx)
  clear hx
  go_wp2_with fail
  refine (same_n As3 Ao _ _ (x2.map (· * c)) ks3 ko _ HSD.out HSD.out S3.out.own.rd W3.out.own.rd (by omega)).mono ?_
  rintro e w_13 ⟨rfl, hx⟩
  have lw_13 := hx.le
  replace RD := Lib.hid (RD.out.ext hx)
  replace RP := Lib.hid (RP.out.ext hx)
  replace RQ := Lib.hid (RQ.out.ext hx)
  replace W1 := Lib.hid (W1.out.ext hx)
  replace W2 := Lib.hid (W2.out.ext hx)
  replace W3 := Lib.hid (W3.out.ext hx)
  replace S1 := Lib.hid (S1.out.ext hx)
  replace S2 := Lib.hid (S2.out.ext hx)
  replace S3 := Lib.hid (S3.out.ext hx)
  replace S4 := Lib.hid (S4.out.ext hx)
  replace S5 := Lib.hid (S5.out.ext hx)
  replace S6 := Lib.hid (S6.out.ext hx)
  replace Y := Lib.hid (Y.out.trans hx)
  replace Y1 := Lib.hid (Y1.out.trans hx)
  clear hx
  go_wp2_with fail
  refine (same_n As4 Au _ _ (addL p q) ks4 ku _ HAD.out HAD.out S4.out.own.rd W2.out.own.rd (by omega)).mono ?_
  rintro e w_14 ⟨rfl, hx⟩
  have lw_14 := hx.le
  replace RD := Lib.hid (RD.out.ext hx)
  replace RP := Lib.hid (RP.out.ext hx)
  replace RQ := Lib.hid (RQ.out.ext hx)
  replace W1 := Lib.hid (W1.out.ext hx)
  replace W2 := Lib.hid (W2.out.ext hx)
  replace W3 := Lib.hid (W3.out.ext hx)
  replace S1 := Lib.hid (S1.out.ext hx)
  replace S2 := Lib.hid (S2.out.ext hx)
  replace S3 := Lib.hid (S3.out.ext hx)
  replace S4 := Lib.hid (S4.out.ext hx)
  replace S5 := Lib.hid (S5.out.ext hx)
  replace S6 := Lib.hid (S6.out.ext hx)
  replace Y := Lib.hid (Y.out.trans hx)
  replace Y1 := Lib.hid (Y1.out.trans hx)
  clear hx
  go_wp2_with fail
  refine (same_n As5 Au _ _ (addL p q) ks5 ku _ HAD.out HAD.out S5.out.own.rd W2.out.own.rd (by omega)).mono ?_
  rintro e w_15 ⟨rfl, hx⟩
  have lw_15 := hx.le
  replace RD := Lib.hid (RD.out.ext hx)
  replace RP := Lib.hid (RP.out.ext hx)
  replace RQ := Lib.hid (RQ.out.ext hx)
  replace W1 := Lib.hid (W1.out.ext hx)
  replace W2 := Lib.hid (W2.out.ext hx)
  replace W3 := Lib.hid (W3.out.ext hx)
  replace S1 := Lib.hid (S1.out.ext hx)
  replace S2 := Lib.hid (S2.out.ext hx)
  replace S3 := Lib.hid (S3.out.ext hx)
  replace S4 := Lib.hid (S4.out.ext hx)
  replace S5 := Lib.hid (S5.out.ext hx)
  replace S6 := Lib.hid (S6.out.ext hx)
  replace Y := Lib.hid (Y.out.trans hx)
  replace Y1 := Lib.hid (Y1.out.trans hx)
  clear hx
  go_wp2_with fail
  refine (same_n As6 Aw _ _ (p.map (· * c)) ks6 kw _ HSC.out HSC.out S6.out.own.rd W1.out.own.rd (by omega)).mono ?_
  rintro e w_16 ⟨rfl, hx⟩
  have lw_16 := hx.le
  replace RD := Lib.hid (RD.out.ext hx)
  replace RP := Lib.hid (RP.out.ext hx)
  replace RQ := Lib.hid (RQ.out.ext hx)
  replace W1 := Lib.hid (W1.out.ext hx)
  replace W2 := Lib.hid (W2.out.ext hx)
  replace W3 := Lib.hid (W3.out.ext hx)
  replace S1 := Lib.hid (S1.out.ext hx)
  replace S2 := Lib.hid (S2.out.ext hx)
  replace S3 := Lib.hid (S3.out.ext hx)
  replace S4 := Lib.hid (S4.out.ext hx)
  replace S5 := Lib.hid (S5.out.ext hx)
  replace S6 := Lib.hid (S6.out.ext hx)
  replace Y := Lib.hid (Y.out.trans hx)
  replace Y1 := Lib.hid (Y1.out.trans hx)
  clear hx
  have hbd : (([] : List Value).length + p.length) * 1 ≤ 140737488355328 := by simp; omega
  go_wp2_with (at_builtin; refine wpList_app w_16 eltU8 rfl _ _ (by rfl) w_16.heap.size (.slice none 0 0) [] (by rfl) (Own.nil _ _ _) Ap p.length cp (bs p) (by rfl) RP.out (bs_length _) (bs_ones _) hbd (Nat.le_refl _) ?_)
  intro v w_17 ho hmv
  have hx : Ext w_16 w_17 := hmv.below (Nat.le_refl _) fun g hg => by cases hg
  have ho1 : Own w_17 w_16.heap.size 5 v (bs p) := by simpa using ho
  obtain ⟨Am, km, rfl, ho', hcAm, hmAm⟩ := ho1.bytesN rfl
  simp only [maxLen] at hmAm
  have ho2 := Slab.of ho'
  have M1 := Lib.hid ho2
  clear ho ho1 ho' ho2 hmv hbd
  have lw_17 := hx.le
  replace RD := Lib.hid (RD.out.ext hx)
  replace RP := Lib.hid (RP.out.ext hx)
  replace RQ := Lib.hid (RQ.out.ext hx)
  replace W1 := Lib.hid (W1.out.ext hx)
  replace W2 := Lib.hid (W2.out.ext hx)
  replace W3 := Lib.hid (W3.out.ext hx)
  replace S1 := Lib.hid (S1.out.ext hx)
  replace S2 := Lib.hid (S2.out.ext hx)
  replace S3 := Lib.hid (S3.out.ext hx)
  replace S4 := Lib.hid (S4.out.ext hx)
  replace S5 := Lib.hid (S5.out.ext hx)
  replace S6 := Lib.hid (S6.out.ext hx)
  replace Y := Lib.hid (Y.out.trans hx)
  replace Y1 := Lib.hid (Y1.out.trans hx)
  clear hx
  have hbd : (([] : List Value).length + x2.length) * 1 ≤ 140737488355328 := by simp; omega
  go_wp2_with (at_builtin; refine wpList_app w_17 eltU8 rfl _ _ (by rfl) w_17.heap.size (.slice none 0 0) [] (by rfl) (Own.nil _ _ _) A2 x2.length c2 (bs x2) (by rfl) RD.out (bs_length _) (bs_ones _) hbd (Nat.le_refl _) ?_)
  intro v w_18 ho hmv
  have hx : Ext w_17 w_18 := hmv.below (Nat.le_refl _) fun g hg => by cases hg
  have ho1 : Own w_18 w_17.heap.size 5 v (bs x2) := by simpa using ho
  obtain ⟨An, kn, rfl, ho', hcAn, hmAn⟩ := ho1.bytesN rfl
  simp only [maxLen] at hmAn
  have ho2 := Slab.of ho'
  have M2 := Lib.hid ho2
  clear ho ho1 ho' ho2 hmv hbd
  have lw_18 := hx.le
  replace RD := Lib.hid (RD.out.ext hx)
  replace RP := Lib.hid (RP.out.ext hx)
  replace RQ := Lib.hid (RQ.out.ext hx)
  replace W1 := Lib.hid (W1.out.ext hx)
  replace W2 := Lib.hid (W2.out.ext hx)
  replace W3 := Lib.hid (W3.out.ext hx)
  replace S1 := Lib.hid (S1.out.ext hx)
  replace S2 := Lib.hid (S2.out.ext hx)
  replace S3 := Lib.hid (S3.out.ext hx)
  replace S4 := Lib.hid (S4.out.ext hx)
  replace S5 := Lib.hid (S5.out.ext hx)
  replace S6 := Lib.hid (S6.out.ext hx)
  replace M1 := Lib.hid (M1.out.ext hx)
  replace Y := Lib.hid (Y.out.trans hx)
  replace Y1 := Lib.hid (Y1.out.trans hx)
  clear hx
  obtain ⟨wz, hwz⟩ : ∃ wz, wz = w_18.alloc (.cells #[.slice As1 p.length ks1, .slice As2 p.length ks2, .slice As3 x2.length ks3, .slice As4 p.length ks4, .slice As5 p.length ks5, .slice As6 p.length ks6] 29) := ⟨_, rfl⟩
  have hx : Ext w_18 wz := by rw [hwz]; exact (Ext.refl _).alloc _
  have HBZ : Hid (Blk wz w_18.heap.size 29 #[.slice As1 p.length ks1, .slice As2 p.length ks2, .slice As3 x2.length ks3, .slice As4 p.length ks4, .slice As5 p.length ks5, .slice As6 p.length ks6]) := Lib.hid (by rw [hwz]; exact Blk.new _ _ _)
  have hzs : wz.heap.size = w_18.heap.size + 1 := by rw [hwz]; simp
  have HZS := Lib.hid hzs
  clear hzs
  have HWZ := Lib.hid hwz
  clear hwz
  have lwz := hx.le
  replace RD := Lib.hid (RD.out.ext hx)
  replace RP := Lib.hid (RP.out.ext hx)
  replace RQ := Lib.hid (RQ.out.ext hx)
  replace W1 := Lib.hid (W1.out.ext hx)
  replace W2 := Lib.hid (W2.out.ext hx)
  replace W3 := Lib.hid (W3.out.ext hx)
  replace S1 := Lib.hid (S1.out.ext hx)
  replace S2 := Lib.hid (S2.out.ext hx)
  replace S3 := Lib.hid (S3.out.ext hx)
  replace S4 := Lib.hid (S4.out.ext hx)
  replace S5 := Lib.hid (S5.out.ext hx)
  replace S6 := Lib.hid (S6.out.ext hx)
  replace M1 := Lib.hid (M1.out.ext hx)
  replace M2 := Lib.hid (M2.out.ext hx)
  replace Y := Lib.hid (Y.out.trans hx)
  replace Y1 := Lib.hid (Y1.out.trans hx)
  clear hx
  have hf6 := far6 S1.out S2.out S3.out S4.out S5.out S6.out (by omega) (by omega) (by omega) (by omega) (by omega) (by omega) (by omega) (by omega) (by omega) (by omega) (by omega)
  have HF := Lib.hid hf6.1
  have HI := Lib.hid hf6.2.1
  have HR6 := Lib.hid hf6.2.2
  clear hf6
  have HO6 := Lib.hid (HBZ.out.own (B := w_18.heap.size) (n := 6) (cap := 6) (Nat.le_refl _) (Nat.le_refl _) (by decide) rfl)
  go_wp2_with fail
  rw [← HWZ.out]
  refine (apart_n w_18.heap.size 6 6 [.slice As1 p.length ks1, .slice As2 p.length ks2, .slice As3 x2.length ks3, .slice As4 p.length ks4, .slice As5 p.length ks5, .slice As6 p.length ks6] (fun i => [p.map (· * c), p.map (· * c), x2.map (· * c), addL p q, addL p q, p.map (· * c)].getD i []) w_4.heap.size w_18.heap.size _ rfl HO6.out HR6.out HF.out (by omega) (fun i => ?_) (by omega) (by omega)).mono ?_
  · rw [List.getD_eq_getElem?_getD]
    match i with
    | 0 => have := HSC.out; exact Nat.le_trans (Nat.le_of_eq this) (by omega)
    | 1 => have := HSC.out; exact Nat.le_trans (Nat.le_of_eq this) (by omega)
    | 2 => have := HSD.out; exact Nat.le_trans (Nat.le_of_eq this) (by omega)
    | 3 => have := HAD.out; exact Nat.le_trans (Nat.le_of_eq this) (by omega)
    | 4 => have := HAD.out; exact Nat.le_trans (Nat.le_of_eq this) (by omega)
    | 5 => have := HSC.out; exact Nat.le_trans (Nat.le_of_eq this) (by omega)
    | i + 6 => simp
  rintro e w_19 ⟨rfl, ta⟩
  have lw_19 := ta.size
  replace W1 := Lib.hid (W1.out.touch ta fun k h1 h2 e => by have := HI.out k e; omega)
  replace W2 := Lib.hid (W2.out.touch ta fun k h1 h2 e => by have := HI.out k e; omega)
  replace W3 := Lib.hid (W3.out.touch ta fun k h1 h2 e => by have := HI.out k e; omega)
  replace M1 := Lib.hid (M1.out.touch ta fun k h1 h2 e => by have := HI.out k e; omega)
  replace M2 := Lib.hid (M2.out.touch ta fun k h1 h2 e => by have := HI.out k e; omega)
  replace RD := Lib.hid (RD0.out.over Y.out ta fun k h1 e => by have := HI.out k e; omega)
  replace RP := Lib.hid (RP0.out.over Y1.out ta fun k h1 e => by have := HI.out k e; omega)
  replace RQ := Lib.hid (RQ0.out.over Y1.out ta fun k h1 e => by have := HI.out k e; omega)
  replace Y := Lib.hid (Y.out.touched ta fun k e => by have := HI.out k e; omega)
  replace Y1 := Lib.hid (Y1.out.touched ta fun k e => by have := HI.out k e; omega)
  clear ta HF HI HR6 HO6 HBZ HWZ HZS S1 S2 S3 S4 S5 S6
  go_wp2_with fail
  refine (same_n Ap Am _ _ p cp km _ rfl rfl RP.out M1.out.own.rd (by omega)).mono ?_
  rintro e w_20 ⟨rfl, hx⟩
  have lw_20 := hx.le
  replace RD := Lib.hid (RD.out.ext hx)
  replace RP := Lib.hid (RP.out.ext hx)
  replace RQ := Lib.hid (RQ.out.ext hx)
  replace W1 := Lib.hid (W1.out.ext hx)
  replace W2 := Lib.hid (W2.out.ext hx)
  replace W3 := Lib.hid (W3.out.ext hx)
  replace M1 := Lib.hid (M1.out.ext hx)
  replace M2 := Lib.hid (M2.out.ext hx)
  replace Y := Lib.hid (Y.out.trans hx)
  replace Y1 := Lib.hid (Y1.out.trans hx)
  clear hx
  go_wp2_with fail
  refine (same_n A2 An _ _ x2 c2 kn _ rfl rfl RD.out M2.out.own.rd (by omega)).mono ?_
  rintro e w_21 ⟨rfl, hx⟩
  have lw_21 := hx.le
  replace RD := Lib.hid (RD.out.ext hx)
  replace RP := Lib.hid (RP.out.ext hx)
  replace RQ := Lib.hid (RQ.out.ext hx)
  replace W1 := Lib.hid (W1.out.ext hx)
  replace W2 := Lib.hid (W2.out.ext hx)
  replace W3 := Lib.hid (W3.out.ext hx)
  replace M1 := Lib.hid (M1.out.ext hx)
  replace M2 := Lib.hid (M2.out.ext hx)
  replace Y := Lib.hid (Y.out.trans hx)
  replace Y1 := Lib.hid (Y1.out.trans hx)
  clear hx
  go_wp2_with fail
  refine (sum_n Ap Aq _ _ p q cp cq _ rfl HQ.out RP.out RQ.out rfl (by omega)).mono ?_
  rintro e w_22 ⟨v, rfl, ho, hx⟩
  obtain ⟨At3, kt3, rfl, ho', hcAt3, hmAt3⟩ := ho.bytesN HAD.out
  simp only [maxLen] at hmAt3
  have ho2 := Slab.of ho'
  have T3 := Lib.hid ho2
  clear ho ho' ho2
  have lw_22 := hx.le
  replace RD := Lib.hid (RD.out.ext hx)
  replace RP := Lib.hid (RP.out.ext hx)
  replace RQ := Lib.hid (RQ.out.ext hx)
  replace W1 := Lib.hid (W1.out.ext hx)
  replace W2 := Lib.hid (W2.out.ext hx)
  replace W3 := Lib.hid (W3.out.ext hx)
  replace M1 := Lib.hid (M1.out.ext hx)
  replace M2 := Lib.hid (M2.out.ext hx)
  replace Y := Lib.hid (Y.out.trans hx)
  replace Y1 := Lib.hid (Y1.out.trans hx)
  clear hx
  go_wp2_with fail
  refine (scale_n Ap _ p cp c _ rfl RP.out (by omega)).mono ?_
  rintro e w_23 ⟨v, rfl, ho, hx⟩
  obtain ⟨At4, kt4, rfl, ho', hcAt4, hmAt4⟩ := ho.bytesN HSC.out
  simp only [maxLen] at hmAt4
  have ho2 := Slab.of ho'
  have T4 := Lib.hid ho2
  clear ho ho' ho2
  have lw_23 := hx.le
  replace RD := Lib.hid (RD.out.ext hx)
  replace RP := Lib.hid (RP.out.ext hx)
  replace RQ := Lib.hid (RQ.out.ext hx)
  replace W1 := Lib.hid (W1.out.ext hx)
  replace W2 := Lib.hid (W2.out.ext hx)
  replace W3 := Lib.hid (W3.out.ext hx)
  replace M1 := Lib.hid (M1.out.ext hx)
  replace M2 := Lib.hid (M2.out.ext hx)
  replace T3 := Lib.hid (T3.out.ext hx)
  replace Y := Lib.hid (Y.out.trans hx)
  replace Y1 := Lib.hid (Y1.out.trans hx)
  clear hx
  go_wp2_with fail
  refine (same_n At4 Aw _ _ (p.map (· * c)) kt4 kw _ HSC.out HSC.out T4.out.own.rd W1.out.own.rd (by omega)).mono ?_
  rintro e w_24 ⟨rfl, hx⟩
  have lw_24 := hx.le
  replace RD := Lib.hid (RD.out.ext hx)
  replace RP := Lib.hid (RP.out.ext hx)
  replace RQ := Lib.hid (RQ.out.ext hx)
  replace W1 := Lib.hid (W1.out.ext hx)
  replace W2 := Lib.hid (W2.out.ext hx)
  replace W3 := Lib.hid (W3.out.ext hx)
  replace M1 := Lib.hid (M1.out.ext hx)
  replace M2 := Lib.hid (M2.out.ext hx)
  replace T3 := Lib.hid (T3.out.ext hx)
  replace T4 := Lib.hid (T4.out.ext hx)
  replace Y := Lib.hid (Y.out.trans hx)
  replace Y1 := Lib.hid (Y1.out.trans hx)
  clear hx
  go_wp2_with fail
  refine (same_n At3 Au _ _ (addL p q) kt3 ku _ HAD.out HAD.out T3.out.own.rd W2.out.own.rd (by omega)).mono ?_
  rintro e w_25 ⟨rfl, hx⟩
  have lw_25 := hx.le
  replace RD := Lib.hid (RD.out.ext hx)
  replace RP := Lib.hid (RP.out.ext hx)
  replace RQ := Lib.hid (RQ.out.ext hx)
  replace W1 := Lib.hid (W1.out.ext hx)
  replace W2 := Lib.hid (W2.out.ext hx)
  replace W3 := Lib.hid (W3.out.ext hx)
  replace M1 := Lib.hid (M1.out.ext hx)
  replace M2 := Lib.hid (M2.out.ext hx)
  replace T3 := Lib.hid (T3.out.ext hx)
  replace T4 := Lib.hid (T4.out.ext hx)
  replace Y := Lib.hid (Y.out.trans hx)
  replace Y1 := Lib.hid (Y1.out.trans hx)
  clear hx
  go_wp2
  go_ret
  exact ⟨rfl, Y.out⟩

set_option maxRecDepth 100000 in
theorem lifted (os : Os) (started : os.Started) (H : Type) (enc : TypeId × Value → H) :
    ReturnsInHanded {} Try.checked os 5 .any (Rows.fieldMemorySpec.pre6 enc Try.prog Try.f5 Rows.fieldMemoryRow.domain false) (Rows.fieldMemorySpec.post enc Try.prog Try.f5 false true false false) := by
  refine returnsInHanded_of_change_sized (C := Try.checked) own started (by kernel_rfl) Try.func5
    (ChangeSpec.witness6 (enc := enc) (C := Try.checked) false ⟨#[], #[.slice none 0 0, .slice none 0 0, .slice none 0 0, .int .u8 0], []⟩ 8 (by kernel_rfl) (by kernel_rfl) (by kernel_rfl) (by kernel_rfl)) ?_
  intro W base args ds gs before hval0 hW hcnd hsz0 _
  have hval : ∀ (j : Nat) t v, Try.f5.params[j]? = some t → args[j]? = some v → Value.okWide Try.prog W .any base t v := hval0
  have hsz : (DataW.weightsEach Try.prog (Try.f5.params.toList ++ Rows.fieldMemorySpec.plain.varTypes Try.prog) (ds ++ gs)).all (· ≤ reachBytes) = true := hsz0
  have hW' := hW
  obtain ⟨p, q, hA0, hV, rfl, hfz, hnd⟩ := hW
  have hA : DataW.TrodAll enc Try.prog W 0 (fun _ => true) true Try.f5.params.toList args.toList ds p := hA0
  rw [Try.params5] at hA hval hsz
  obtain ⟨v0, vs0, d0, ds0, p0, q0, hargs, rfl, rfl, h0, r0⟩ := trodAll_cons hA
  obtain ⟨v1, vs1, d1, ds1, p1, q1, rfl, rfl, rfl, h1, r1⟩ := trodAll_cons r0
  obtain ⟨v2, vs2, d2, ds2, p2, q2, rfl, rfl, rfl, h2, r2⟩ := trodAll_cons r1
  obtain ⟨v3, vs3, d3, ds3, p3, q3, rfl, rfl, rfl, h3, r3⟩ := trodAll_cons r2
  obtain ⟨rfl, rfl, rfl⟩ := trodAll_nil r3
  obtain rfl : args = #[v0, v1, v2, v3] := by cases args; simp_all
  obtain ⟨rfl, rfl⟩ := trodVars_none hV
  have k0 := h0
  have lt0 : ∀ x ∈ p0, x.block < W.heap.size := by obtain ⟨m, hm⟩ := k0; exact DataW.trod_lt m _ _ _ hm
  obtain ⟨A0, c0, x0, rfl, hr0, hl0, hc0⟩ : ∃ (A : Option Addr) (cap : Nat) (xs : List E), v0 = .slice A xs.length cap ∧ Rd W A (bs xs) ∧ xs.length ≤ cap ∧ cap ≤ 140737488351232 := by
    obtain ⟨a, n, c, hv⟩ := okWide_slice Try.underlying29 (hval 0 29 v0 rfl rfl)
    obtain ⟨fuel, hf⟩ := h0
    exact open_bytes Try.underlying29 Try.underlying5 (by kernel_rfl) (by kernel_rfl) ⟨a, n, c, hv⟩ hf (weights_at hsz 0 rfl rfl)
  have k1 := h1
  have lt1 : ∀ x ∈ p1, x.block < W.heap.size := by obtain ⟨m, hm⟩ := k1; exact DataW.trod_lt m _ _ _ hm
  obtain ⟨A1, c1, x1, rfl, hr1, hl1, hc1⟩ : ∃ (A : Option Addr) (cap : Nat) (xs : List E), v1 = .slice A xs.length cap ∧ Rd W A (bs xs) ∧ xs.length ≤ cap ∧ cap ≤ 140737488351232 := by
    obtain ⟨a, n, c, hv⟩ := okWide_slice Try.underlying29 (hval 1 29 v1 rfl rfl)
    obtain ⟨fuel, hf⟩ := h1
    exact open_bytes Try.underlying29 Try.underlying5 (by kernel_rfl) (by kernel_rfl) ⟨a, n, c, hv⟩ hf (weights_at hsz 1 rfl rfl)
  have k2 := h2
  have lt2 : ∀ x ∈ p2, x.block < W.heap.size := by obtain ⟨m, hm⟩ := k2; exact DataW.trod_lt m _ _ _ hm
  obtain ⟨A2, c2, x2, rfl, hr2, hl2, hc2⟩ : ∃ (A : Option Addr) (cap : Nat) (xs : List E), v2 = .slice A xs.length cap ∧ Rd W A (bs xs) ∧ xs.length ≤ cap ∧ cap ≤ 140737488351232 := by
    obtain ⟨a, n, c, hv⟩ := okWide_slice Try.underlying29 (hval 2 29 v2 rfl rfl)
    obtain ⟨fuel, hf⟩ := h2
    exact open_bytes Try.underlying29 Try.underlying5 (by kernel_rfl) (by kernel_rfl) ⟨a, n, c, hv⟩ hf (weights_at hsz 2 rfl rfl)
  obtain ⟨a3, rfl, rfl, rfl, w3⟩ := open_int Try.underlying5 (hval 3 5 v3 rfl rfl) h3
  clear hA0 hval0
  refine (walk W A0 c0 x0 hr0 hl0 hc0 A1 c1 x1 hr1 hl1 hc1 A2 c2 x2 hr2 hl2 hc2 a3 w3).mono fun e W' ⟨he, bel⟩ => ?_
  subst he
  exact ⟨_, rfl, _, _, _, [], _, [], hW', trodAll_mk1 (shut_bool Try.underlying4 _), (trodAll_cons_mk (Below.trod laidOut (by kernel_rfl) (of_decide_eq_true (by kernel_rfl)) k0 bel lt0) (trodAll_cons_mk (Below.trod laidOut (by kernel_rfl) (of_decide_eq_true (by kernel_rfl)) k1 bel lt1) (trodAll_cons_mk (Below.trod laidOut (by kernel_rfl) (of_decide_eq_true (by kernel_rfl)) k2 bel lt2) (trodAll_cons_mk (shut_int Try.underlying5 w3) trodAll_mk0)))), rfl, bel.frame _, fun h => by cases h⟩

theorem over : Rows.fieldMemoryRow.holds Try.pinned (OpenSpec.ofChange Rows.fieldMemorySpec) :=
  OpenClaim.holds_of_wide 5 Try.f5 rfl rfl rfl rfl rfl rfl rfl ⟨rfl, rfl, rfl, rfl, rfl⟩ rfl rfl rfl rfl rfl (by kernel_rfl) Try.func5 (by kernel_rfl)
    (of_decide_eq_true (by kernel_rfl)) (by unfold Func.isWrapper; first | (rw [if_pos (by decide +kernel)]; kernel_rfl) | (rw [if_neg (by decide +kernel)]; exact ⟨rfl, rfl⟩))
    (fun os started H enc _ => lifted os started H enc)

theorem proved : Rows.FieldMemorySaid := over
#print axioms proved
end Go.Proofs.Ytdimanoodfepiaa.fieldMemory
