/-
  The law 'PolyTrims': for every input it returns true and leaves its arguments as they were. The frame is after the kit's shell; the walk is ours. No condition.
-/
import Derived.Test.YtemnlcfabaocbaaRows
import Derived.Test.YtemnlcfabaocbaaLaw2
import Derived.Test.YtemnlcfabaocbaaOpen
import Derived.WalkKit
import Derived.ProofKit
import Derived.OpenShut
import Derived.ShutString
import Derived.ChangeOld
import Derived.Below
namespace Go.Proofs.Ytemnlcfabaocbaa.polyTrims
open Go.ChangeShapes Go.WideShapes Go.ChangeAt Go.RowKit
set_option linter.unusedVariables false
open Gf

theorem own : ownKnob Try.prog.godebug = none := by kernel_rfl
theorem laidOut : laidOutB Try.prog = true := by kernel_rfl

set_option maxRecDepth 20000 in
set_option maxHeartbeats 2000000 in
theorem walk (w : World) (A0 : Option Addr) (c0 : Nat) (x0 : List E) (hr0 : Rd w A0 (bs x0)) (hl0 : x0.length ≤ c0) (hc0 : c0 ≤ 140737488351232) (a1 : Int) (w1 : (Lit.int .u8 a1).wf = true) :
    Calls Try.prog 5 #[.slice A0 x0.length c0, .int .u8 a1] w fun e w' => e = .returned (.bool true) ∧ Below w.heap.size w w' := by
  obtain ⟨x, rfl⟩ := toE w1
  have hxl := x.lt
  have htl := trim_length x0
  have hdl := dg_le x0
  go_enter Try.func5, Try.ntmps5
  go_wp2_with fail
  refine (refTrim_n A0 _ x0 c0 _ rfl hr0 (by omega)).mono ?_
  rintro e w1 ⟨v, rfl, ho1, hx1⟩
  obtain ⟨A1, c1, rfl, -, hr1, -, -⟩ := ho1.bytes
  go_wp2_with fail
  refine (refDegree_n A0 _ x0 c0 _ rfl (hr0.ext hx1) (by omega)).mono ?_
  rintro e w2 ⟨rfl, hx2⟩
  go_wp2_with (go_at_call 32; with_reducible refine (refAt_n A0 _ x0 c0 x _ rfl (hr0.ext (hx1.trans hx2)) (by omega)).mono ?_; rintro e w' ⟨rfl, rfl⟩)
  refine (lent_n A0 _ x0 c0 _ rfl (hr0.ext (hx1.trans hx2)) (by omega)).mono ?_
  rintro e w3 ⟨g, c2, rfl, hg, ho3, hc2, hm2, hx3⟩
  have hk3 := ho3.rd
  have hr3 : Rd w3 (some ⟨g, 0, none⟩) (bs x0) := by have := hk3.take (bs x0).length; rwa [bs_append, List.take_left] at this
  go_wp2_with fail
  refine (trim_n _ _ x0 c2 _ rfl hr3 (by omega) (by omega)).mono ?_
  rintro e w4 ⟨v, rfl, ho4, hx4⟩
  obtain ⟨A4, c4, rfl, -, hr4, -, -⟩ := ho4.bytes
  go_wp2_with fail
  refine (same_n A4 A1 _ _ (trim x0) c4 c1 _ htl htl hr4 (hr1.ext (hx2.trans (hx3.trans hx4))) (by omega)).mono ?_
  rintro e w5 ⟨rfl, hx5⟩
  have hr5 := hr3.ext (hx4.trans hx5)
  go_wp2_with (go_at_call 34; with_reducible refine (degree_n _ _ x0 c2 _ rfl hr5 (by omega)).mono ?_; rintro e w' ⟨rfl, rfl⟩)
  refine (polyAt_n _ _ c2 x0 x _ rfl hr5 (by simp only [maxLen]; omega)).mono ?_
  rintro e w6 ⟨rfl, hx6⟩
  go_wp2_with fail
  refine (kept_n _ A0 _ _ x0 c2 c0 _ rfl rfl (hk3.ext (hx4.trans (hx5.trans hx6))) (hr0.ext (hx1.trans (hx2.trans (hx3.trans (hx4.trans (hx5.trans hx6)))))) (by omega) hc2).mono ?_
  rintro e w7 ⟨rfl, hx7⟩
  go_wp2
  go_ret
  exact ⟨rfl, hx1.trans (hx2.trans (hx3.trans (hx4.trans (hx5.trans (hx6.trans hx7)))))⟩

set_option maxRecDepth 100000 in
theorem lifted (os : Os) (started : os.Started) (H : Type) (enc : TypeId × Value → H) :
    ReturnsInHanded {} Try.checked os 5 .any (Rows.polyTrimsSpec.pre6 enc Try.prog Try.f5 Rows.polyTrimsRow.domain false) (Rows.polyTrimsSpec.post enc Try.prog Try.f5 false true false false) := by
  refine returnsInHanded_of_change_sized (C := Try.checked) own started (by kernel_rfl) Try.func5
    (ChangeSpec.witness6 (enc := enc) (C := Try.checked) false ⟨#[], #[.slice none 0 0, .int .u8 0], []⟩ 8 (by kernel_rfl) (by kernel_rfl) (by kernel_rfl) (by kernel_rfl)) ?_
  intro W base args ds gs before hval0 hW hcnd hsz0 _
  have hval : ∀ (j : Nat) t v, Try.f5.params[j]? = some t → args[j]? = some v → Value.okWide Try.prog W .any base t v := hval0
  have hsz : (DataW.weightsEach Try.prog (Try.f5.params.toList ++ Rows.polyTrimsSpec.plain.varTypes Try.prog) (ds ++ gs)).all (· ≤ reachBytes) = true := hsz0
  have hW' := hW
  obtain ⟨p, q, hA0, hV, rfl, hfz, hnd⟩ := hW
  have hA : DataW.TrodAll enc Try.prog W 0 (fun _ => true) true Try.f5.params.toList args.toList ds p := hA0
  rw [Try.params5] at hA hval hsz
  obtain ⟨v0, vs0, d0, ds0, p0, q0, hargs, rfl, rfl, h0, r0⟩ := trodAll_cons hA
  obtain ⟨v1, vs1, d1, ds1, p1, q1, rfl, rfl, rfl, h1, r1⟩ := trodAll_cons r0
  obtain ⟨rfl, rfl, rfl⟩ := trodAll_nil r1
  obtain rfl : args = #[v0, v1] := by cases args; simp_all
  obtain ⟨rfl, rfl⟩ := trodVars_none hV
  have k0 := h0
  have lt0 : ∀ x ∈ p0, x.block < W.heap.size := by obtain ⟨m, hm⟩ := k0; exact DataW.trod_lt m _ _ _ hm
  obtain ⟨A0, c0, x0, rfl, hr0, hl0, hc0⟩ : ∃ (A : Option Addr) (cap : Nat) (xs : List E), v0 = .slice A xs.length cap ∧ Rd W A (bs xs) ∧ xs.length ≤ cap ∧ cap ≤ 140737488351232 := by
    obtain ⟨a, n, c, hv⟩ := okWide_slice Try.underlying24 (hval 0 24 v0 rfl rfl)
    obtain ⟨fuel, hf⟩ := h0
    exact open_bytes Try.underlying24 Try.underlying5 (by kernel_rfl) (by kernel_rfl) ⟨a, n, c, hv⟩ hf (weights_at hsz 0 rfl rfl)
  obtain ⟨a1, rfl, rfl, rfl, w1⟩ := open_int Try.underlying5 (hval 1 5 v1 rfl rfl) h1
  clear hA0 hval0
  refine (walk W A0 c0 x0 hr0 hl0 hc0 a1 w1).mono fun e W' ⟨he, bel⟩ => ?_
  subst he
  exact ⟨_, rfl, _, _, _, [], _, [], hW', trodAll_mk1 (shut_bool Try.underlying4 _), (trodAll_cons_mk (Below.trod laidOut (by kernel_rfl) (of_decide_eq_true (by kernel_rfl)) k0 bel lt0) (trodAll_cons_mk (shut_int Try.underlying5 w1) trodAll_mk0)), rfl, bel.frame _, fun h => by cases h⟩

theorem over : Rows.polyTrimsRow.holds Try.pinned (OpenSpec.ofChange Rows.polyTrimsSpec) :=
  OpenClaim.holds_of_wide 5 Try.f5 rfl rfl rfl rfl rfl rfl rfl ⟨rfl, rfl, rfl, rfl, rfl⟩ rfl rfl rfl rfl rfl (by kernel_rfl) Try.func5 (by kernel_rfl)
    (of_decide_eq_true (by kernel_rfl)) (by unfold Func.isWrapper; first | (rw [if_pos (by decide +kernel)]; kernel_rfl) | (rw [if_neg (by decide +kernel)]; exact ⟨rfl, rfl⟩))
    (fun os started H enc _ => lifted os started H enc)

theorem proved : Rows.PolyTrimsSaid := over
#print axioms proved
end Go.Proofs.Ytemnlcfabaocbaa.polyTrims
