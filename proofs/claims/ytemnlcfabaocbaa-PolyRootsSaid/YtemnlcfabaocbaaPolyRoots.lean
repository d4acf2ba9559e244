/-
  The law 'PolyRoots': for every input it returns true and leaves its arguments as they were. The frame is after the kit's shell; the walk is ours. No condition.
-/
import Derived.Test.YtemnlcfabaocbaaRows
import Derived.Test.YtemnlcfabaocbaaLaw2
import Derived.Test.YtemnlcfabaocbaaOpen
import Derived.WalkKit
import Derived.ProofKit
import Derived.OpenShut
import Derived.ShutString
import Derived.ChangeOld
import Derived.Below
namespace Go.Proofs.Ytemnlcfabaocbaa.polyRoots
open Go.ChangeShapes Go.WideShapes Go.ChangeAt Go.RowKit
set_option linter.unusedVariables false
open Gf

theorem own : ownKnob Try.prog.godebug = none := by kernel_rfl
theorem laidOut : laidOutB Try.prog = true := by kernel_rfl

set_option maxRecDepth 20000 in
set_option maxHeartbeats 2000000 in
theorem walk (w : World) (A0 : Option Addr) (c0 : Nat) (x0 : List E) (hr0 : Rd w A0 (bs x0)) (hl0 : x0.length ≤ c0) (hc0 : c0 ≤ 140737488351232) :
    Calls Try.prog 4 #[.slice A0 x0.length c0] w fun e w' => e = .returned (.bool true) ∧ Below w.heap.size w w' := by
  have hrl : (rootsL x0).length ≤ 256 := rootsTo_le x0 256
  go_enter Try.func4, Try.ntmps4
  go_wp2_with fail
  refine (refRoots_n A0 _ x0 c0 _ rfl hr0 (by omega)).mono ?_
  rintro e w1 ⟨v, rfl, ho1, hx1⟩
  obtain ⟨A1, c1, rfl, -, hr1, -, -⟩ := ho1.bytes
  go_wp2_with fail
  refine (lent_n A0 _ x0 c0 _ rfl (hr0.ext hx1) (by omega)).mono ?_
  rintro e w2 ⟨g, c2, rfl, hg, ho2, hc2, hm2, hx2⟩
  have hk2 := ho2.rd
  have hr2 : Rd w2 (some ⟨g, 0, none⟩) (bs x0) := by have := hk2.take (bs x0).length; rwa [bs_append, List.take_left] at this
  go_wp2_with fail
  refine (polyRoots_n _ _ x0 c2 _ rfl hr2 (by omega)).mono ?_
  rintro e w3 ⟨v, rfl, ho3, hx3⟩
  obtain ⟨A3, c3, rfl, -, hr3, -, -⟩ := ho3.bytes
  go_wp2_with fail
  refine (same_n A3 A1 _ _ (rootsL x0) c3 c1 _ rfl rfl hr3 (hr1.ext (hx2.trans hx3)) (by omega)).mono ?_
  rintro e w4 ⟨rfl, hx4⟩
  go_wp2_with fail
  refine (kept_n _ A0 _ _ x0 c2 c0 _ rfl rfl (hk2.ext (hx3.trans hx4)) (hr0.ext (hx1.trans (hx2.trans (hx3.trans hx4)))) (by omega) hc2).mono ?_
  rintro e w5 ⟨rfl, hx5⟩
  go_wp2
  go_ret
  exact ⟨rfl, hx1.trans (hx2.trans (hx3.trans (hx4.trans hx5)))⟩

set_option maxRecDepth 100000 in
theorem lifted (os : Os) (started : os.Started) (H : Type) (enc : TypeId × Value → H) :
    ReturnsInHanded {} Try.checked os 4 .any (Rows.polyRootsSpec.pre6 enc Try.prog Try.f4 Rows.polyRootsRow.domain false) (Rows.polyRootsSpec.post enc Try.prog Try.f4 false true false false) := by
  refine returnsInHanded_of_change_sized (C := Try.checked) own started (by kernel_rfl) Try.func4
    (ChangeSpec.witness6 (enc := enc) (C := Try.checked) false ⟨#[], #[.slice none 0 0], []⟩ 8 (by kernel_rfl) (by kernel_rfl) (by kernel_rfl) (by kernel_rfl)) ?_
  intro W base args ds gs before hval0 hW hcnd hsz0 _
  have hval : ∀ (j : Nat) t v, Try.f4.params[j]? = some t → args[j]? = some v → Value.okWide Try.prog W .any base t v := hval0
  have hsz : (DataW.weightsEach Try.prog (Try.f4.params.toList ++ Rows.polyRootsSpec.plain.varTypes Try.prog) (ds ++ gs)).all (· ≤ reachBytes) = true := hsz0
  have hW' := hW
  obtain ⟨p, q, hA0, hV, rfl, hfz, hnd⟩ := hW
  have hA : DataW.TrodAll enc Try.prog W 0 (fun _ => true) true Try.f4.params.toList args.toList ds p := hA0
  rw [Try.params4] at hA hval hsz
  obtain ⟨v0, vs0, d0, ds0, p0, q0, hargs, rfl, rfl, h0, r0⟩ := trodAll_cons hA
  obtain ⟨rfl, rfl, rfl⟩ := trodAll_nil r0
  obtain rfl : args = #[v0] := by cases args; simp_all
  obtain ⟨rfl, rfl⟩ := trodVars_none hV
  have k0 := h0
  have lt0 : ∀ x ∈ p0, x.block < W.heap.size := by obtain ⟨m, hm⟩ := k0; exact DataW.trod_lt m _ _ _ hm
  obtain ⟨A0, c0, x0, rfl, hr0, hl0, hc0⟩ : ∃ (A : Option Addr) (cap : Nat) (xs : List E), v0 = .slice A xs.length cap ∧ Rd W A (bs xs) ∧ xs.length ≤ cap ∧ cap ≤ 140737488351232 := by
    obtain ⟨a, n, c, hv⟩ := okWide_slice Try.underlying24 (hval 0 24 v0 rfl rfl)
    obtain ⟨fuel, hf⟩ := h0
    exact open_bytes Try.underlying24 Try.underlying5 (by kernel_rfl) (by kernel_rfl) ⟨a, n, c, hv⟩ hf (weights_at hsz 0 rfl rfl)
  clear hA0 hval0
  refine (walk W A0 c0 x0 hr0 hl0 hc0).mono fun e W' ⟨he, bel⟩ => ?_
  subst he
  exact ⟨_, rfl, _, _, _, [], _, [], hW', trodAll_mk1 (shut_bool Try.underlying4 _), (trodAll_cons_mk (Below.trod laidOut (by kernel_rfl) (of_decide_eq_true (by kernel_rfl)) k0 bel lt0) trodAll_mk0), rfl, bel.frame _, fun h => by cases h⟩

theorem over : Rows.polyRootsRow.holds Try.pinned (OpenSpec.ofChange Rows.polyRootsSpec) :=
  OpenClaim.holds_of_wide 4 Try.f4 rfl rfl rfl rfl rfl rfl rfl ⟨rfl, rfl, rfl, rfl, rfl⟩ rfl rfl rfl rfl rfl (by kernel_rfl) Try.func4 (by kernel_rfl)
    (of_decide_eq_true (by kernel_rfl)) (by unfold Func.isWrapper; first | (rw [if_pos (by decide +kernel)]; kernel_rfl) | (rw [if_neg (by decide +kernel)]; exact ⟨rfl, rfl⟩))
    (fun os started H enc _ => lifted os started H enc)

theorem proved : Rows.PolyRootsSaid := over
#print axioms proved
end Go.Proofs.Ytemnlcfabaocbaa.polyRoots
