/-
  The law 'MendOwn': for every input whose bulk is at most 1048576 it returns true and leaves its arguments as they were. The frame is after the kit's shell; the walk is ours. No further condition.
-/
import Derived.Test.YtemnlcfabaocbaaG1
import Derived.Test.YtemnlcfabaocbaaG4
import Derived.Test.YtemnlcfabaocbaaG9
import Derived.Test.YtemnlcfabaocbaaG19
import Derived.Test.YtemnlcfabaocbaaRows
import Derived.WalkKit
import Derived.ProofKit
import Derived.OpenShut
import Derived.ShutString
import Derived.ChangeOld
import Derived.Below
namespace Go.Proofs.Ytemnlcfabaocbaa.mendOwn
open Go.ChangeShapes Go.WideShapes Go.ChangeAt Go.RowKit
set_option linter.unusedVariables false
open Gf

theorem own : ownKnob Try.prog.godebug = none := by kernel_rfl
theorem laidOut : laidOutB Try.prog = true := by kernel_rfl


theorem walk (w : World) (kk0 : Int) (Aa0 : Option Addr) (ca0 : Nat) (xa0 : List (List E)) (Ab0 : Option Addr) (cb0 : Nat) (xb0 : List (List E)) (hwk0 : (Lit.int .i64 kk0).wf = true) (hra0 : RdRows w Aa0 xa0) (hla0 : xa0.length ≤ ca0) (hca0 : ca0 ≤ 1048576) (hba0 : ∀ r ∈ xa0, r.length ≤ 1048576) (hrb0 : RdRows w Ab0 xb0) (hlb0 : xb0.length ≤ cb0) (hcb0 : cb0 ≤ 1048576) (hbb0 : ∀ r ∈ xb0, r.length ≤ 1048576) :
    Calls Try.prog 18 #[.agg #[.int .i64 kk0, .slice Aa0 xa0.length ca0, .slice Ab0 xb0.length cb0]] w fun e w' => e = .returned (.bool true) ∧ Below w.heap.size w w' := by
  exact ownWalk_n kk0 Aa0 Ab0 _ ca0 _ cb0 xa0 xb0 w rfl rfl hra0 hrb0 (by omega) (by omega) hba0 hbb0 hwk0

set_option maxRecDepth 100000 in
theorem lifted (os : Os) (started : os.Started) (H : Type) (enc : TypeId × Value → H) (F : Stop.Interp) :
    ReturnsInHanded {} Try.checked os 18 .any ((Rows.OpenSpec.upto Rows.mendOwnSpec).pre6 enc Try.prog Try.f18 Rows.mendOwnUptoRow.domain false) (((Rows.OpenSpec.upto Rows.mendOwnSpec).at F).post enc Try.prog Try.f18 false true false false) := by
  refine returnsInHanded_of_cond_sized (C := Try.checked) (s := Rows.OpenSpec.upto Rows.mendOwnSpec) (k := Rows.uptoSmall) rfl own started (by kernel_rfl) Try.func18
    (OpenSpec.witness (enc := enc) (C := Try.checked) (s := Rows.OpenSpec.upto Rows.mendOwnSpec) (k := Rows.uptoSmall) rfl false ⟨#[], #[.agg #[.int .i64 0, .slice none 0 0, .slice none 0 0]], []⟩ 8 (by kernel_rfl) (by kernel_rfl) (by kernel_rfl)
      (x := ([.agg [.lit (.int .i64 0), .nil, .nil]], [], [])) (by kernel_rfl) rfl (by kernel_rfl)) ?_
  intro W base args ds gs before hval0 hW hcnd hk hsz0 _
  have hval : ∀ (j : Nat) t v, Try.f18.params[j]? = some t → args[j]? = some v → Value.okWide Try.prog W .any base t v := hval0
  have hsz : (DataW.weightsEach Try.prog (Try.f18.params.toList ++ Rows.mendOwnSpec.plain.varTypes Try.prog) (ds ++ gs)).all (· ≤ reachBytes) = true := hsz0
  have hW' := hW
  obtain ⟨p, q, hA0, hV, rfl, hfz, hnd⟩ := hW
  have hA : DataW.TrodAll enc Try.prog W 0 (fun _ => true) true Try.f18.params.toList args.toList ds p := hA0
  rw [Try.params18] at hA hval hsz
  obtain ⟨v0, vs0, d0, ds0, p0, q0, hargs, rfl, rfl, h0, r0⟩ := trodAll_cons hA
  obtain ⟨rfl, rfl, rfl⟩ := trodAll_nil r0
  obtain rfl : args = #[v0] := by cases args; simp_all
  obtain ⟨rfl, rfl⟩ := trodVars_none hV
  have k0 := h0
  have lt0 : ∀ x ∈ p0, x.block < W.heap.size := by obtain ⟨m, hm⟩ := k0; exact DataW.trod_lt m _ _ _ hm
  obtain ⟨kk0, Aa0, ca0, xa0, Ab0, cb0, xb0, rfl, hwk0, hra0, hla0, hca0, hba0, hrb0, hlb0, hcb0, hbb0⟩ : ∃ (kk : Int) (Aa : Option Addr) (ca : Nat) (xa : List (List E)) (Ab : Option Addr) (cb : Nat) (xb : List (List E)), v0 = .agg #[.int .i64 kk, .slice Aa xa.length ca, .slice Ab xb.length cb] ∧
      (Lit.int .i64 kk).wf = true ∧ RdRows W Aa xa ∧ xa.length ≤ ca ∧ ca ≤ 1048576 ∧ (∀ r ∈ xa, r.length ≤ 1048576) ∧ RdRows W Ab xb ∧ xb.length ≤ cb ∧ cb ≤ 1048576 ∧ (∀ r ∈ xb, r.length ≤ 1048576) := by
    have hB := bulk_bound hk (d := d0) (by simp)
    obtain ⟨u0, u1, u2, y0, y1, y2, n, rfl, rfl, t0, t1, t2⟩ := open_agg3u Try.underlying86 (by kernel_rfl) (by kernel_rfl) (hval 0 86 v0 rfl rfl) h0
    simp only [Rows.uptoBulk, Rows.uptoBulkAll] at hB
    obtain ⟨n0, e0, _, w0⟩ := DataW.trod_int Try.underlying3 t0
    simp at e0
    subst e0
    obtain ⟨A1, c1, z1, e1, a1, b1, g1, s1⟩ := open_rows_u Try.underlying77 Try.underlying24 Try.underlying5 (by kernel_rfl) (by kernel_rfl) t1 (by omega)
    simp at e1
    subst e1
    obtain ⟨A2, c2, z2, e2, a2, b2, g2, s2⟩ := open_rows_u Try.underlying77 Try.underlying24 Try.underlying5 (by kernel_rfl) (by kernel_rfl) t2 (by omega)
    simp at e2
    subst e2
    exact ⟨n0, _, _, _, _, _, _, rfl, w0, a1, b1, g1, s1, a2, b2, g2, s2⟩
  clear hA0 hval0
  refine (walk W kk0 Aa0 ca0 xa0 Ab0 cb0 xb0 hwk0 hra0 hla0 hca0 hba0 hrb0 hlb0 hcb0 hbb0).mono fun e W' ⟨he, bel⟩ => ?_
  subst he
  exact ⟨_, rfl, _, _, _, [], _, [], hW', trodAll_mk1 (shut_bool Try.underlying4 _), (trodAll_cons_mk (Below.trod laidOut (by kernel_rfl) (of_decide_eq_true (by kernel_rfl)) k0 bel lt0) trodAll_mk0), rfl, bel.frame _, fun h => by cases h⟩

theorem proved : Rows.MendOwnUptoSaid :=
  OpenClaim.holds_of_cond 18 Try.f18 rfl rfl rfl rfl rfl rfl rfl ⟨rfl, rfl, rfl, rfl, rfl⟩ rfl rfl rfl rfl rfl (by kernel_rfl) Try.func18 (by kernel_rfl)
    (of_decide_eq_true (by kernel_rfl)) (by unfold Func.isWrapper; first | (rw [if_pos (by decide +kernel)]; kernel_rfl) | (rw [if_neg (by decide +kernel)]; exact ⟨rfl, rfl⟩))
    (fun os started H enc _ F => lifted os started H enc F)
#print axioms proved
end Go.Proofs.Ytemnlcfabaocbaa.mendOwn
