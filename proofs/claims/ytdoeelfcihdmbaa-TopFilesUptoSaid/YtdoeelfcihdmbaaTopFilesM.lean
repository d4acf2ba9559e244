/-
  The law 'TopFiles': for every input whose bulk is at most 1048576 it returns true and leaves its arguments as they were. The frame is after the kit's shell; the walk is ours. No further condition.
-/
import Derived.Test.YtdoeelfcihdmbaaG1
import Derived.Test.YtdoeelfcihdmbaaG13
import Derived.Test.YtdoeelfcihdmbaaG14
import Derived.Test.YtdoeelfcihdmbaaRows
import Derived.WalkKit
import Derived.ProofKit
import Derived.OpenShut
import Derived.ShutString
import Derived.ChangeOld
import Derived.Below
namespace Go.Proofs.Ytdoeelfcihdmbaa.topFiles
open Go.ChangeShapes Go.WideShapes Go.ChangeAt Go.RowKit
set_option linter.unusedVariables false
open Gf

theorem own : ownKnob Try.prog.godebug = none := by kernel_rfl
theorem laidOut : laidOutB Try.prog = true := by kernel_rfl


theorem walk (w : World) (x0 : ObjX) (ok0 : ObjOk w x0) :
    Calls Try.prog 5 #[.agg (objC x0)] w fun e w' => e = .returned (.bool true) ∧ Below w.heap.size w w' := by
  exact topFiles_n x0 w ok0

set_option maxRecDepth 100000 in
theorem lifted (os : Os) (started : os.Started) (H : Type) (enc : TypeId × Value → H) (F : Stop.Interp) :
    ReturnsInHanded {} Try.checked os 5 .any ((Rows.OpenSpec.upto Rows.topFilesSpec).pre6 enc Try.prog Try.f5 Rows.topFilesUptoRow.domain false) (((Rows.OpenSpec.upto Rows.topFilesSpec).at F).post enc Try.prog Try.f5 false true false false) := by
  refine returnsInHanded_of_cond_sized (C := Try.checked) (s := Rows.OpenSpec.upto Rows.topFilesSpec) (k := Rows.uptoSmall) rfl own started (by kernel_rfl) Try.func5
    (OpenSpec.witness (enc := enc) (C := Try.checked) (s := Rows.OpenSpec.upto Rows.topFilesSpec) (k := Rows.uptoSmall) rfl false ⟨#[], #[.agg #[.int .i64 0, .int .i64 0, .int .i64 0, .string { data := #[] }, .int .i64 0, .int .i64 0, .slice none 0 0, .slice none 0 0, .slice none 0 0]], []⟩ 8 (by kernel_rfl) (by kernel_rfl) (by kernel_rfl)
      (x := ([.agg [.lit (.int .i64 0), .lit (.int .i64 0), .lit (.int .i64 0), .lit (.string []), .lit (.int .i64 0), .lit (.int .i64 0), .nil, .nil, .nil]], [], [])) (by kernel_rfl) rfl (by kernel_rfl)) ?_
  intro W base args ds gs before hval0 hW hcnd hk hsz0 _
  have hval : ∀ (j : Nat) t v, Try.f5.params[j]? = some t → args[j]? = some v → Value.okWide Try.prog W .any base t v := hval0
  have hsz : (DataW.weightsEach Try.prog (Try.f5.params.toList ++ Rows.topFilesSpec.plain.varTypes Try.prog) (ds ++ gs)).all (· ≤ reachBytes) = true := hsz0
  have hW' := hW
  obtain ⟨p, q, hA0, hV, rfl, hfz, hnd⟩ := hW
  have hA : DataW.TrodAll enc Try.prog W 0 (fun _ => true) true Try.f5.params.toList args.toList ds p := hA0
  rw [Try.params5] at hA hval hsz
  obtain ⟨v0, vs0, d0, ds0, p0, q0, hargs, rfl, rfl, h0, r0⟩ := trodAll_cons hA
  obtain ⟨rfl, rfl, rfl⟩ := trodAll_nil r0
  obtain rfl : args = #[v0] := by cases args; simp_all
  obtain ⟨rfl, rfl⟩ := trodVars_none hV
  have k0 := h0
  have lt0 : ∀ x ∈ p0, x.block < W.heap.size := by obtain ⟨m, hm⟩ := k0; exact DataW.trod_lt m _ _ _ hm
  obtain ⟨x0, rfl, ok0⟩ : ∃ x : ObjX, v0 = .agg (objC x) ∧ ObjOk W x := by
    have hB := bulk_bound hk (d := d0) (by simp)
    obtain ⟨u0, u1, u2, u3, u4, u5, u6, u7, u8, y0, y1, y2, y3, y4, y5, y6, y7, y8, n, rfl, rfl, t0, t1, t2, t3, t4, t5, t6, t7, t8⟩ := open_agg9u Try.underlying34 (by kernel_rfl) (by kernel_rfl) (hval 0 34 v0 rfl rfl) h0
    simp only [Rows.uptoBulk, Rows.uptoBulkAll] at hB
    obtain ⟨n0, e0, _, w0⟩ := DataW.trod_int Try.underlying3 t0
    simp at e0
    subst e0
    obtain ⟨n1, e1, _, w1⟩ := DataW.trod_int Try.underlying3 t1
    simp at e1
    subst e1
    obtain ⟨n2, e2, _, w2⟩ := DataW.trod_int Try.underlying3 t2
    simp at e2
    subst e2
    obtain ⟨l3, e3, b3⟩ := open_string_u Try.underlying9 t3 (by omega)
    simp at e3
    subst e3
    obtain ⟨n4, e4, _, w4⟩ := DataW.trod_int Try.underlying3 t4
    simp at e4
    subst e4
    obtain ⟨n5, e5, _, w5⟩ := DataW.trod_int Try.underlying3 t5
    simp at e5
    subst e5
    obtain ⟨A6, c6, z6, e6, a6, b6, g6⟩ := open_bytes_u Try.underlying24 Try.underlying5 (by kernel_rfl) t6 (by omega)
    simp at e6
    subst e6
    obtain ⟨A7, c7, z7, e7, a7, b7, g7, s7⟩ := open_ints_u Try.underlying31 Try.underlying3 (by kernel_rfl) t7 (by omega)
    simp at e7
    subst e7
    obtain ⟨A8, c8, z8, e8, a8, b8, g8, s8⟩ := open_rows_u Try.underlying32 Try.underlying24 Try.underlying5 (by kernel_rfl) (by kernel_rfl) t8 (by omega)
    simp at e8
    subst e8
    exact ⟨⟨n0, n1, n2, l3, n4, n5, A6, c6, z6, A7, c7, z7, A8, c8, z8⟩, rfl, ⟨w0, w1, w2, w4, w5, b3, ⟨a6, b6, g6⟩, ⟨a7, b7, g7, s7⟩, ⟨a8, b8, g8, s8⟩⟩⟩
  clear hA0 hval0
  refine (walk W x0 ok0).mono fun e W' ⟨he, bel⟩ => ?_
  subst he
  exact ⟨_, rfl, _, _, _, [], _, [], hW', trodAll_mk1 (shut_bool Try.underlying4 _), (trodAll_cons_mk (Below.trod laidOut (by kernel_rfl) (of_decide_eq_true (by kernel_rfl)) k0 bel lt0) trodAll_mk0), rfl, bel.frame _, fun h => by cases h⟩

theorem proved : Rows.TopFilesUptoSaid :=
  OpenClaim.holds_of_cond 5 Try.f5 rfl rfl rfl rfl rfl rfl rfl ⟨rfl, rfl, rfl, rfl, rfl⟩ rfl rfl rfl rfl rfl (by kernel_rfl) Try.func5 top_closed
    (of_decide_eq_true (by kernel_rfl)) (by unfold Func.isWrapper; first | (rw [if_pos (by decide +kernel)]; kernel_rfl) | (rw [if_neg (by decide +kernel)]; exact ⟨rfl, rfl⟩))
    (fun os started H enc _ F => lifted os started H enc F)
#print axioms proved
end Go.Proofs.Ytdoeelfcihdmbaa.topFiles
