/-
  The law 'MendColumnOwn': for every input whose bulk is at most 1048576 it returns true and leaves its arguments as they were. The frame is after the kit's shell; the walk is ours. No further condition.
-/
import Derived.Test.YtemnlcfabaocbaaG1
import Derived.Test.YtemnlcfabaocbaaG4
import Derived.Test.YtemnlcfabaocbaaG9
import Derived.Test.YtemnlcfabaocbaaG17
import Derived.Test.YtemnlcfabaocbaaRows
import Derived.WalkKit
import Derived.ProofKit
import Derived.OpenShut
import Derived.ShutString
import Derived.ChangeOld
import Derived.Below
namespace Go.Proofs.Ytemnlcfabaocbaa.mendColumnOwn
open Go.ChangeShapes Go.WideShapes Go.ChangeAt Go.RowKit
set_option linter.unusedVariables false
open Gf

theorem own : ownKnob Try.prog.godebug = none := by kernel_rfl
theorem laidOut : laidOutB Try.prog = true := by kernel_rfl


theorem walk (w : World) (kk0 : Int) (Aw0 : Option Addr) (cw0 : Nat) (xw0 : List E) (Al0 : Option Addr) (cl0 : Nat) (xl0 : List Bool) (hwk0 : (Lit.int .i64 kk0).wf = true) (hrw0 : Rd w Aw0 (bs xw0)) (hlw0 : xw0.length ≤ cw0) (hcw0 : cw0 ≤ 1048576) (hrl0 : Rd w Al0 (bools xl0)) (hll0 : xl0.length ≤ cl0) (hcl0 : cl0 ≤ 1048576) (kk1 : Int) (Aw1 : Option Addr) (cw1 : Nat) (xw1 : List E) (Al1 : Option Addr) (cl1 : Nat) (xl1 : List Bool) (hwk1 : (Lit.int .i64 kk1).wf = true) (hrw1 : Rd w Aw1 (bs xw1)) (hlw1 : xw1.length ≤ cw1) (hcw1 : cw1 ≤ 1048576) (hrl1 : Rd w Al1 (bools xl1)) (hll1 : xl1.length ≤ cl1) (hcl1 : cl1 ≤ 1048576) :
    Calls Try.prog 19 #[.agg #[.int .i64 kk0, .slice Aw0 xw0.length cw0, .slice Al0 xl0.length cl0], .agg #[.int .i64 kk1, .slice Aw1 xw1.length cw1, .slice Al1 xl1.length cl1]] w fun e w' => e = .returned (.bool true) ∧ Below w.heap.size w w' := by
  exact colWalk_n kk0 kk1 Aw0 Al0 Aw1 Al1 _ cw0 _ cl0 _ cw1 _ cl1 xw0 xw1 xl0 xl1 w rfl rfl rfl rfl hrw0 hrl0 hrw1 hrl1 (by omega) (by omega) (by omega) (by omega) hwk0 hwk1

set_option maxRecDepth 100000 in
theorem lifted (os : Os) (started : os.Started) (H : Type) (enc : TypeId × Value → H) (F : Stop.Interp) :
    ReturnsInHanded {} Try.checked os 19 .any ((Rows.OpenSpec.upto Rows.mendColumnOwnSpec).pre6 enc Try.prog Try.f19 Rows.mendColumnOwnUptoRow.domain false) (((Rows.OpenSpec.upto Rows.mendColumnOwnSpec).at F).post enc Try.prog Try.f19 false true false false) := by
  refine returnsInHanded_of_cond_sized (C := Try.checked) (s := Rows.OpenSpec.upto Rows.mendColumnOwnSpec) (k := Rows.uptoSmall) rfl own started (by kernel_rfl) Try.func19
    (OpenSpec.witness (enc := enc) (C := Try.checked) (s := Rows.OpenSpec.upto Rows.mendColumnOwnSpec) (k := Rows.uptoSmall) rfl false ⟨#[], #[.agg #[.int .i64 0, .slice none 0 0, .slice none 0 0], .agg #[.int .i64 0, .slice none 0 0, .slice none 0 0]], []⟩ 8 (by kernel_rfl) (by kernel_rfl) (by kernel_rfl)
      (x := ([.agg [.lit (.int .i64 0), .nil, .nil], .agg [.lit (.int .i64 0), .nil, .nil]], [], [])) (by kernel_rfl) rfl (by kernel_rfl)) ?_
  intro W base args ds gs before hval0 hW hcnd hk hsz0 _
  have hval : ∀ (j : Nat) t v, Try.f19.params[j]? = some t → args[j]? = some v → Value.okWide Try.prog W .any base t v := hval0
  have hsz : (DataW.weightsEach Try.prog (Try.f19.params.toList ++ Rows.mendColumnOwnSpec.plain.varTypes Try.prog) (ds ++ gs)).all (· ≤ reachBytes) = true := hsz0
  have hW' := hW
  obtain ⟨p, q, hA0, hV, rfl, hfz, hnd⟩ := hW
  have hA : DataW.TrodAll enc Try.prog W 0 (fun _ => true) true Try.f19.params.toList args.toList ds p := hA0
  rw [Try.params19] at hA hval hsz
  obtain ⟨v0, vs0, d0, ds0, p0, q0, hargs, rfl, rfl, h0, r0⟩ := trodAll_cons hA
  obtain ⟨v1, vs1, d1, ds1, p1, q1, rfl, rfl, rfl, h1, r1⟩ := trodAll_cons r0
  obtain ⟨rfl, rfl, rfl⟩ := trodAll_nil r1
  obtain rfl : args = #[v0, v1] := by cases args; simp_all
  obtain ⟨rfl, rfl⟩ := trodVars_none hV
  have k0 := h0
  have lt0 : ∀ x ∈ p0, x.block < W.heap.size := by obtain ⟨m, hm⟩ := k0; exact DataW.trod_lt m _ _ _ hm
  obtain ⟨kk0, Aw0, cw0, xw0, Al0, cl0, xl0, rfl, hwk0, hrw0, hlw0, hcw0, hrl0, hll0, hcl0⟩ : ∃ (kk : Int) (Aw : Option Addr) (cw : Nat) (xw : List E) (Al : Option Addr) (cl : Nat) (xl : List Bool), v0 = .agg #[.int .i64 kk, .slice Aw xw.length cw, .slice Al xl.length cl] ∧
      (Lit.int .i64 kk).wf = true ∧ Rd W Aw (bs xw) ∧ xw.length ≤ cw ∧ cw ≤ 1048576 ∧ Rd W Al (bools xl) ∧ xl.length ≤ cl ∧ cl ≤ 1048576 := by
    have hB := bulk_bound hk (d := d0) (by simp)
    obtain ⟨u0, u1, u2, y0, y1, y2, n, rfl, rfl, t0, t1, t2⟩ := open_agg3u Try.underlying69 (by kernel_rfl) (by kernel_rfl) (hval 0 69 v0 rfl rfl) h0
    simp only [Rows.uptoBulk, Rows.uptoBulkAll] at hB
    obtain ⟨n0, e0, _, w0⟩ := DataW.trod_int Try.underlying3 t0
    simp at e0
    subst e0
    obtain ⟨A1, c1, z1, e1, a1, b1, g1⟩ := open_bytes_u Try.underlying24 Try.underlying5 (by kernel_rfl) t1 (by omega)
    simp at e1
    subst e1
    obtain ⟨A2, c2, z2, e2, a2, b2, g2⟩ := open_bools_u Try.underlying67 Try.underlying4 (by kernel_rfl) t2 (by omega)
    simp at e2
    subst e2
    exact ⟨n0, _, _, _, _, _, _, rfl, w0, a1, b1, g1, a2, b2, g2⟩
  have k1 := h1
  have lt1 : ∀ x ∈ p1, x.block < W.heap.size := by obtain ⟨m, hm⟩ := k1; exact DataW.trod_lt m _ _ _ hm
  obtain ⟨kk1, Aw1, cw1, xw1, Al1, cl1, xl1, rfl, hwk1, hrw1, hlw1, hcw1, hrl1, hll1, hcl1⟩ : ∃ (kk : Int) (Aw : Option Addr) (cw : Nat) (xw : List E) (Al : Option Addr) (cl : Nat) (xl : List Bool), v1 = .agg #[.int .i64 kk, .slice Aw xw.length cw, .slice Al xl.length cl] ∧
      (Lit.int .i64 kk).wf = true ∧ Rd W Aw (bs xw) ∧ xw.length ≤ cw ∧ cw ≤ 1048576 ∧ Rd W Al (bools xl) ∧ xl.length ≤ cl ∧ cl ≤ 1048576 := by
    have hB := bulk_bound hk (d := d1) (by simp)
    obtain ⟨u0, u1, u2, y0, y1, y2, n, rfl, rfl, t0, t1, t2⟩ := open_agg3u Try.underlying69 (by kernel_rfl) (by kernel_rfl) (hval 1 69 v1 rfl rfl) h1
    simp only [Rows.uptoBulk, Rows.uptoBulkAll] at hB
    obtain ⟨n0, e0, _, w0⟩ := DataW.trod_int Try.underlying3 t0
    simp at e0
    subst e0
    obtain ⟨A1, c1, z1, e1, a1, b1, g1⟩ := open_bytes_u Try.underlying24 Try.underlying5 (by kernel_rfl) t1 (by omega)
    simp at e1
    subst e1
    obtain ⟨A2, c2, z2, e2, a2, b2, g2⟩ := open_bools_u Try.underlying67 Try.underlying4 (by kernel_rfl) t2 (by omega)
    simp at e2
    subst e2
    exact ⟨n0, _, _, _, _, _, _, rfl, w0, a1, b1, g1, a2, b2, g2⟩
  clear hA0 hval0
  refine (walk W kk0 Aw0 cw0 xw0 Al0 cl0 xl0 hwk0 hrw0 hlw0 hcw0 hrl0 hll0 hcl0 kk1 Aw1 cw1 xw1 Al1 cl1 xl1 hwk1 hrw1 hlw1 hcw1 hrl1 hll1 hcl1).mono fun e W' ⟨he, bel⟩ => ?_
  subst he
  exact ⟨_, rfl, _, _, _, [], _, [], hW', trodAll_mk1 (shut_bool Try.underlying4 _), (trodAll_cons_mk (Below.trod laidOut (by kernel_rfl) (of_decide_eq_true (by kernel_rfl)) k0 bel lt0) (trodAll_cons_mk (Below.trod laidOut (by kernel_rfl) (of_decide_eq_true (by kernel_rfl)) k1 bel lt1) trodAll_mk0)), rfl, bel.frame _, fun h => by cases h⟩

theorem proved : Rows.MendColumnOwnUptoSaid :=
  OpenClaim.holds_of_cond 19 Try.f19 rfl rfl rfl rfl rfl rfl rfl ⟨rfl, rfl, rfl, rfl, rfl⟩ rfl rfl rfl rfl rfl (by kernel_rfl) Try.func19 (by kernel_rfl)
    (of_decide_eq_true (by kernel_rfl)) (by unfold Func.isWrapper; first | (rw [if_pos (by decide +kernel)]; kernel_rfl) | (rw [if_neg (by decide +kernel)]; exact ⟨rfl, rfl⟩))
    (fun os started H enc _ F => lifted os started H enc F)
#print axioms proved
end Go.Proofs.Ytemnlcfabaocbaa.mendColumnOwn
