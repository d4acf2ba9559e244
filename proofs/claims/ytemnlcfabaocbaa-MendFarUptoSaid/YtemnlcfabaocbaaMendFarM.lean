/-
  The law 'MendFar': for every input whose bulk is at most 1048576 it returns true and leaves its arguments as they were. The frame is after the kit's shell; the walk is ours. No further condition.
-/
import Derived.Test.YtemnlcfabaocbaaG1
import Derived.Test.YtemnlcfabaocbaaG4
import Derived.Test.YtemnlcfabaocbaaG9
import Derived.Test.YtemnlcfabaocbaaG14
import Derived.Test.YtemnlcfabaocbaaG15
import Derived.Test.YtemnlcfabaocbaaRows
import Derived.WalkKit
import Derived.ProofKit
import Derived.OpenShut
import Derived.ShutString
import Derived.ChangeOld
import Derived.Below
namespace Go.Proofs.Ytemnlcfabaocbaa.mendFar
open Go.ChangeShapes Go.WideShapes Go.ChangeAt Go.RowKit
set_option linter.unusedVariables false
open Gf

theorem own : ownKnob Try.prog.godebug = none := by kernel_rfl
theorem laidOut : laidOutB Try.prog = true := by kernel_rfl


theorem walk (w : World) (Ad0 : Option Addr) (cd0 : Nat) (xd0 : List (List E)) (mm0 : Int) (At0 : Option Addr) (ct0 : Nat) (xt0 : List Int) (Ay0 : Option Addr) (cy0 : Nat) (xy0 : List (List E)) (hrd0 : RdRows w Ad0 xd0) (hld0 : xd0.length ≤ cd0) (hcd0 : cd0 ≤ 1048576) (hbd0 : ∀ r ∈ xd0, r.length ≤ 1048576) (hwm0 : (Lit.int .i64 mm0).wf = true) (hrt0 : Rd w At0 (intsZ xt0)) (hlt0 : xt0.length ≤ ct0) (hct0 : ct0 ≤ 1048576) (hwt0 : ∀ x ∈ xt0, (Lit.int .i64 x).wf = true) (hry0 : RdRows w Ay0 xy0) (hly0 : xy0.length ≤ cy0) (hcy0 : cy0 ≤ 1048576) (hby0 : ∀ r ∈ xy0, r.length ≤ 1048576) (Ad1 : Option Addr) (cd1 : Nat) (xd1 : List (List E)) (mm1 : Int) (At1 : Option Addr) (ct1 : Nat) (xt1 : List Int) (Ay1 : Option Addr) (cy1 : Nat) (xy1 : List (List E)) (hrd1 : RdRows w Ad1 xd1) (hld1 : xd1.length ≤ cd1) (hcd1 : cd1 ≤ 1048576) (hbd1 : ∀ r ∈ xd1, r.length ≤ 1048576) (hwm1 : (Lit.int .i64 mm1).wf = true) (hrt1 : Rd w At1 (intsZ xt1)) (hlt1 : xt1.length ≤ ct1) (hct1 : ct1 ≤ 1048576) (hwt1 : ∀ x ∈ xt1, (Lit.int .i64 x).wf = true) (hry1 : RdRows w Ay1 xy1) (hly1 : xy1.length ≤ cy1) (hcy1 : cy1 ≤ 1048576) (hby1 : ∀ r ∈ xy1, r.length ≤ 1048576) :
    Calls Try.prog 21 #[.agg #[.slice Ad0 xd0.length cd0, .int .i64 mm0, .slice At0 xt0.length ct0, .slice Ay0 xy0.length cy0], .agg #[.slice Ad1 xd1.length cd1, .int .i64 mm1, .slice At1 xt1.length ct1, .slice Ay1 xy1.length cy1]] w fun e w' => e = .returned (.bool true) ∧ Below w.heap.size w w' := by
  exact (farWalk_n Ad0 At0 Ay0 Ad1 At1 Ay1 _ cd0 _ ct0 _ cy0 _ cd1 _ ct1 _ cy1 mm0 mm1 xd0 xd1 w rfl hrd0 (by omega) hbd0 hwm0 rfl hrd1 (by omega) hbd1 hwm1 hld1).mono fun e w' ⟨h, hx⟩ => ⟨h, hx⟩

set_option maxRecDepth 100000 in
theorem lifted (os : Os) (started : os.Started) (H : Type) (enc : TypeId × Value → H) (F : Stop.Interp) :
    ReturnsInHanded {} Try.checked os 21 .any ((Rows.OpenSpec.upto Rows.mendFarSpec).pre6 enc Try.prog Try.f21 Rows.mendFarUptoRow.domain false) (((Rows.OpenSpec.upto Rows.mendFarSpec).at F).post enc Try.prog Try.f21 false true false false) := by
  refine returnsInHanded_of_cond_sized (C := Try.checked) (s := Rows.OpenSpec.upto Rows.mendFarSpec) (k := Rows.uptoSmall) rfl own started (by kernel_rfl) Try.func21
    (OpenSpec.witness (enc := enc) (C := Try.checked) (s := Rows.OpenSpec.upto Rows.mendFarSpec) (k := Rows.uptoSmall) rfl false ⟨#[], #[.agg #[.slice none 0 0, .int .i64 0, .slice none 0 0, .slice none 0 0], .agg #[.slice none 0 0, .int .i64 0, .slice none 0 0, .slice none 0 0]], []⟩ 8 (by kernel_rfl) (by kernel_rfl) (by kernel_rfl)
      (x := ([.agg [.nil, .lit (.int .i64 0), .nil, .nil], .agg [.nil, .lit (.int .i64 0), .nil, .nil]], [], [])) (by kernel_rfl) rfl (by kernel_rfl)) ?_
  intro W base args ds gs before hval0 hW hcnd hk hsz0 _
  have hval : ∀ (j : Nat) t v, Try.f21.params[j]? = some t → args[j]? = some v → Value.okWide Try.prog W .any base t v := hval0
  have hsz : (DataW.weightsEach Try.prog (Try.f21.params.toList ++ Rows.mendFarSpec.plain.varTypes Try.prog) (ds ++ gs)).all (· ≤ reachBytes) = true := hsz0
  have hW' := hW
  obtain ⟨p, q, hA0, hV, rfl, hfz, hnd⟩ := hW
  have hA : DataW.TrodAll enc Try.prog W 0 (fun _ => true) true Try.f21.params.toList args.toList ds p := hA0
  rw [Try.params21] at hA hval hsz
  obtain ⟨v0, vs0, d0, ds0, p0, q0, hargs, rfl, rfl, h0, r0⟩ := trodAll_cons hA
  obtain ⟨v1, vs1, d1, ds1, p1, q1, rfl, rfl, rfl, h1, r1⟩ := trodAll_cons r0
  obtain ⟨rfl, rfl, rfl⟩ := trodAll_nil r1
  obtain rfl : args = #[v0, v1] := by cases args; simp_all
  obtain ⟨rfl, rfl⟩ := trodVars_none hV
  have k0 := h0
  have lt0 : ∀ x ∈ p0, x.block < W.heap.size := by obtain ⟨m, hm⟩ := k0; exact DataW.trod_lt m _ _ _ hm
  obtain ⟨Ad0, cd0, xd0, mm0, At0, ct0, xt0, Ay0, cy0, xy0, rfl, hrd0, hld0, hcd0, hbd0, hwm0, hrt0, hlt0, hct0, hwt0, hry0, hly0, hcy0, hby0⟩ : ∃ (Ad : Option Addr) (cd : Nat) (xd : List (List E)) (mm : Int) (At : Option Addr) (ct : Nat) (xt : List Int) (Ay : Option Addr) (cy : Nat) (xy : List (List E)), v0 = .agg #[.slice Ad xd.length cd, .int .i64 mm, .slice At xt.length ct, .slice Ay xy.length cy] ∧
      RdRows W Ad xd ∧ xd.length ≤ cd ∧ cd ≤ 1048576 ∧ (∀ r ∈ xd, r.length ≤ 1048576) ∧ (Lit.int .i64 mm).wf = true ∧ Rd W At (intsZ xt) ∧ xt.length ≤ ct ∧ ct ≤ 1048576 ∧ (∀ x ∈ xt, (Lit.int .i64 x).wf = true) ∧ RdRows W Ay xy ∧ xy.length ≤ cy ∧ cy ≤ 1048576 ∧ (∀ r ∈ xy, r.length ≤ 1048576) := by
    have hB := bulk_bound hk (d := d0) (by simp)
    obtain ⟨u0, u1, u2, u3, y0, y1, y2, y3, n, rfl, rfl, t0, t1, t2, t3⟩ := open_agg4u Try.underlying96 (by kernel_rfl) (by kernel_rfl) (hval 0 96 v0 rfl rfl) h0
    simp only [Rows.uptoBulk, Rows.uptoBulkAll] at hB
    obtain ⟨A0, c0, z0, e0, a0, b0, g0, s0⟩ := open_rows_u Try.underlying77 Try.underlying24 Try.underlying5 (by kernel_rfl) (by kernel_rfl) t0 (by omega)
    simp at e0
    subst e0
    obtain ⟨n1, e1, _, w1⟩ := DataW.trod_int Try.underlying3 t1
    simp at e1
    subst e1
    obtain ⟨A2, c2, z2, e2, a2, b2, g2, s2⟩ := open_ints_u Try.underlying70 Try.underlying3 (by kernel_rfl) t2 (by omega)
    simp at e2
    subst e2
    obtain ⟨A3, c3, z3, e3, a3, b3, g3, s3⟩ := open_rows_u Try.underlying77 Try.underlying24 Try.underlying5 (by kernel_rfl) (by kernel_rfl) t3 (by omega)
    simp at e3
    subst e3
    exact ⟨_, _, _, n1, _, _, _, _, _, _, rfl, a0, b0, g0, s0, w1, a2, b2, g2, s2, a3, b3, g3, s3⟩
  have k1 := h1
  have lt1 : ∀ x ∈ p1, x.block < W.heap.size := by obtain ⟨m, hm⟩ := k1; exact DataW.trod_lt m _ _ _ hm
  obtain ⟨Ad1, cd1, xd1, mm1, At1, ct1, xt1, Ay1, cy1, xy1, rfl, hrd1, hld1, hcd1, hbd1, hwm1, hrt1, hlt1, hct1, hwt1, hry1, hly1, hcy1, hby1⟩ : ∃ (Ad : Option Addr) (cd : Nat) (xd : List (List E)) (mm : Int) (At : Option Addr) (ct : Nat) (xt : List Int) (Ay : Option Addr) (cy : Nat) (xy : List (List E)), v1 = .agg #[.slice Ad xd.length cd, .int .i64 mm, .slice At xt.length ct, .slice Ay xy.length cy] ∧
      RdRows W Ad xd ∧ xd.length ≤ cd ∧ cd ≤ 1048576 ∧ (∀ r ∈ xd, r.length ≤ 1048576) ∧ (Lit.int .i64 mm).wf = true ∧ Rd W At (intsZ xt) ∧ xt.length ≤ ct ∧ ct ≤ 1048576 ∧ (∀ x ∈ xt, (Lit.int .i64 x).wf = true) ∧ RdRows W Ay xy ∧ xy.length ≤ cy ∧ cy ≤ 1048576 ∧ (∀ r ∈ xy, r.length ≤ 1048576) := by
    have hB := bulk_bound hk (d := d1) (by simp)
    obtain ⟨u0, u1, u2, u3, y0, y1, y2, y3, n, rfl, rfl, t0, t1, t2, t3⟩ := open_agg4u Try.underlying96 (by kernel_rfl) (by kernel_rfl) (hval 1 96 v1 rfl rfl) h1
    simp only [Rows.uptoBulk, Rows.uptoBulkAll] at hB
    obtain ⟨A0, c0, z0, e0, a0, b0, g0, s0⟩ := open_rows_u Try.underlying77 Try.underlying24 Try.underlying5 (by kernel_rfl) (by kernel_rfl) t0 (by omega)
    simp at e0
    subst e0
    obtain ⟨n1, e1, _, w1⟩ := DataW.trod_int Try.underlying3 t1
    simp at e1
    subst e1
    obtain ⟨A2, c2, z2, e2, a2, b2, g2, s2⟩ := open_ints_u Try.underlying70 Try.underlying3 (by kernel_rfl) t2 (by omega)
    simp at e2
    subst e2
    obtain ⟨A3, c3, z3, e3, a3, b3, g3, s3⟩ := open_rows_u Try.underlying77 Try.underlying24 Try.underlying5 (by kernel_rfl) (by kernel_rfl) t3 (by omega)
    simp at e3
    subst e3
    exact ⟨_, _, _, n1, _, _, _, _, _, _, rfl, a0, b0, g0, s0, w1, a2, b2, g2, s2, a3, b3, g3, s3⟩
  clear hA0 hval0
  refine (walk W Ad0 cd0 xd0 mm0 At0 ct0 xt0 Ay0 cy0 xy0 hrd0 hld0 hcd0 hbd0 hwm0 hrt0 hlt0 hct0 hwt0 hry0 hly0 hcy0 hby0 Ad1 cd1 xd1 mm1 At1 ct1 xt1 Ay1 cy1 xy1 hrd1 hld1 hcd1 hbd1 hwm1 hrt1 hlt1 hct1 hwt1 hry1 hly1 hcy1 hby1).mono fun e W' ⟨he, bel⟩ => ?_
  subst he
  exact ⟨_, rfl, _, _, _, [], _, [], hW', trodAll_mk1 (shut_bool Try.underlying4 _), (trodAll_cons_mk (Below.trod laidOut (by kernel_rfl) (of_decide_eq_true (by kernel_rfl)) k0 bel lt0) (trodAll_cons_mk (Below.trod laidOut (by kernel_rfl) (of_decide_eq_true (by kernel_rfl)) k1 bel lt1) trodAll_mk0)), rfl, bel.frame _, fun h => by cases h⟩

theorem proved : Rows.MendFarUptoSaid :=
  OpenClaim.holds_of_cond 21 Try.f21 rfl rfl rfl rfl rfl rfl rfl ⟨rfl, rfl, rfl, rfl, rfl⟩ rfl rfl rfl rfl rfl (by kernel_rfl) Try.func21 (by kernel_rfl)
    (of_decide_eq_true (by kernel_rfl)) (by unfold Func.isWrapper; first | (rw [if_pos (by decide +kernel)]; kernel_rfl) | (rw [if_neg (by decide +kernel)]; exact ⟨rfl, rfl⟩))
    (fun os started H enc _ F => lifted os started H enc F)
#print axioms proved
end Go.Proofs.Ytemnlcfabaocbaa.mendFar
