/-
  The law 'FieldLaws': for every input it returns true and leaves its arguments as they were. The frame is the kit's shell; the walk is ours. No condition.
-/
import Derived.Test.YtdimanoodfepiaaRows
import Derived.Test.YtdimanoodfepiaaFieldMore
import Derived.WalkKit
import Derived.ProofKit
import Derived.OpenShut
import Derived.ShutString
namespace Go.Proofs.Ytdimanoodfepiaa.fieldLaws
open Go.ChangeShapes Go.WideShapes Go.ChangeAt Go.RowKit
open Go.ChangeMaps (open_string shut_string)
set_option linter.unusedVariables false      -- a walk need not use every 'w<i>' (that an integer argument fits its kind)

theorem own : ownKnob Try.prog.godebug = none := by kernel_rfl

open Gf
theorem times_c1 (x : E) (w : World) : Calls Try.prog 31 #[.int .u8 x.val, .int .u8 1] w fun e w' => e = .returned (.int .u8 (x * 1).val) ∧ w = w' := times_any x 1 w
theorem times_c0 (x : E) (w : World) : Calls Try.prog 31 #[.int .u8 x.val, .int .u8 0] w fun e w' => e = .returned (.int .u8 (x * 0).val) ∧ w = w' := times_any x 0 w
theorem plus_c0 (x : E) (w : World) : Calls Try.prog 29 #[.int .u8 x.val, .int .u8 0] w fun e w' => e = .returned (.int .u8 (x + 0).val) ∧ w = w' := plus_any x 0 w

set_option maxHeartbeats 1000000 in

theorem walk (a0 : Int) (a1 : Int) (a2 : Int) (w0 : (Lit.int .u8 a0).wf = true) (w1 : (Lit.int .u8 a1).wf = true) (w2 : (Lit.int .u8 a2).wf = true) (w : World) :
    Calls Try.prog 9 #[.int .u8 a0, .int .u8 a1, .int .u8 a2] w fun e w' => e = .returned (.bool true) ∧ Grown w w' := by
  obtain ⟨x, rfl⟩ := toE w0
  obtain ⟨y, rfl⟩ := toE w1
  obtain ⟨z, rfl⟩ := toE w2
  have h1 := E.add_comm x y
  have h2 := E.mul_comm x y
  have h3 := E.add_assoc x y z
  rw [h1] at h3
  have h4 := E.mul_assoc x y z
  rw [h2] at h4
  have h5 := E.mul_add x y z
  rw [h2] at h5
  have h6 : ((x + 0).val : Int) = x.val := by rw [E.add_zero]
  have h7 : ((x * 1).val : Int) = x.val := by rw [E.mul_one]
  have h8 : (((x * 0).val : Int) != 0) = false := by rw [E.mul_zero]; rfl
  have h9 := E.add_self x
  by_cases hy : y = 0
  · subst hy
    have h10 := E.mul_zero x
    rw [h2] at h10
    have e0 : E.inv 0 = 0 := E.zero_pow (by decide)
    have h11 := E.zero_mul
    have h12 := E.zero_add
    have h13 := E.mul_zero
    clear h3 h4 h5
    have z1 : (((0 : E).val : Int) == 0) = true := rfl
    have z2 : (((0 : E).val : Int) != 0) = false := rfl
    go_enter Try.func9, Try.ntmps9
    go_wp2_with (first
      | (go_at_call 29; with_reducible refine (plus_any _ _ _).mono ?_; rintro e w' ⟨rfl, rfl⟩)
      | (go_at_call 29; with_reducible refine (plus_c0 _ _).mono ?_; rintro e w' ⟨rfl, rfl⟩)
      | (go_at_call 31; with_reducible refine (times_any _ _ _).mono ?_; rintro e w' ⟨rfl, rfl⟩)
      | (go_at_call 31; with_reducible refine (times_c1 _ _).mono ?_; rintro e w' ⟨rfl, rfl⟩)
      | (go_at_call 31; with_reducible refine (times_c0 _ _).mono ?_; rintro e w' ⟨rfl, rfl⟩)
      | (go_at_call 13; with_reducible refine (isZero_any _ _).mono ?_; rintro e w' ⟨rfl, rfl⟩)
      | (go_at_call 35; with_reducible refine (inverse_any _ _).mono ?_; rintro e w' ⟨rfl, rfl⟩)
      | (go_at_call 33; with_reducible refine (over_zero _ _).mono ?_; rintro e w' ⟨rfl, rfl⟩)
      | (go_at_call 30; with_reducible refine (awake_any _).mono ?_; rintro e w' ⟨rfl, rfl⟩))

    go_ret
    exact ⟨rfl, by repeat (first | exact Grown.refl _ | apply Grown.drew | apply Grown.alloc)⟩
  · have hb : ((y.val : Int) == 0) = false := (eqE y 0).trans (by simp [hy])
    have hd : decide (y = 0) = false := decide_eq_false hy
    have hi := E.mul_inv hy
    have ho : (((y * x) * E.inv y).val : Int) = x.val := by rw [← h2, E.mul_assoc, hi, E.mul_one]
    have hi2 : (((y * E.inv y).val : Int) == 1) = true := by rw [hi]; rfl
    have Hy := Lib.hid hy
    clear hy hi
    go_enter Try.func9, Try.ntmps9
    go_wp2_with (first
      | (go_at_call 29; with_reducible refine (plus_any _ _ _).mono ?_; rintro e w' ⟨rfl, rfl⟩)
      | (go_at_call 29; with_reducible refine (plus_c0 _ _).mono ?_; rintro e w' ⟨rfl, rfl⟩)
      | (go_at_call 31; with_reducible refine (times_any _ _ _).mono ?_; rintro e w' ⟨rfl, rfl⟩)
      | (go_at_call 31; with_reducible refine (times_c1 _ _).mono ?_; rintro e w' ⟨rfl, rfl⟩)
      | (go_at_call 31; with_reducible refine (times_c0 _ _).mono ?_; rintro e w' ⟨rfl, rfl⟩)
      | (go_at_call 13; with_reducible refine (isZero_any _ _).mono ?_; rintro e w' ⟨rfl, rfl⟩)
      | (go_at_call 35; with_reducible refine (inverse_any _ _).mono ?_; rintro e w' ⟨rfl, rfl⟩)
      | (go_at_call 33; with_reducible refine (over_any _ _ Hy.out _).mono ?_; rintro e w' ⟨rfl, rfl⟩)
      | (go_at_call 30; with_reducible refine (awake_any _).mono ?_; rintro e w' ⟨rfl, rfl⟩))

    go_ret
    exact ⟨rfl, by repeat (first | exact Grown.refl _ | apply Grown.drew | apply Grown.alloc)⟩

set_option maxRecDepth 100000 in
theorem lifted (os : Os) (started : os.Started) (H : Type) (enc : TypeId × Value → H) :
    ReturnsInHanded {} Try.checked os 9 .any (Rows.fieldLawsSpec.pre6 enc Try.prog Try.f9 Rows.fieldLawsRow.domain false) (Rows.fieldLawsSpec.post enc Try.prog Try.f9 false true false false) := by
  refine returnsInHanded_of_change (C := Try.checked) own started (by kernel_rfl) Try.func9
    (ChangeSpec.witness6 (enc := enc) (C := Try.checked) false ⟨#[], #[.int .u8 0, .int .u8 0, .int .u8 0], []⟩ 8 (by kernel_rfl) (by kernel_rfl) (by kernel_rfl) (by kernel_rfl)) ?_
  intro W base args ds gs before hval0 hW hcnd _
  have hval : ∀ (j : Nat) t v, Try.f9.params[j]? = some t → args[j]? = some v → Value.okWide Try.prog W .any base t v := hval0
  have hW' := hW
  obtain ⟨p, q, hA0, hV, rfl, hfz, hnd⟩ := hW
  have hA : DataW.TrodAll enc Try.prog W 0 (fun _ => true) true Try.f9.params.toList args.toList ds p := hA0
  rw [Try.params9] at hA hval
  obtain ⟨v0, vs0, d0, ds0, p0, q0, hargs, rfl, rfl, h0, r0⟩ := trodAll_cons hA
  obtain ⟨v1, vs1, d1, ds1, p1, q1, rfl, rfl, rfl, h1, r1⟩ := trodAll_cons r0
  obtain ⟨v2, vs2, d2, ds2, p2, q2, rfl, rfl, rfl, h2, r2⟩ := trodAll_cons r1
  obtain ⟨rfl, rfl, rfl⟩ := trodAll_nil r2
  obtain rfl : args = #[v0, v1, v2] := by cases args; simp_all
  obtain ⟨rfl, rfl⟩ := trodVars_none hV
  obtain ⟨a0, rfl, rfl, rfl, w0⟩ := open_int Try.underlying5 (hval 0 5 v0 rfl rfl) h0
  obtain ⟨a1, rfl, rfl, rfl, w1⟩ := open_int Try.underlying5 (hval 1 5 v1 rfl rfl) h1
  obtain ⟨a2, rfl, rfl, rfl, w2⟩ := open_int Try.underlying5 (hval 2 5 v2 rfl rfl) h2
  clear hA0 hval0
  simp only [List.append_nil] at hW'
  refine (walk a0 a1 a2 w0 w1 w2 W).mono fun e W' ⟨he, hg⟩ => ?_
  subst he
  exact ⟨_, rfl, post_of_same (pa := []) (pv := []) hW' (fun _ _ _ => (trodAll_cons_mk (shut_bool Try.underlying4 _) trodAll_mk0)) (fun sp _ => (trodAll_cons_mk (shut_int Try.underlying5 w0) (trodAll_cons_mk (shut_int Try.underlying5 w1) (trodAll_cons_mk (shut_int Try.underlying5 w2) trodAll_mk0)))) (fun _ _ => rfl) rfl
    (hg.frame _) hg.2.1 (ok_one (by kernel_rfl) rfl (okWide_bool_mk Try.underlying4 _))⟩

theorem over : Rows.fieldLawsRow.holds Try.pinned (OpenSpec.ofChange Rows.fieldLawsSpec) :=
  OpenClaim.holds_of_wide 9 Try.f9 rfl rfl rfl rfl rfl rfl rfl ⟨rfl, rfl, rfl, rfl, rfl⟩ rfl rfl rfl rfl rfl (by kernel_rfl) Try.func9 (by kernel_rfl)
    (of_decide_eq_true (by kernel_rfl)) (by unfold Func.isWrapper; first | (rw [if_pos (by decide +kernel)]; kernel_rfl) | (rw [if_neg (by decide +kernel)]; exact ⟨rfl, rfl⟩))
    (fun os started H enc _ => lifted os started H enc)

theorem proved : Rows.FieldLawsSaid :=
  over
#print axioms proved
end Go.Proofs.Ytdimanoodfepiaa.fieldLaws
