/-
  The law 'FieldCycle': for every input it returns true and leaves its arguments as they were. The frame is the kit's shell; the walk is ours. No condition.
-/
import Derived.Test.YtdimanoodfepiaaRows
import Derived.Test.YtdimanoodfepiaaFieldLog
import Derived.Test.YtdimanoodfepiaaPost
import Derived.WalkKit
import Derived.ProofKit
import Derived.OpenShut
import Derived.ShutString
namespace Go.Proofs.Ytdimanoodfepiaa.fieldCycle
open Go.ChangeShapes Go.WideShapes Go.ChangeAt Go.RowKit
open Go.ChangeMaps (open_string shut_string)
set_option linter.unusedVariables false      -- a walk need not use every 'w<i>' (that an integer argument fits its kind)

theorem own : ownKnob Try.prog.godebug = none := by kernel_rfl

open Gf
theorem powZ_ne {x : E} (hx : x ≠ 0) (z : Int) : powZ x z = E.pow x (z % 255).toNat := by
  by_cases h : z = 0
  · subst h; rfl
  · rw [powZ, if_neg h, if_neg hx]
theorem powZ_add {x : E} (hx : x ≠ 0) (a b : Int) : powZ x a * powZ x b = powZ x (a + b) := by
  rw [powZ_ne hx, powZ_ne hx, powZ_ne hx, ← E.pow_add, ← E.pow_mod hx ((a % 255).toNat + (b % 255).toNat)]
  congr 1
  omega
theorem tmod_cong (n : Int) : n.tmod 255 % 255 = n % 255 := by
  have h := Int.tmod_add_mul_tdiv n 255
  omega
theorem powZ_tmod {x : E} (hx : x ≠ 0) (n : Int) : powZ x (n.tmod 255) = powZ x n := by
  rw [powZ_ne hx, powZ_ne hx, tmod_cong]
theorem powZ_255 {x : E} (hx : x ≠ 0) (n : Int) : powZ x (n + 255) = powZ x n := by
  rw [powZ_ne hx, powZ_ne hx]
  congr 1
  omega
theorem tmod_bd (n : Int) : -255 < n.tmod 255 ∧ n.tmod 255 < 255 := by
  have h1 := Int.tmod_lt_of_pos n (b := 255) (by decide)
  have h2 := Int.lt_tmod_of_pos n (b := 255) (by decide)
  omega
theorem neE {x y : E} (h : x = y) : (((x.val : Int)) != (y.val : Int)) = false := by rw [h]; simp
theorem one_iff {x : E} {o : Nat} (hx : x ≠ 0) (ho : E.IsOrd x o) (z : Int) : (((powZ x z).val : Int) == 1) = (z.tmod (o : Int) == 0) := by
  have h1 : (((powZ x z).val : Int) == 1) = decide (powZ x z = 1) := eqE _ 1
  rw [h1, Bool.eq_iff_iff, decide_eq_true_iff, beq_iff_eq, powZ_ne hx, ho.iff]
  have hd := ho.div
  have hp := ho.1
  obtain ⟨q, hq⟩ := Nat.dvd_of_mod_eq_zero hd
  have ho' : ((255 : Nat) : Int) = (o : Int) * (q : Int) := by rw [hq]; simp
  rw [← Int.dvd_iff_tmod_eq_zero, ← Nat.dvd_iff_mod_eq_zero, ← Int.natCast_dvd_natCast, show (((z % 255).toNat : Nat) : Int) = z % 255 by omega]
  have hz := Int.mul_ediv_add_emod z 255
  constructor
  · intro h
    rw [← hz]
    exact Int.dvd_add (Int.dvd_trans ⟨q, ho'⟩ (Int.dvd_mul_right _ _)) h
  · intro h
    have : z % 255 = z - 255 * (z / 255) := by omega
    rw [this]
    exact Int.dvd_sub h (Int.dvd_trans ⟨q, ho'⟩ (Int.dvd_mul_right _ _))
theorem order_gen (w : World) :
    Calls Try.prog 39 #[.int .u8 2] w fun e w' => e = .returned (.tuple #[.int .i64 255, .int .i64 0]) ∧ Below w.heap.size w w' := order_any E.gen 255 E.ord_gen w
theorem pow_gen (n : Int) (hn : (Lit.int .i64 n).wf = true) (w : World) :
    Calls Try.prog 32 #[.int .u8 2, .int .i64 n] w fun e w' => e = .returned (.int .u8 (powZ (E.of 2) n).val) ∧ w = w' := pow_any (E.of 2) n hn w

set_option maxRecDepth 20000 in
set_option maxHeartbeats 2000000 in

theorem walk (a0 : Int) (a1 : Int) (a2 : Int) (w0 : (Lit.int .u8 a0).wf = true) (w1 : (Lit.int .i64 a1).wf = true) (w2 : (Lit.int .i64 a2).wf = true) (w : World) :
    Calls Try.prog 11 #[.int .u8 a0, .int .i64 a1, .int .i64 a2] w fun e w' => e = .returned (.bool true) ∧ Below w.heap.size w w' := by
  obtain ⟨x, rfl⟩ := toE w0
  have hx := x.lt
  have hg : E.of 2 ≠ 0 := by decide
  have f1 := neE (powZ_add hg (a1.tmod 255) (a2.tmod 255))
  have f2 := neE (powZ_tmod hg a1).symm
  have f3 := neE (powZ_255 hg (a1.tmod 255))
  have b1 := tmod_bd a1
  have b2 := tmod_bd a2
  clear hg
  by_cases h0 : x = 0
  · subst h0
    have h0' : (((0 : E).val : Int) == 0) = true := rfl
    go_enter Try.func11, Try.ntmps11
    go_wp2_with (first
      | (go_at_call 30; with_reducible refine (awake_any _).mono ?_; rintro e w' ⟨rfl, rfl⟩)
      | (go_at_call 37; with_reducible refine (log_zero _).mono ?_; rintro e wa ⟨rfl, hba⟩)
      | (go_at_call 39; with_reducible refine (order_zero _).mono ?_; rintro e wb ⟨rfl, hbb⟩)
      | (go_at_call 39; with_reducible refine (order_gen _).mono ?_; rintro e wc ⟨rfl, hbc⟩)
      | (go_at_call 41; with_reducible refine (exp_any _ (WalkArith.wf_i64 (by omega)) _).mono ?_; rintro e w' ⟨rfl, rfl⟩)
      | (go_at_call 41; with_reducible refine (exp_any _ w1 _).mono ?_; rintro e w' ⟨rfl, rfl⟩)
      | (go_at_call 31; with_reducible refine (times_any _ _ _).mono ?_; rintro e w' ⟨rfl, rfl⟩)
      | (go_at_call 32; with_reducible refine (pow_gen _ w1 _).mono ?_; rintro e w' ⟨rfl, rfl⟩))
    go_ret
    exact ⟨rfl, hbc.trans ((hba.trans (hbb.mono hba.size)).mono hbc.size)⟩
  · obtain ⟨l, hl⟩ := E.has_log h0
    obtain ⟨o, ho⟩ := E.has_ord h0
    have h0' : ((x.val : Int) == 0) = false := (eqE x 0).trans (decide_eq_false h0)
    have f4 : ((powZ (E.of 2) (l : Int)).val : Int) = x.val := by rw [powZ_nat (by decide), ← hl.2]; rfl
    have f5 := one_iff h0 ho (a1.tmod 255)
    have f6 : (((powZ x (o : Int)).val : Int) == 1) = true := by rw [powZ_nat h0, ho.2.2.1]; rfl
    have f7 : ((powZ x (a1.tmod 255) * powZ x (a2.tmod 255)).val : Int) = (powZ x (a1.tmod 255 + a2.tmod 255)).val := by rw [powZ_add h0]
    have f8 : ((255 : Int) % (o : Int) != 0) = false := by
      have h := ho.div
      have : ((255 : Int) % (o : Int)) = ((255 % o : Nat) : Int) := by simp
      rw [this, h]; rfl
    have b3 := hl.1
    have b4 := ho.1
    have b5 := ho.2.1
    have HL := Lib.hid hl
    have HO := Lib.hid ho
    clear h0 hl ho
    go_enter Try.func11, Try.ntmps11
    go_wp2_with (first
      | (go_at_call 30; with_reducible refine (awake_any _).mono ?_; rintro e w' ⟨rfl, rfl⟩)
      | (go_at_call 37; with_reducible refine (log_any _ _ HL.out _).mono ?_; rintro e wa ⟨rfl, hba⟩)
      | (go_at_call 39; with_reducible refine (order_any _ _ HO.out _).mono ?_; rintro e wb ⟨rfl, hbb⟩)
      | (go_at_call 39; with_reducible refine (order_gen _).mono ?_; rintro e wc ⟨rfl, hbc⟩)
      | (go_at_call 41; with_reducible refine (exp_any _ (WalkArith.wf_i64 (by omega)) _).mono ?_; rintro e w' ⟨rfl, rfl⟩)
      | (go_at_call 41; with_reducible refine (exp_any _ w1 _).mono ?_; rintro e w' ⟨rfl, rfl⟩)
      | (go_at_call 31; with_reducible refine (times_any _ _ _).mono ?_; rintro e w' ⟨rfl, rfl⟩)
      | (go_at_call 32; with_reducible refine (pow_gen _ w1 _).mono ?_; rintro e w' ⟨rfl, rfl⟩)
      | (go_at_call 32; with_reducible refine (pow_any _ _ (WalkArith.wf_i64 (by omega)) _).mono ?_; rintro e w' ⟨rfl, rfl⟩))
    go_quiet (first | (go_at_call 32; with_reducible exact quiet_left (pow_any _ _ (WalkArith.wf_i64 (by omega)) _)) | (go_at_call 31; with_reducible exact quiet_left (times_any _ _ _)))
    go_wp2
    go_ret
    exact ⟨rfl, below_drewN (hbc.trans ((hba.trans (hbb.mono hba.size)).mono hbc.size)) _⟩

set_option maxRecDepth 100000 in
theorem lifted (os : Os) (started : os.Started) (H : Type) (enc : TypeId × Value → H) :
    ReturnsInHanded {} Try.checked os 11 .any (Rows.fieldCycleSpec.pre6 enc Try.prog Try.f11 Rows.fieldCycleRow.domain false) (Rows.fieldCycleSpec.post enc Try.prog Try.f11 false true false false) := by
  refine returnsInHanded_of_change (C := Try.checked) own started (by kernel_rfl) Try.func11
    (ChangeSpec.witness6 (enc := enc) (C := Try.checked) false ⟨#[], #[.int .u8 0, .int .i64 0, .int .i64 0], []⟩ 8 (by kernel_rfl) (by kernel_rfl) (by kernel_rfl) (by kernel_rfl)) ?_
  intro W base args ds gs before hval0 hW hcnd _
  have hval : ∀ (j : Nat) t v, Try.f11.params[j]? = some t → args[j]? = some v → Value.okWide Try.prog W .any base t v := hval0
  have hW' := hW
  obtain ⟨p, q, hA0, hV, rfl, hfz, hnd⟩ := hW
  have hA : DataW.TrodAll enc Try.prog W 0 (fun _ => true) true Try.f11.params.toList args.toList ds p := hA0
  rw [Try.params11] at hA hval
  obtain ⟨v0, vs0, d0, ds0, p0, q0, hargs, rfl, rfl, h0, r0⟩ := trodAll_cons hA
  obtain ⟨v1, vs1, d1, ds1, p1, q1, rfl, rfl, rfl, h1, r1⟩ := trodAll_cons r0
  obtain ⟨v2, vs2, d2, ds2, p2, q2, rfl, rfl, rfl, h2, r2⟩ := trodAll_cons r1
  obtain ⟨rfl, rfl, rfl⟩ := trodAll_nil r2
  obtain rfl : args = #[v0, v1, v2] := by cases args; simp_all
  obtain ⟨rfl, rfl⟩ := trodVars_none hV
  obtain ⟨a0, rfl, rfl, rfl, w0⟩ := open_int Try.underlying5 (hval 0 5 v0 rfl rfl) h0
  obtain ⟨a1, rfl, rfl, rfl, w1⟩ := open_int Try.underlying3 (hval 1 3 v1 rfl rfl) h1
  obtain ⟨a2, rfl, rfl, rfl, w2⟩ := open_int Try.underlying3 (hval 2 3 v2 rfl rfl) h2
  clear hA0 hval0
  simp only [List.append_nil] at hW'
  refine (walk a0 a1 a2 w0 w1 w2 W).mono fun e W' ⟨he, hg⟩ => ?_
  subst he
  exact ⟨_, rfl, post_of_below (pa := []) (pv := []) hW' (fun _ _ _ => (trodAll_cons_mk (shut_bool Try.underlying4 _) trodAll_mk0)) (fun sp _ => (trodAll_cons_mk (shut_int Try.underlying5 w0) (trodAll_cons_mk (shut_int Try.underlying3 w1) (trodAll_cons_mk (shut_int Try.underlying3 w2) trodAll_mk0)))) (fun _ _ => rfl) rfl
    hg (ok_one (by kernel_rfl) rfl (okWide_bool_mk Try.underlying4 _))⟩

theorem over : Rows.fieldCycleRow.holds Try.pinned (OpenSpec.ofChange Rows.fieldCycleSpec) :=
  OpenClaim.holds_of_wide 11 Try.f11 rfl rfl rfl rfl rfl rfl rfl ⟨rfl, rfl, rfl, rfl, rfl⟩ rfl rfl rfl rfl rfl (by kernel_rfl) Try.func11 (by kernel_rfl)
    (of_decide_eq_true (by kernel_rfl)) (by unfold Func.isWrapper; first | (rw [if_pos (by decide +kernel)]; kernel_rfl) | (rw [if_neg (by decide +kernel)]; exact ⟨rfl, rfl⟩))
    (fun os started H enc _ => lifted os started H enc)

theorem proved : Rows.FieldCycleSaid :=
  over
#print axioms proved
end Go.Proofs.Ytdimanoodfepiaa.fieldCycle
