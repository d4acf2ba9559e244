/-
  The walks of the field's functions that the first seat reaches alone: the generator's powers, the logarithm, the order, and what is asked first.
-/
import Derived.Test.YtdimanoodfepiaaField
namespace Go.Proofs.Ytdimanoodfepiaa
open Go.RowKit Gf

theorem awake_any (w : World) :
    Calls Try.prog 30 #[] w fun e w' => e = .returned (.bool true) ∧ w = w' := by
  have h1 : (E.of 2 * E.of 128) = E.of 29 := by decide +kernel
  have h2 : (E.of 29 * E.inv (E.of 128)) = E.of 2 := by apply E.ext; rw [E.val_mul, E.inv_val]; decide +kernel
  have H1 := Lib.hid h1
  have H2 := Lib.hid h2
  clear h1 h2
  go_enter Try.func30, Try.ntmps30
  go_wp2_with fail
  refine (over_lit _ _ (E.of 29) (E.of 128) rfl rfl (by decide) _).mono ?_
  rintro e w' ⟨rfl, rfl⟩
  rw [H2.out]
  go_wp2_with fail
  refine (times_lit _ _ (E.of 2) (E.of 128) rfl rfl _).mono ?_
  rintro e w' ⟨rfl, rfl⟩
  rw [H1.out]
  go_wp2
  go_ret
  exact ⟨rfl, rfl⟩
theorem exp_any (n : Int) (hn : (Lit.int .i64 n).wf = true) (w : World) :
    Calls Try.prog 41 #[.int .i64 n] w fun e w' => e = .returned (.int .u8 (powZ (E.of 2) n).val) ∧ w = w' := by
  go_enter Try.func41, Try.ntmps41
  go_wp2_with fail
  refine (pow_any (E.of 2) n hn _).mono ?_
  rintro e w' ⟨rfl, rfl⟩
  go_wp2
  go_ret
  exact ⟨rfl, rfl⟩
end Go.Proofs.Ytdimanoodfepiaa
