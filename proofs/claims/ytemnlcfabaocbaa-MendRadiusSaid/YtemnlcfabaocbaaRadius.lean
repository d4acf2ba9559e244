/-
  The walks of the two Radius functions.
-/
import Derived.Test.YtemnlcfabaocbaaRows
import Derived.Test.YtemnlcfabaocbaaBits
import Derived.WalkSpells
import Derived.WalkLawsBesides
import Derived.Lib.Hide
namespace Go.Proofs.Ytemnlcfabaocbaa
open Go.RowKit Gf

def rad (n k l : Int) : Int := if k < 1 ∨ n < k ∨ 255 < n ∨ l < 0 ∨ n - k < l then -1 else (n - k - l) / 2
theorem rad_bad {n k l : Int} (h : k < 1 ∨ n < k ∨ 255 < n ∨ l < 0 ∨ n - k < l) : -1 = rad n k l := by rw [rad, if_pos h]
theorem rad_ok {n k l : Int} (h : ¬ (k < 1 ∨ n < k ∨ 255 < n ∨ l < 0 ∨ n - k < l)) : (n - k - l) / 2 = rad n k l := by rw [rad, if_neg h]
theorem radius_any (n k l : Int) (hn : (Lit.int .i64 n).wf = true) (hk : (Lit.int .i64 k).wf = true) (hl : (Lit.int .i64 l).wf = true) (w : World) :
    Calls Try.prog 23 #[.int .i64 n, .int .i64 k, .int .i64 l] w fun e w' => e = .returned (.int .i64 (rad n k l)) ∧ w = w' := by
  have b0 := bounds_i64 hn
  have b1 := bounds_i64 hk
  have b2 := bounds_i64 hl
  by_cases h1 : k < 1
  · go_enter Try.func23, Try.ntmps23
    go_wp2
    go_ret
    exact ⟨ret_int (rad_bad (by omega)), rfl⟩
  by_cases h2 : n < k
  · go_enter Try.func23, Try.ntmps23
    go_wp2
    go_ret
    exact ⟨ret_int (rad_bad (by omega)), rfl⟩
  by_cases h3 : 255 < n
  · go_enter Try.func23, Try.ntmps23
    go_wp2
    go_ret
    exact ⟨ret_int (rad_bad (by omega)), rfl⟩
  by_cases h4 : l < 0
  · go_enter Try.func23, Try.ntmps23
    go_wp2
    go_ret
    exact ⟨ret_int (rad_bad (by omega)), rfl⟩
  by_cases h5 : n - k < l
  · go_enter Try.func23, Try.ntmps23
    go_wp2
    go_ret
    exact ⟨ret_int (rad_bad (by omega)), rfl⟩
  · go_enter Try.func23, Try.ntmps23
    go_wp2
    go_ret
    exact ⟨ret_int (rad_ok (by omega)), rfl⟩
theorem refRadius_any (n k l : Int) (hn : (Lit.int .i64 n).wf = true) (hk : (Lit.int .i64 k).wf = true) (hl : (Lit.int .i64 l).wf = true) (w : World) :
    Calls Try.prog 24 #[.int .i64 n, .int .i64 k, .int .i64 l] w fun e w' => e = .returned (.int .i64 (rad n k l)) ∧ w = w' := by
  have b0 := bounds_i64 hn
  have b1 := bounds_i64 hk
  have b2 := bounds_i64 hl
  by_cases h1 : k < 1
  · go_enter Try.func24, Try.ntmps24
    go_wp2
    go_ret
    exact ⟨ret_int (rad_bad (by omega)), rfl⟩
  by_cases h2 : n < k
  · go_enter Try.func24, Try.ntmps24
    go_wp2
    go_ret
    exact ⟨ret_int (rad_bad (by omega)), rfl⟩
  by_cases h3 : 255 < n
  · go_enter Try.func24, Try.ntmps24
    go_wp2
    go_ret
    exact ⟨ret_int (rad_bad (by omega)), rfl⟩
  by_cases h4 : l < 0
  · go_enter Try.func24, Try.ntmps24
    go_wp2
    go_ret
    exact ⟨ret_int (rad_bad (by omega)), rfl⟩
  by_cases h5 : n - k < l
  · go_enter Try.func24, Try.ntmps24
    go_wp2
    go_ret
    exact ⟨ret_int (rad_bad (by omega)), rfl⟩
  · go_enter Try.func24, Try.ntmps24
    go_wp2
    go_ret
    exact ⟨ret_int (rad_ok (by omega)), rfl⟩
end Go.Proofs.Ytemnlcfabaocbaa
