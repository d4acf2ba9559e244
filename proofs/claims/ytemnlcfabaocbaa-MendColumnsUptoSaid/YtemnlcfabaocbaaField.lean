/-
  The walks of the field's functions: what each computes.
-/
import Derived.Test.YtemnlcfabaocbaaRows
import Derived.Test.YtemnlcfabaocbaaBits
import Derived.WalkSpells
import Derived.WalkLawsBesides
import Derived.Deep.QuietTactic
import Derived.BigQuiet
import Derived.Lib.Hide
namespace Go.Proofs.Ytemnlcfabaocbaa
open Go.RowKit Gf

theorem quiet_left {P : Program} {f : FuncId} {args : Array Value} {w : World} {n : Nat} {v : Value}
    (h : Calls P f args (w.drewN n) fun e w' => e = .returned v ∧ w.drewN n = w') : Calls P f args (w.drewN n) fun e w'' => e = .returned v ∧ ∃ m, w'' = w.drewN m :=
  h.mono fun _ _ ⟨he, hm⟩ => ⟨he, n, hm.symm⟩
theorem quiet_add_left {P : Program} {f : FuncId} {args : Array Value} {w : World} {a n : Nat} {v : Value}
    (h : Calls P f args (w.drewN (a + n)) fun e w' => e = .returned v ∧ w.drewN (a + n) = w') :
    Calls P f args (w.drewN (a + n)) fun e w'' => e = .returned v ∧ ∃ m, w'' = w.drewN (a + m) :=
  h.mono fun _ _ ⟨he, hm⟩ => ⟨he, n, hm.symm⟩

theorem plus_any (x y : E) (w : World) :
    Calls Try.prog 57 #[.int .u8 x.val, .int .u8 y.val] w fun e w' => e = .returned (.int .u8 (x + y).val) ∧ w = w' := by
  have hx := bits_u8_xor x y
  go_enter Try.func57, Try.ntmps57
  go_wp2
  go_ret
  exact ⟨rfl, rfl⟩
theorem isZero_any (x : E) (w : World) :
    Calls Try.prog 85 #[.int .u8 x.val] w fun e w' => e = .returned (.bool (decide (x = 0))) ∧ w = w' := by
  go_enter Try.func85, Try.ntmps85
  go_wp2
  go_ret
  exact ⟨ret_bool (eqE x 0), rfl⟩

/-- One step of the product, as the program has it. -/
theorem bit_step (b : Nat) (k : Nat) (hb : b < 256) : bits BinOp.and IntKind.u8 ((b : Int) / 2 ^ k) 1 = ((b / 2 ^ k % 2 : Nat) : Int) := by
  have h : ((b : Int) / 2 ^ k) = ((b / 2 ^ k : Nat) : Int) := by simp
  rw [h]
  exact bits_u8_and1 _ (Nat.lt_of_le_of_lt (Nat.div_le_self _ _) hb)
theorem xt_big (X : Nat) (h : X < 256) (h1 : 255 < (X : Int) * 2) : bits BinOp.xor IntKind.i64 ((X : Int) * 2) 285 = (xt X : Int) := by
  have e : ((X : Int) * 2) = ((2 * X : Nat) : Int) := by omega
  rw [e, show (285 : Int) = ((285 : Nat) : Int) from rfl, bits_i64_xor _ _ (by omega) (by decide)]
  rw [xt, if_pos (by omega)]
theorem xt_small (X : Nat) (h1 : (X : Int) * 2 ≤ 255) : (X : Int) * 2 = (xt X : Int) := by
  rw [xt, if_neg (by omega)]; omega
theorem acc_yes (a b k : Nat) (ha : a < 256) (hb : b < 256) (h : (bits BinOp.and IntKind.u8 ((b : Int) / 2 ^ k) 1 == 1) = true) :
    bits BinOp.xor IntKind.i64 (acc a b k : Int) (xtn a k : Int) = (acc a b (k + 1) : Int) := by
  rw [bit_step b k hb, beq_iff_eq] at h
  rw [bits_i64_xor _ _ (Nat.lt_trans (acc_lt b ha k) (by decide)) (Nat.lt_trans (xtn_lt ha k) (by decide))]
  rw [acc, if_pos (by omega)]
theorem acc_no (a b k : Nat) (hb : b < 256) (h : (bits BinOp.and IntKind.u8 ((b : Int) / 2 ^ k) 1 == 1) = false) :
    (acc a b k : Int) = (acc a b (k + 1) : Int) := by
  rw [bit_step b k hb, beq_eq_false_iff_ne] at h
  rw [acc, if_neg (by omega)]

theorem times_any (x y : E) (w : World) :
    Calls Try.prog 58 #[.int .u8 x.val, .int .u8 y.val] w fun e w' => e = .returned (.int .u8 (x * y).val) ∧ w = w' := by
  obtain ⟨a, ha⟩ := x
  obtain ⟨b, hb⟩ := y
  simp only
  go_enter Try.func58, Try.ntmps58
  go_wp2
  go_loop [5, 6, 10] (fun p x i => ∃ k : Nat, k ≤ 8 ∧ i = .int .i64 k ∧ p = .int .i64 (acc a b k) ∧ x = .int .i64 (xtn a k))
     (fun _ _ i => 8 - (intOf i).toNat)
  case atStart => exact ⟨0, Nat.zero_le _, rfl, rfl, rfl⟩
  case round =>
    obtain ⟨k, hk, rfl, rfl, rfl⟩ := hrel
    have hP := acc_lt b ha k
    have hX := xtn_lt ha k
    by_cases hlt : k < 8
    · go_wp2
      all_goals
        go_round
        case rel => exact ⟨k + 1, by omega, by go_num, congrArg _ (by first | exact acc_yes a b k ha hb (by assumption) | exact acc_no a b k hb (by assumption)), congrArg _ (by first | exact xt_big _ hX (by assumption) | exact xt_small _ (by assumption))⟩
        case measure => simp [intOf]; omega
    · obtain rfl : k = 8 := by omega
      go_wp2
      go_ret
      exact ⟨rfl, rfl⟩

/-- Go's power: any whole number. -/
def powZ (x : E) (n : Int) : E := if n = 0 then 1 else if x = 0 then 0 else E.pow x (n % 255).toNat
theorem pow_odd {x A P : E} {k : Nat} {m : Nat} (h : P * E.pow A k = E.pow x m) (ho : (k : Int) % 2 = 1) : P * A * E.pow (A * A) (k / 2) = E.pow x m := by
  have e : k = 1 + 2 * (k / 2) := by omega
  rw [← h]
  conv => rhs; rw [e, E.pow_add, E.pow_mul, E.pow_one, E.pow_two]
  rw [E.mul_assoc]
theorem pow_even {x A P : E} {k : Nat} {m : Nat} (h : P * E.pow A k = E.pow x m) (ho : ¬ (k : Int) % 2 = 1) : P * E.pow (A * A) (k / 2) = E.pow x m := by
  have e : k = 2 * (k / 2) := by omega
  rw [← h]
  conv => rhs; rw [e, E.pow_mul, E.pow_two]
set_option maxHeartbeats 400000 in
theorem pow_any (x : E) (n : Int) (hn : (Lit.int .i64 n).wf = true) (w : World) :
    Calls Try.prog 119 #[.int .u8 x.val, .int .i64 n] w fun e w' => e = .returned (.int .u8 (powZ x n).val) ∧ w = w' := by
  have hb := bounds_i64 hn
  by_cases h0 : n = 0
  · have h0' : (n == 0) = true := by simp [h0]
    go_enter Try.func119, Try.ntmps119
    go_wp2
    go_ret
    exact ⟨ret_elem (a := 1) (by rw [powZ, if_pos h0]), rfl⟩
  have h0' : (n == 0) = false := by simp [h0]
  by_cases hx : x = 0
  · have hx' : ((x.val : Int) == 0) = true := by rw [hx]; rfl
    have ho : powZ x n = 0 := by rw [powZ, if_neg h0, if_pos hx]
    have Ho := Lib.hid ho
    clear ho hx h0
    go_enter Try.func119, Try.ntmps119
    go_wp2
    go_ret
    exact ⟨ret_elem (a := 0) (by rw [Ho.out]), rfl⟩
  have hx' : ((x.val : Int) == 0) = false := (eqE x 0).trans (by simp [hx])
  have ho : powZ x n = E.pow x (n % 255).toNat := by rw [powZ, if_neg h0, if_neg hx]
  have Ho := Lib.hid ho
  clear ho hx h0
  obtain ⟨m, hm⟩ : ∃ m : Nat, (n % 255).toNat = m := ⟨_, rfl⟩
  have hlo : 0 ≤ n % 255 := by omega
  have hm1 : n % 255 = (m : Int) := by omega
  have ht : n.tmod 255 = if 0 ≤ n then n % 255 else if n % 255 = 0 then 0 else n % 255 - 255 := by
    split
    · exact Int.tmod_eq_emod_of_nonneg (by assumption)
    · rw [Int.tmod_eq_emod]
      split <;> omega
  have Hm := Lib.hid hm
  clear hm
  have hm2 : m < 255 := by omega
  have key : (if n.tmod 255 < 0 then n.tmod 255 + 255 else n.tmod 255) = (m : Int) := by
    rw [ht]
    split <;> (repeat' split) <;> omega
  have htb : -255 < n.tmod 255 ∧ n.tmod 255 < 255 := by rw [ht]; split <;> (repeat' split) <;> omega
  clear ht hm1 hlo
  by_cases hneg : n.tmod 255 < 0
  all_goals
    have key' := key
    first | rw [if_pos hneg] at key' | rw [if_neg hneg] at key'
    have Key := Lib.hid key'
    clear key key'
    go_enter Try.func119, Try.ntmps119
    go_wp2
    go_loop [0, 1, 5] (fun a i p => ∃ (k : Nat) (A P : E), k < 255 ∧ i = .int .i64 k ∧ a = .int .u8 A.val ∧ p = .int .u8 P.val ∧ Hid (P * E.pow A k = E.pow x m))
       (fun _ i _ => (intOf i).toNat)
    case atStart => exact ⟨m, x, 1, hm2, by rw [Key.out], rfl, rfl, E.one_mul _⟩
    case round =>
      obtain ⟨k, A, P, hk, rfl, rfl, rfl, hP⟩ := hrel
      by_cases hk0 : 0 < k
      · by_cases hodd : (k : Int) % 2 = 1
        · have hh := Lib.hid (pow_odd hP.out hodd)
          go_wp2_with (go_at_call 58; refine (times_any _ _ _).mono ?_; rintro e w' ⟨rfl, rfl⟩)
          go_round
          case rel => exact ⟨k / 2, A * A, P * A, by omega, by simp, rfl, rfl, hh⟩
          case measure => simp [intOf]; omega
        · have hh := Lib.hid (pow_even hP.out hodd)
          go_wp2_with (go_at_call 58; refine (times_any _ _ _).mono ?_; rintro e w' ⟨rfl, rfl⟩)
          go_round
          case rel => exact ⟨k / 2, A * A, P, by omega, by simp, rfl, rfl, hh⟩
          case measure => simp [intOf]; omega
      · obtain rfl : k = 0 := by omega
        go_wp2
        go_ret
        exact ⟨ret_elem (by rw [Ho.out, Hm.out, ← hP.out, E.pow_zero, E.mul_one]), rfl⟩

theorem pow_lit (x : E) (n : Int) (k : Nat) (hn : (Lit.int .i64 n).wf = true) (h0 : n ≠ 0) (hk : (n % 255).toNat = k) (hk0 : k ≠ 0) (w : World) :
    Calls Try.prog 119 #[.int .u8 x.val, .int .i64 n] w fun e w' => e = .returned (.int .u8 (E.pow x k).val) ∧ w = w' := by
  have e : powZ x n = E.pow x k := by
    rw [powZ, if_neg h0]
    split
    · rename_i h; rw [h, E.zero_pow hk0]
    · rw [hk]
  rw [← e]
  exact pow_any x n hn w
theorem inverse_any (x : E) (w : World) :
    Calls Try.prog 94 #[.int .u8 x.val] w fun e w' => e = .returned (.tuple #[.int .u8 (E.inv x).val, .bool (!decide (x = 0))]) ∧ w = w' := by
  by_cases hx : x = 0
  · subst hx
    go_enter Try.func94, Try.ntmps94
    go_wp2
    go_ret2
    exact ⟨by have e : E.inv 0 = 0 := E.zero_pow (by decide)
              rw [e]; rfl, rfl⟩
  · have hx' : ((x.val : Int) == 0) = false := (eqE x 0).trans (by simp [hx])
    have Hx := Lib.hid hx
    clear hx
    go_enter Try.func94, Try.ntmps94
    go_wp2_with (go_at_call 119; refine (pow_lit x 254 254 (by decide) (by decide) (by decide) (by decide) _).mono ?_; rintro e w' ⟨rfl, rfl⟩)
    go_ret2
    exact ⟨by rw [decide_eq_false Hx.out]; rfl, rfl⟩
theorem over_zero (x : E) (w : World) :
    Calls Try.prog 96 #[.int .u8 x.val, .int .u8 (0 : E).val] w fun e w' => e = .returned (.tuple #[.int .u8 0, .int .i64 10]) ∧ w = w' := by
  go_enter Try.func96, Try.ntmps96
  go_wp2_with (go_at_call 94; refine (inverse_any 0 _).mono ?_; rintro e w' ⟨rfl, rfl⟩)
  go_ret2
  exact ⟨rfl, rfl⟩
theorem over_any (x y : E) (hy : y ≠ 0) (w : World) :
    Calls Try.prog 96 #[.int .u8 x.val, .int .u8 y.val] w fun e w' => e = .returned (.tuple #[.int .u8 (x * E.inv y).val, .int .i64 0]) ∧ w = w' := by
  have hy' : decide (y = 0) = false := decide_eq_false hy
  clear hy
  go_enter Try.func96, Try.ntmps96
  go_wp2_with (first | (go_at_call 94; refine (inverse_any y _).mono ?_; rintro e w' ⟨rfl, rfl⟩) | (go_at_call 58; refine (times_any _ _ _).mono ?_; rintro e w' ⟨rfl, rfl⟩))
  go_ret2
  exact ⟨rfl, rfl⟩
theorem times_lit (a b : Int) (x y : E) (ha : a = x.val) (hb : b = y.val) (w : World) :
    Calls Try.prog 58 #[.int .u8 a, .int .u8 b] w fun e w' => e = .returned (.int .u8 (x * y).val) ∧ w = w' := by
  subst ha; subst hb; exact times_any x y w
theorem over_lit (a b : Int) (x y : E) (ha : a = x.val) (hb : b = y.val) (hy : y ≠ 0) (w : World) :
    Calls Try.prog 96 #[.int .u8 a, .int .u8 b] w fun e w' => e = .returned (.tuple #[.int .u8 (x * E.inv y).val, .int .i64 0]) ∧ w = w' := by
  subst ha; subst hb; exact over_any x y hy w
/-- The error of a quotient. -/
def overErr (y : E) : Int := if y = 0 then 10 else 0
theorem overErr_zero : overErr 0 = 10 := rfl
theorem overErr_ok {y : E} (h : y ≠ 0) : overErr y = 0 := if_neg h
theorem overErr_eq (y : E) : (overErr y == 0) = !decide (y = 0) := by
  by_cases h : y = 0
  · rw [h]; rfl
  · rw [overErr_ok h, decide_eq_false h]; rfl
theorem inv_zero : E.inv 0 = 0 := E.zero_pow (by decide)
theorem over_all (x y : E) (w : World) :
    Calls Try.prog 96 #[.int .u8 x.val, .int .u8 y.val] w fun e w' => e = .returned (.tuple #[.int .u8 (x * E.inv y).val, .int .i64 (overErr y)]) ∧ w = w' := by
  by_cases h : y = 0
  · subst h
    refine (over_zero x w).mono fun e w' ⟨he, hw⟩ => ⟨he.trans ?_, hw⟩
    rw [inv_zero, E.mul_zero]; rfl
  · refine (over_any x y h w).mono fun e w' ⟨he, hw⟩ => ⟨he.trans ?_, hw⟩
    rw [overErr_ok h]
end Go.Proofs.Ytemnlcfabaocbaa
