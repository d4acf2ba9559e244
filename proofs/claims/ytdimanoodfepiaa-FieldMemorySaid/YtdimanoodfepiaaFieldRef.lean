/-
  The walks of the document's functions of chapter 1.
-/
import Derived.Test.YtdimanoodfepiaaFieldMore
import Derived.Test.YtdimanoodfepiaaGfRef
namespace Go.Proofs.Ytdimanoodfepiaa
open Go.RowKit Gf

theorem bit_i64 (b k : Nat) (hb : b < 2 ^ 32) : bits BinOp.and IntKind.i64 ((b : Int) / 2 ^ k) 1 = ((b / 2 ^ k % 2 : Nat) : Int) := by
  have h : ((b : Int) / 2 ^ k) = ((b / 2 ^ k : Nat) : Int) := by simp
  rw [h]
  exact bits_i64_and1 _ (Nat.lt_of_le_of_lt (Nat.div_le_self _ _) hb)
theorem mul_shift (a k : Nat) (ha : a < 512) (hk : k ≤ 8) : wrap64 ((a : Int) * 2 ^ k) = ((a * 2 ^ k : Nat) : Int) ∧ a * 2 ^ k < 2 ^ 32 := by
  have h2 : a * 2 ^ k ≤ 512 * 2 ^ 8 := Nat.mul_le_mul (by omega) (Nat.pow_le_pow_right (by decide) hk)
  have e : ((a : Int) * 2 ^ k) = ((a * 2 ^ k : Nat) : Int) := by simp
  rw [e]
  exact ⟨IntWalk.wrap64_in _ ⟨by omega, by omega⟩, by omega⟩
theorem cl_yes (a b k : Nat) (ha : a < 256) (hb : b < 256) (hk : k < 8) (h : (bits BinOp.and IntKind.i64 ((b : Int) / 2 ^ k) 1 == 1) = true) :
    bits BinOp.xor IntKind.i64 (cl a b k : Int) (wrap64 ((a : Int) * 2 ^ k)) = (cl a b (k + 1) : Int) := by
  rw [bit_i64 b k (by omega), beq_iff_eq] at h
  obtain ⟨e1, e2⟩ := mul_shift a k (by omega) (by omega)
  have hp := cl_lt b ha k (by omega)
  rw [e1, bits_i64_xor _ _ (Nat.lt_trans hp (by decide)) e2]
  rw [cl, if_pos (by omega)]
theorem cl_no (a b k : Nat) (hb : b < 256) (h : (bits BinOp.and IntKind.i64 ((b : Int) / 2 ^ k) 1 == 1) = false) :
    (cl a b k : Int) = (cl a b (k + 1) : Int) := by
  rw [bit_i64 b k (by omega), beq_eq_false_iff_ne] at h
  rw [cl, if_neg (by omega)]
theorem red_yes (p k : Nat) (hp : p < 2 ^ 15) (h1 : 8 ≤ k) (h2 : k ≤ 14) (h : (bits BinOp.and IntKind.i64 ((red p (14 - k) : Int) / 2 ^ k) 1 == 1) = true) :
    bits BinOp.xor IntKind.i64 (red p (14 - k) : Int) (wrap64 (285 * 2 ^ (k - 8))) = (red p (14 - (k - 1)) : Int) := by
  have hr := red_lt hp (14 - k) (by omega)
  rw [bit_i64 _ k (Nat.lt_trans hr (by decide)), beq_iff_eq] at h
  obtain ⟨e1, e2⟩ := mul_shift 285 (k - 8) (by omega) (by omega)
  rw [show (285 : Int) = ((285 : Nat) : Int) from rfl, e1, bits_i64_xor _ _ (Nat.lt_trans hr (by decide)) e2]
  have e : 14 - (k - 1) = (14 - k) + 1 := by omega
  rw [e, red, if_pos (by rw [show 14 - (14 - k) = k by omega]; omega), show 6 - (14 - k) = k - 8 by omega]
theorem red_no (p k : Nat) (hp : p < 2 ^ 15) (h1 : 8 ≤ k) (h2 : k ≤ 14) (h : (bits BinOp.and IntKind.i64 ((red p (14 - k) : Int) / 2 ^ k) 1 == 1) = false) :
    (red p (14 - k) : Int) = (red p (14 - (k - 1)) : Int) := by
  have hr := red_lt hp (14 - k) (by omega)
  rw [bit_i64 _ k (Nat.lt_trans hr (by decide)), beq_eq_false_iff_ne] at h
  have e : 14 - (k - 1) = (14 - k) + 1 := by omega
  rw [e, red, if_neg (by rw [show 14 - (14 - k) = k by omega]; omega)]
theorem refTimes_any (x y : E) (w : World) :
    Calls Try.prog 36 #[.int .i64 x.val, .int .i64 y.val] w fun e w' => e = .returned (.int .i64 (x * y).val) ∧ w = w' := by
  have hfin := refMul_eq x y
  obtain ⟨a, ha⟩ := x
  obtain ⟨b, hb⟩ := y
  simp only at hfin ⊢
  have Hfin := Lib.hid hfin
  clear hfin
  go_enter Try.func36, Try.ntmps36
  go_wp2
  go_loop [5, 6] (fun p i => ∃ k : Nat, k ≤ 8 ∧ i = .int .i64 k ∧ p = .int .i64 (cl a b k))
     (fun _ i => 8 - (intOf i).toNat)
  case atStart => exact ⟨0, Nat.zero_le _, rfl, rfl⟩
  case round =>
    obtain ⟨k, hk, rfl, rfl⟩ := hrel
    have hP := cl_lt b ha k hk
    by_cases hlt : k < 8
    · go_wp2
      all_goals
        go_round
        case rel => exact ⟨k + 1, by omega, by go_num, congrArg _ (by first | exact cl_yes a b k ha hb hlt (by assumption) | exact cl_no a b k hb (by assumption))⟩
        case measure => simp [intOf]; omega
    · obtain rfl : k = 8 := by omega
      go_wp2
      clear hlt hk
      have hP : cl a b 8 < 2 ^ 15 := cl_lt b ha 8 (by omega)
      go_loop [5, 7] (fun p i => ∃ k : Nat, 7 ≤ k ∧ k ≤ 14 ∧ i = .int .i64 k ∧ p = .int .i64 (red (cl a b 8) (14 - k)))
        (fun _ i => (intOf i).toNat)
      case atStart => exact ⟨14, by omega, by omega, rfl, rfl⟩
      case round =>
        obtain ⟨k, hk1, hk2, rfl, rfl⟩ := hrel
        have hR := red_lt hP (14 - k) (by omega)
        by_cases hlt : 8 ≤ k
        · go_wp2
          all_goals
            go_round
            case rel => exact ⟨k - 1, by omega, by omega, by congr 1; omega, congrArg _ (by first | exact red_yes _ k hP hlt hk2 (by assumption) | exact red_no _ k hP hlt hk2 (by assumption))⟩
            case measure => simp [intOf]; omega
        · obtain rfl : k = 7 := by omega
          go_wp2
          go_ret
          exact ⟨ret_int (congrArg _ Hfin.out), rfl⟩
theorem refTimes_lit (a b : Int) (x y : E) (ha : a = x.val) (hb : b = y.val) (w : World) :
    Calls Try.prog 36 #[.int .i64 a, .int .i64 b] w fun e w' => e = .returned (.int .i64 (x * y).val) ∧ w = w' := by
  subst ha; subst hb; exact refTimes_any x y w
theorem refOver_zero (x : E) (w : World) :
    Calls Try.prog 34 #[.int .i64 x.val, .int .i64 (0 : E).val] w fun e w' => e = .returned (.tuple #[.int .i64 0, .int .i64 10]) ∧ w = w' := by
  have h0 : (((0 : E).val : Int) == 0) = true := rfl
  go_enter Try.func34, Try.ntmps34
  go_wp2
  go_ret2
  exact ⟨rfl, rfl⟩
theorem over_found {x y : E} (hy : y ≠ 0) (c : E) : (c * y = x) ↔ c = x * E.inv y := by
  constructor
  · rintro rfl; rw [E.mul_assoc, E.mul_inv hy, E.mul_one]
  · rintro rfl; rw [E.mul_assoc, E.inv_mul hy, E.mul_one]
set_option maxRecDepth 10000 in
theorem refOver_any (x y : E) (hy : y ≠ 0) (w : World) :
    Calls Try.prog 34 #[.int .i64 x.val, .int .i64 y.val] w fun e w' => e = .returned (.tuple #[.int .i64 (x * E.inv y).val, .int .i64 0]) ∧ w = w' := by
  have h0 : ((y.val : Int) == 0) = false := (eqE y 0).trans (by simp [hy])
  have hf := Lib.hid (fun c => over_found (x := x) hy c)
  clear hy
  generalize x * E.inv y = t at hf ⊢
  have htl := t.lt
  go_enter Try.func34, Try.ntmps34
  go_wp2
  go_loop [6] (fun i => ∃ k : Nat, k ≤ t.val ∧ i = .int .i64 k) (fun i => 256 - (intOf i).toNat)
  case atStart => exact ⟨0, Nat.zero_le _, rfl⟩
  case round =>
    obtain ⟨k, hk, rfl⟩ := hrel
    have hof : (E.of k).val = k := E.val_of (by omega)
    have HC := Lib.hid (fun w => refTimes_lit k y.val (E.of k) y (by rw [hof]) rfl w)
    by_cases hkt : k = t.val
    · subst hkt
      rw [E.of_val] at HC
      have he : (((t * y).val : Int) == (x.val : Int)) = true := (eqE _ _).trans (decide_eq_true ((hf.out t).2 rfl))
      clear hof
      go_wp2_with (go_at_call 36; refine (HC.out _).mono ?_; rintro e w' ⟨rfl, rfl⟩)
      go_ret2
      exact ⟨rfl, rfl⟩
    · have he : (((E.of k * y).val : Int) == (x.val : Int)) = false := (eqE _ _).trans (decide_eq_false (fun h => hkt (by rw [← (hf.out _).1 h, hof])))
      have hlt : k < t.val := by omega
      clear hof hkt
      go_wp2_with (go_at_call 36; refine (HC.out _).mono ?_; rintro e w' ⟨rfl, rfl⟩)
      go_round
      case rel => exact ⟨k + 1, by omega, by go_num⟩
      case measure => simp [intOf]; omega
theorem refTimesN_any (x : E) (n : Nat) (hn : n < 256) (w : World) :
    Calls Try.prog 45 #[.int .i64 x.val, .int .i64 n] w fun e w' => e = .returned (.int .i64 (E.pow x n).val) ∧ w = w' := by
  go_enter Try.func45, Try.ntmps45
  go_wp2
  go_loop [5, 6] (fun p i => ∃ k : Nat, k ≤ n ∧ i = .int .i64 k ∧ p = .int .i64 (E.pow x k).val) (fun _ i => n - (intOf i).toNat)
  case atStart => exact ⟨0, Nat.zero_le _, rfl, rfl⟩
  case round =>
    obtain ⟨k, hk, rfl, rfl⟩ := hrel
    by_cases hlt : k < n
    · go_wp2_with (go_at_call 36; refine (refTimes_any _ _ _).mono ?_; rintro e w' ⟨rfl, rfl⟩)
      go_round
      case rel => exact ⟨k + 1, by omega, by go_num, rfl⟩
      case measure => simp [intOf]; omega
    · obtain rfl : k = n := by omega
      go_wp2
      go_ret
      exact ⟨rfl, rfl⟩
theorem refPow_any (x : E) (n : Int) (hn : (Lit.int .i64 n).wf = true) (w : World) :
    Calls Try.prog 43 #[.int .i64 x.val, .int .i64 n] w fun e w' => e = .returned (.int .i64 (powZ x n).val) ∧ w = w' := by
  have hb := bounds_i64 hn
  by_cases h0 : n = 0
  · have h0' : (n == 0) = true := by simp [h0]
    go_enter Try.func43, Try.ntmps43
    go_wp2
    go_ret
    exact ⟨ret_elemI (a := 1) (by rw [powZ, if_pos h0]), rfl⟩
  have h0' : (n == 0) = false := by simp [h0]
  by_cases hx : x = 0
  · have hx' : ((x.val : Int) == 0) = true := by rw [hx]; rfl
    have ho : powZ x n = 0 := by rw [powZ, if_neg h0, if_pos hx]
    have Ho := Lib.hid ho
    clear ho hx h0
    go_enter Try.func43, Try.ntmps43
    go_wp2
    go_ret
    exact ⟨ret_elemI (a := 0) (by rw [Ho.out]), rfl⟩
  have hx' : ((x.val : Int) == 0) = false := (eqE x 0).trans (by simp [hx])
  have ho : powZ x n = E.pow x (n % 255).toNat := by rw [powZ, if_neg h0, if_neg hx]
  have Ho := Lib.hid ho
  clear ho hx h0
  obtain ⟨m, hm⟩ : ∃ m : Nat, (n % 255).toNat = m := ⟨_, rfl⟩
  have hlo : 0 ≤ n % 255 := by omega
  have hm1 : n % 255 = (m : Int) := by omega
  have ht : n.tmod 255 = if 0 ≤ n then n % 255 else if n % 255 = 0 then 0 else n % 255 - 255 := by
    split
    · exact Int.tmod_eq_emod_of_nonneg (by assumption)
    · rw [Int.tmod_eq_emod]
      split <;> omega
  have Hm := Lib.hid hm
  clear hm
  have hm2 : m < 255 := by omega
  have key : (if n.tmod 255 < 0 then n.tmod 255 + 255 else n.tmod 255) = (m : Int) := by
    rw [ht]
    split <;> (repeat' split) <;> omega
  have htb : -255 < n.tmod 255 ∧ n.tmod 255 < 255 := by rw [ht]; split <;> (repeat' split) <;> omega
  clear ht hm1 hlo
  by_cases hneg : n.tmod 255 < 0
  all_goals
    have key' := key
    first | rw [if_pos hneg] at key' | rw [if_neg hneg] at key'
    have HC := Lib.hid (fun w => refTimesN_any x m (by omega) w)
    rw [← key'] at HC
    clear key key'
    go_enter Try.func43, Try.ntmps43
    go_wp2_with (go_at_call 45; refine (HC.out _).mono ?_; rintro e w' ⟨rfl, rfl⟩)
    go_ret
    exact ⟨ret_elemI (by rw [Ho.out, Hm.out]), rfl⟩
theorem refExp_any (n : Int) (hn : (Lit.int .i64 n).wf = true) (w : World) :
    Calls Try.prog 42 #[.int .i64 n] w fun e w' => e = .returned (.int .i64 (powZ (E.of 2) n).val) ∧ w = w' := by
  go_enter Try.func42, Try.ntmps42
  go_wp2_with fail
  refine (refPow_any (E.of 2) n hn _).mono ?_
  rintro e w' ⟨rfl, rfl⟩
  go_wp2
  go_ret
  exact ⟨rfl, rfl⟩
theorem refOver_all (x y : E) (w : World) :
    Calls Try.prog 34 #[.int .i64 x.val, .int .i64 y.val] w fun e w' => e = .returned (.tuple #[.int .i64 (x * E.inv y).val, .int .i64 (overErr y)]) ∧ w = w' := by
  by_cases h : y = 0
  · subst h
    refine (refOver_zero x w).mono fun e w' ⟨he, hw⟩ => ⟨he.trans ?_, hw⟩
    rw [inv_zero, E.mul_zero]; rfl
  · refine (refOver_any x y h w).mono fun e w' ⟨he, hw⟩ => ⟨he.trans ?_, hw⟩
    rw [overErr_ok h]
theorem refOver_one (y : E) (w : World) :
    Calls Try.prog 34 #[.int .i64 1, .int .i64 y.val] w fun e w' => e = .returned (.tuple #[.int .i64 (E.inv y).val, .int .i64 (overErr y)]) ∧ w = w' := by
  have h := refOver_all 1 y w
  rw [E.one_mul] at h
  exact h
end Go.Proofs.Ytdimanoodfepiaa
