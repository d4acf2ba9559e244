/-
  The field of 256 elements, plain: bytes as numbers, sums by xor, products by shift and add.
-/
namespace Go.Proofs.Ytemnlcfabaocbaa.Gf

/-- x times the generator, modulo 285. -/
def xt (x : Nat) : Nat := if 255 < 2 * x then (2 * x) ^^^ 285 else 2 * x
def xtn (a : Nat) : Nat → Nat
  | 0 => a
  | k + 1 => xt (xtn a k)
/-- The first k steps of the product. -/
def acc (a b : Nat) : Nat → Nat
  | 0 => 0
  | k + 1 => if b / 2 ^ k % 2 = 1 then acc a b k ^^^ xtn a k else acc a b k
def mulN (a b : Nat) : Nat := acc a b 8

theorem xt_lt : ∀ x, x < 256 → xt x < 256 := by decide +kernel
theorem xlc (x y z : Nat) : x ^^^ (y ^^^ z) = y ^^^ (x ^^^ z) := by rw [← Nat.xor_assoc, Nat.xor_comm x y, Nat.xor_assoc]

theorem xor_lt {x y : Nat} (hx : x < 256) (hy : y < 256) : x ^^^ y < 256 := Nat.xor_lt_two_pow (n := 8) hx hy
theorem xtn_lt {a : Nat} (ha : a < 256) : ∀ k, xtn a k < 256
  | 0 => ha
  | k + 1 => xt_lt _ (xtn_lt ha k)
theorem acc_lt {a : Nat} (b : Nat) (ha : a < 256) : ∀ k, acc a b k < 256
  | 0 => by simp [acc]
  | k + 1 => by
    simp only [acc]
    split
    · exact xor_lt (acc_lt b ha k) (xtn_lt ha k)
    · exact acc_lt b ha k
theorem mulN_lt {a : Nat} (b : Nat) (ha : a < 256) : mulN a b < 256 := acc_lt b ha 8

/-- An element: a byte. -/
structure E where
  val : Nat
  lt : val < 256

namespace E
theorem ext {x y : E} (h : x.val = y.val) : x = y := by cases x; cases y; simp only at h; subst h; rfl
theorem ext_iff {x y : E} : x = y ↔ x.val = y.val := ⟨fun h => by rw [h], ext⟩
instance : DecidableEq E := fun x y => if h : x.val = y.val then isTrue (ext h) else isFalse (fun e => h (by rw [e]))
def of (n : Nat) : E := ⟨n % 256, Nat.mod_lt _ (by decide)⟩
instance : Zero E := ⟨⟨0, by decide⟩⟩
instance : One E := ⟨⟨1, by decide⟩⟩
instance : Add E := ⟨fun x y => ⟨x.val ^^^ y.val, xor_lt x.lt y.lt⟩⟩
instance : Mul E := ⟨fun x y => ⟨mulN x.val y.val, mulN_lt _ x.lt⟩⟩
instance : Inhabited E := ⟨0⟩
theorem val_zero : (0 : E).val = 0 := rfl
theorem val_one : (1 : E).val = 1 := rfl
theorem val_add (x y : E) : (x + y).val = x.val ^^^ y.val := rfl
theorem val_mul (x y : E) : (x * y).val = mulN x.val y.val := rfl
theorem of_val (x : E) : of x.val = x := ext (Nat.mod_eq_of_lt x.lt)
theorem val_of {n : Nat} (h : n < 256) : (of n).val = n := Nat.mod_eq_of_lt h

theorem add_comm (x y : E) : x + y = y + x := ext (Nat.xor_comm _ _)
theorem add_assoc (x y z : E) : x + y + z = x + (y + z) := ext (Nat.xor_assoc _ _ _)
theorem add_left_comm (x y z : E) : x + (y + z) = y + (x + z) := by rw [← add_assoc, add_comm x y, add_assoc]
theorem add_zero (x : E) : x + 0 = x := ext (Nat.xor_zero _)
theorem zero_add (x : E) : 0 + x = x := ext (Nat.zero_xor _)
theorem add_self (x : E) : x + x = 0 := ext (Nat.xor_self _)
theorem add_cancel_left (x y : E) : x + (x + y) = y := by rw [← add_assoc, add_self, zero_add]
theorem add_eq_zero {x y : E} : x + y = 0 ↔ x = y := by
  constructor
  · intro h
    have := add_cancel_left x y
    rw [h, add_zero] at this
    exact this
  · rintro rfl; exact add_self _
theorem add_left_inj {x y z : E} : x + y = x + z ↔ y = z :=
  ⟨fun h => by have := congrArg (x + ·) h; simpa [add_cancel_left] using this, fun h => by rw [h]⟩

/-! linearity -/
theorem xt_form : ∀ x, x < 256 → xt x = (x <<< 1) ^^^ (285 * (x >>> 7)) := by decide +kernel
theorem shr7 : ∀ x, x < 256 → x >>> 7 = 0 ∨ x >>> 7 = 1 := by decide +kernel
theorem xt_xor {x y : Nat} (hx : x < 256) (hy : y < 256) : xt (x ^^^ y) = xt x ^^^ xt y := by
  rw [xt_form _ (xor_lt hx hy), xt_form _ hx, xt_form _ hy, Nat.shiftLeft_xor_distrib, Nat.shiftRight_xor_distrib]
  have h1 : 285 * ((x >>> 7) ^^^ (y >>> 7)) = (285 * (x >>> 7)) ^^^ (285 * (y >>> 7)) := by
    rcases shr7 x hx with h | h <;> rcases shr7 y hy with h' | h' <;> rw [h, h'] <;> decide
  rw [h1]
  simp only [Nat.xor_assoc]; rw [xlc (y <<< 1)]
theorem xtn_xor {x y : Nat} (hx : x < 256) (hy : y < 256) : ∀ k, xtn (x ^^^ y) k = xtn x k ^^^ xtn y k
  | 0 => rfl
  | k + 1 => by simp only [xtn]; rw [xtn_xor hx hy k, xt_xor (xtn_lt hx k) (xtn_lt hy k)]
theorem acc_xor_left {x y : Nat} (b : Nat) (hx : x < 256) (hy : y < 256) : ∀ k, acc (x ^^^ y) b k = acc x b k ^^^ acc y b k
  | 0 => by simp [acc]
  | k + 1 => by
    simp only [acc]
    rw [acc_xor_left b hx hy k, xtn_xor hx hy k]
    split
    · simp only [Nat.xor_assoc]; rw [xlc (acc y b k)]
    · rfl
theorem bit_xor (x y k : Nat) : (x ^^^ y) / 2 ^ k % 2 = (x / 2 ^ k % 2 + y / 2 ^ k % 2) % 2 := by
  have h := Nat.testBit_xor x y k
  simp only [Nat.testBit_eq_decide_div_mod_eq] at h
  have a := Nat.mod_two_eq_zero_or_one (x / 2 ^ k)
  have b := Nat.mod_two_eq_zero_or_one (y / 2 ^ k)
  have c := Nat.mod_two_eq_zero_or_one ((x ^^^ y) / 2 ^ k)
  rcases a with a | a <;> rcases b with b | b <;> rcases c with c | c <;> simp_all
theorem acc_xor_right (a x y : Nat) : ∀ k, acc a (x ^^^ y) k = acc a x k ^^^ acc a y k
  | 0 => by simp [acc]
  | k + 1 => by
    simp only [acc]
    rw [acc_xor_right a x y k, bit_xor]
    have ha := Nat.mod_two_eq_zero_or_one (x / 2 ^ k)
    have hb := Nat.mod_two_eq_zero_or_one (y / 2 ^ k)
    rcases ha with ha | ha <;> rcases hb with hb | hb <;> rw [ha, hb]
    · rfl
    · simp; ac_rfl
    · simp; ac_rfl
    · simp only [Nat.reduceAdd, Nat.reduceMod, if_neg Nat.zero_ne_one, if_pos]; rw [Nat.xor_assoc, xlc (xtn a k), Nat.xor_self, Nat.xor_zero]
theorem add_mul (x y z : E) : (x + y) * z = x * z + y * z := ext (acc_xor_left _ x.lt y.lt 8)
theorem mul_add (x y z : E) : x * (y + z) = x * y + x * z := ext (acc_xor_right _ _ _ 8)

/-! what holds of the powers of two and goes through sums, holds of all -/
theorem bits_sum : ∀ x, x < 256 → x = (x &&& 1) ^^^ (x &&& 2) ^^^ (x &&& 4) ^^^ (x &&& 8) ^^^ (x &&& 16) ^^^ (x &&& 32) ^^^ (x &&& 64) ^^^ (x &&& 128) := by decide +kernel
theorem bit_or : ∀ x, x < 256 → ∀ j, j < 8 → x &&& 2 ^ j = 0 ∨ x &&& 2 ^ j = 2 ^ j := by decide +kernel
theorem ind {P : E → Prop} (h0 : P 0) (h2 : ∀ j, j < 8 → P (of (2 ^ j))) (ha : ∀ x y, P x → P y → P (x + y)) (x : E) : P x := by
  have key : ∀ j (_ : j < 8), ∃ h : x.val &&& 2 ^ j < 256, P ⟨x.val &&& 2 ^ j, h⟩ := by
    intro j hj
    have hlt : 2 ^ j < 256 := Nat.lt_of_lt_of_le (Nat.pow_lt_pow_right (by decide) hj) (Nat.le_refl _)
    refine ⟨Nat.lt_of_le_of_lt Nat.and_le_left x.lt, ?_⟩
    rcases bit_or x.val x.lt j hj with h | h
    · have e : (⟨x.val &&& 2 ^ j, Nat.lt_of_le_of_lt Nat.and_le_left x.lt⟩ : E) = 0 := ext h
      rw [e]; exact h0
    · have e : (⟨x.val &&& 2 ^ j, Nat.lt_of_le_of_lt Nat.and_le_left x.lt⟩ : E) = of (2 ^ j) := ext (h.trans (val_of hlt).symm)
      rw [e]; exact h2 j hj
  obtain ⟨l0, p0⟩ := key 0 (by decide)
  obtain ⟨l1, p1⟩ := key 1 (by decide)
  obtain ⟨l2, p2⟩ := key 2 (by decide)
  obtain ⟨l3, p3⟩ := key 3 (by decide)
  obtain ⟨l4, p4⟩ := key 4 (by decide)
  obtain ⟨l5, p5⟩ := key 5 (by decide)
  obtain ⟨l6, p6⟩ := key 6 (by decide)
  obtain ⟨l7, p7⟩ := key 7 (by decide)
  have q := ha _ _ (ha _ _ (ha _ _ (ha _ _ (ha _ _ (ha _ _ (ha _ _ p0 p1) p2) p3) p4) p5) p6) p7
  have e : x = ((((((⟨_, l0⟩ + ⟨_, l1⟩) + ⟨_, l2⟩) + ⟨_, l3⟩) + ⟨_, l4⟩) + ⟨_, l5⟩) + ⟨_, l6⟩) + ⟨_, l7⟩ := ext (bits_sum x.val x.lt)
  rw [e]; exact q

theorem zero_mul (x : E) : 0 * x = 0 := by
  have h : (0 : E) * x + 0 * x = 0 * x := by rw [← add_mul, add_zero]
  have := congrArg (0 * x + ·) h
  simpa [add_cancel_left, add_self, add_zero] using this
theorem mul_zero (x : E) : x * 0 = 0 := by
  have h : x * (0 : E) + x * 0 = x * 0 := by rw [← mul_add, add_zero]
  have := congrArg (x * 0 + ·) h
  simpa [add_cancel_left, add_self, add_zero] using this
theorem comm_basis : ∀ i, i < 8 → ∀ j, j < 8 → mulN (2 ^ i) (2 ^ j) = mulN (2 ^ j) (2 ^ i) := by decide +kernel
theorem val_two {j : Nat} (hj : j < 8) : (of (2 ^ j)).val = 2 ^ j :=
  val_of (Nat.lt_of_lt_of_le (Nat.pow_lt_pow_right (by decide) hj) (Nat.le_refl _))
theorem mul_comm (x y : E) : x * y = y * x := by
  refine ind (P := fun y => x * y = y * x) ?_ ?_ ?_ y
  · rw [mul_zero, zero_mul]
  · intro j hj
    refine ind (P := fun x => x * of (2 ^ j) = of (2 ^ j) * x) ?_ ?_ ?_ x
    · rw [mul_zero, zero_mul]
    · intro i hi
      apply ext
      rw [val_mul, val_mul, val_two hi, val_two hj]
      exact comm_basis i hi j hj
    · intro a b h h'; rw [mul_add, add_mul, h, h']
  · intro a b h h'; rw [mul_add, add_mul, h, h']
theorem assoc_basis : ∀ i, i < 8 → ∀ j, j < 8 → ∀ k, k < 8 → mulN (mulN (2 ^ i) (2 ^ j)) (2 ^ k) = mulN (2 ^ i) (mulN (2 ^ j) (2 ^ k)) := by decide +kernel
theorem mul_assoc (x y z : E) : x * y * z = x * (y * z) := by
  refine ind (P := fun z => x * y * z = x * (y * z)) ?_ ?_ ?_ z
  · simp only [mul_zero]
  · intro k hk
    refine ind (P := fun y => x * y * of (2 ^ k) = x * (y * of (2 ^ k))) ?_ ?_ ?_ y
    · simp only [mul_zero, zero_mul]
    · intro j hj
      refine ind (P := fun x => x * of (2 ^ j) * of (2 ^ k) = x * (of (2 ^ j) * of (2 ^ k))) ?_ ?_ ?_ x
      · simp only [zero_mul]
      · intro i hi
        apply ext
        simp only [val_mul]
        rw [val_two hi, val_two hj, val_two hk]
        exact assoc_basis i hi j hj k hk
      · intro a b h h'; simp only [add_mul, h, h']
    · intro a b h h'; simp only [add_mul, mul_add, h, h']
  · intro a b h h'; simp only [mul_add, h, h']
theorem mul_left_comm (x y z : E) : x * (y * z) = y * (x * z) := by rw [← mul_assoc, mul_comm x y, mul_assoc]
theorem one_basis : ∀ i, i < 8 → mulN (2 ^ i) 1 = 2 ^ i := by decide +kernel
theorem mul_one (x : E) : x * 1 = x := by
  refine ind (P := fun x => x * 1 = x) ?_ ?_ ?_ x
  · rw [zero_mul]
  · intro i hi; apply ext; rw [val_mul, val_two hi]; exact one_basis i hi
  · intro a b h h'; rw [add_mul, h, h']
theorem one_mul (x : E) : 1 * x = x := by rw [mul_comm, mul_one]

/-! powers -/
def pow (a : E) : Nat → E
  | 0 => 1
  | n + 1 => pow a n * a
theorem pow_zero (a : E) : pow a 0 = 1 := rfl
theorem pow_succ (a : E) (n : Nat) : pow a (n + 1) = pow a n * a := rfl
theorem pow_add (a : E) (m n : Nat) : pow a (m + n) = pow a m * pow a n := by
  induction n with
  | zero => rw [Nat.add_zero, pow_zero, mul_one]
  | succ n ih => rw [← Nat.add_assoc, pow_succ, ih, pow_succ, mul_assoc]
theorem one_pow (n : Nat) : pow 1 n = 1 := by
  induction n with
  | zero => rfl
  | succ n ih => rw [pow_succ, ih, mul_one]
theorem pow_mul (a : E) (m n : Nat) : pow a (m * n) = pow (pow a m) n := by
  induction n with
  | zero => rfl
  | succ n ih => rw [Nat.mul_succ, pow_add, ih, pow_succ]
theorem pow_one (a : E) : pow a 1 = a := by rw [pow_succ, pow_zero, one_mul]
theorem pow_two (a : E) : pow a 2 = a * a := by rw [pow_succ, pow_one]
theorem mul_pow (a b : E) (n : Nat) : pow (a * b) n = pow a n * pow b n := by
  induction n with
  | zero => rw [pow_zero, pow_zero, pow_zero, mul_one]
  | succ n ih => rw [pow_succ, pow_succ, pow_succ, ih, mul_assoc, mul_assoc, mul_left_comm (pow b n)]
def sqN (a : Nat) : Nat := mulN a a
/-- a to the power 254, by squares. -/
def p254 (a : Nat) : Nat :=
  let a2 := sqN a
  let a3 := mulN a2 a
  let a6 := sqN a3
  let a12 := sqN a6
  let a15 := mulN a12 a3
  let a30 := sqN a15
  let a60 := sqN a30
  let a120 := sqN a60
  let a126 := mulN a120 a6
  let a127 := mulN a126 a
  sqN a127
theorem p254_val (a : E) : p254 a.val = (pow a 254).val := by
  have e2 : pow a 2 = a * a := pow_two a
  have e3 : pow a 3 = pow a 2 * a := pow_succ a 2
  have e6 : pow a 6 = pow a 3 * pow a 3 := pow_add a 3 3
  have e12 : pow a 12 = pow a 6 * pow a 6 := pow_add a 6 6
  have e15 : pow a 15 = pow a 12 * pow a 3 := pow_add a 12 3
  have e30 : pow a 30 = pow a 15 * pow a 15 := pow_add a 15 15
  have e60 : pow a 60 = pow a 30 * pow a 30 := pow_add a 30 30
  have e120 : pow a 120 = pow a 60 * pow a 60 := pow_add a 60 60
  have e126 : pow a 126 = pow a 120 * pow a 6 := pow_add a 120 6
  have e127 : pow a 127 = pow a 126 * a := pow_succ a 126
  have e254 : pow a 254 = pow a 127 * pow a 127 := pow_add a 127 127
  simp only [p254, sqN]
  rw [e254, val_mul, e127, val_mul, e126, val_mul, e120, val_mul, e60, val_mul, e30, val_mul, e15, val_mul, e12, val_mul, e6, val_mul, e3, val_mul, e2, val_mul]
theorem inv_all : ∀ a, a < 256 → a = 0 ∨ mulN a (p254 a) = 1 := by decide +kernel
def inv (a : E) : E := pow a 254
theorem inv_val (a : E) : (inv a).val = p254 a.val := (p254_val a).symm
theorem mul_inv {a : E} (h : a ≠ 0) : a * inv a = 1 := by
  rcases inv_all a.val a.lt with h' | h'
  · exact absurd (ext h') h
  · apply ext; rw [val_mul, inv, ← p254_val]; exact h'
theorem inv_mul {a : E} (h : a ≠ 0) : inv a * a = 1 := by rw [mul_comm, mul_inv h]
theorem pow_255 {a : E} (h : a ≠ 0) : pow a 255 = 1 := by rw [pow_succ]; exact inv_mul h
theorem one_ne_zero : (1 : E) ≠ 0 := by decide
theorem mul_eq_zero {a b : E} : a * b = 0 ↔ a = 0 ∨ b = 0 := by
  constructor
  · intro h
    by_cases ha : a = 0
    · exact .inl ha
    · right
      have := congrArg (inv a * ·) h
      simpa [← mul_assoc, inv_mul ha, one_mul, mul_zero] using this
  · rintro (rfl | rfl)
    · exact zero_mul _
    · exact mul_zero _
theorem mul_left_inj {a b c : E} (ha : a ≠ 0) : a * b = a * c ↔ b = c :=
  ⟨fun h => by have := congrArg (inv a * ·) h; simpa [← mul_assoc, inv_mul ha, one_mul] using this, fun h => by rw [h]⟩
theorem inv_ne_zero {a : E} (h : a ≠ 0) : inv a ≠ 0 := by
  intro h'
  have := mul_inv h
  rw [h', mul_zero] at this
  exact one_ne_zero this.symm
theorem inv_eq {a b : E} (h : a * b = 1) : b = inv a := by
  have ha : a ≠ 0 := by rintro rfl; rw [zero_mul] at h; exact one_ne_zero h.symm
  have := congrArg (inv a * ·) h
  simpa [← mul_assoc, inv_mul ha, one_mul, mul_one] using this
theorem pow_ne_zero {a : E} (h : a ≠ 0) : ∀ n, pow a n ≠ 0
  | 0 => one_ne_zero
  | n + 1 => by
    rw [pow_succ]
    intro h'
    rcases mul_eq_zero.1 h' with h' | h'
    · exact pow_ne_zero h n h'
    · exact h h'
theorem pow_mod {a : E} (h : a ≠ 0) (n : Nat) : pow a (n % 255) = pow a n := by
  conv => rhs; rw [← Nat.div_add_mod n 255, pow_add, pow_mul, pow_255 h, one_pow, one_mul]
theorem zero_pow {n : Nat} (h : n ≠ 0) : pow 0 n = 0 := by
  cases n with
  | zero => exact absurd rfl h
  | succ n => rw [pow_succ, mul_zero]
end E
end Go.Proofs.Ytemnlcfabaocbaa.Gf
