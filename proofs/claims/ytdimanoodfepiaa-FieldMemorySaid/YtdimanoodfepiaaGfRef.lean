/-
  The document's product, plain: the product of the polynomials, then its remainder; it is the field's product. And finding by looking: the quotient, the logarithm, the order.
-/
import Derived.Test.YtdimanoodfepiaaGf
namespace Go.Proofs.Ytdimanoodfepiaa.Gf

def cl (a b : Nat) : Nat → Nat
  | 0 => 0
  | k + 1 => if b / 2 ^ k % 2 = 1 then cl a b k ^^^ (a * 2 ^ k) else cl a b k
def red (p : Nat) : Nat → Nat
  | 0 => p
  | j + 1 => if red p j / 2 ^ (14 - j) % 2 = 1 then red p j ^^^ (285 * 2 ^ (6 - j)) else red p j
def refMul (a b : Nat) : Nat := red (cl a b 8) 7

theorem cl_xor (a x y : Nat) : ∀ k, cl a (x ^^^ y) k = cl a x k ^^^ cl a y k
  | 0 => by simp [cl]
  | k + 1 => by
    simp only [cl]
    rw [cl_xor a x y k, E.bit_xor]
    have ha := Nat.mod_two_eq_zero_or_one (x / 2 ^ k)
    have hb := Nat.mod_two_eq_zero_or_one (y / 2 ^ k)
    rcases ha with ha | ha <;> rcases hb with hb | hb <;> rw [ha, hb]
    · rfl
    · simp; ac_rfl
    · simp; ac_rfl
    · simp only [Nat.reduceAdd, Nat.reduceMod, if_neg Nat.zero_ne_one, if_pos]; rw [Nat.xor_assoc, xlc (a * 2 ^ k), Nat.xor_self, Nat.xor_zero]
theorem red_xor (p q : Nat) : ∀ j, red (p ^^^ q) j = red p j ^^^ red q j
  | 0 => rfl
  | j + 1 => by
    simp only [red]
    rw [red_xor p q j, E.bit_xor]
    have ha := Nat.mod_two_eq_zero_or_one (red p j / 2 ^ (14 - j))
    have hb := Nat.mod_two_eq_zero_or_one (red q j / 2 ^ (14 - j))
    rcases ha with ha | ha <;> rcases hb with hb | hb <;> rw [ha, hb]
    · rfl
    · simp; ac_rfl
    · simp; ac_rfl
    · simp only [Nat.reduceAdd, Nat.reduceMod, if_neg Nat.zero_ne_one, if_pos]; rw [Nat.xor_assoc, xlc (285 * 2 ^ (6 - j)), Nat.xor_self, Nat.xor_zero]
theorem refMul_xor (a x y : Nat) : refMul a (x ^^^ y) = refMul a x ^^^ refMul a y := by
  rw [refMul, cl_xor, red_xor]; rfl
theorem ref_zero : ∀ a, a < 256 → refMul a 0 = mulN a 0 := by decide +kernel
theorem ref_two : ∀ a, a < 256 → ∀ j, j < 8 → refMul a (2 ^ j) = mulN a (2 ^ j) := by decide +kernel
theorem refMul_eq (x y : E) : refMul x.val y.val = (x * y).val := by
  refine E.ind (P := fun y => refMul x.val y.val = (x * y).val) ?_ ?_ ?_ y
  · exact ref_zero _ x.lt
  · intro j hj; rw [E.val_mul, E.val_two hj]; exact ref_two _ x.lt j hj
  · intro a b h h'
    rw [E.val_add, refMul_xor, h, h', E.mul_add, E.val_add]
theorem cl_lt {a : Nat} (b : Nat) (ha : a < 256) : ∀ k, k ≤ 8 → cl a b k < 2 ^ 15
  | 0, _ => by simp [cl]
  | k + 1, hk => by
    have h1 := cl_lt b ha k (by omega)
    have h2 : a * 2 ^ k < 2 ^ 15 := by
      have : 2 ^ k ≤ 2 ^ 7 := Nat.pow_le_pow_right (by decide) (by omega)
      calc a * 2 ^ k ≤ 255 * 2 ^ 7 := Nat.mul_le_mul (by omega) this
        _ < 2 ^ 15 := by decide
    simp only [cl]
    split
    · exact Nat.xor_lt_two_pow h1 h2
    · exact h1
theorem red_lt {p : Nat} (hp : p < 2 ^ 15) : ∀ j, j ≤ 7 → red p j < 2 ^ 15
  | 0, _ => hp
  | j + 1, hj => by
    have h1 := red_lt hp j (by omega)
    have h2 : 285 * 2 ^ (6 - j) < 2 ^ 15 := by
      have : 2 ^ (6 - j) ≤ 2 ^ 6 := Nat.pow_le_pow_right (by decide) (by omega)
      calc 285 * 2 ^ (6 - j) ≤ 285 * 2 ^ 6 := Nat.mul_le_mul_left _ this
        _ < 2 ^ 15 := by decide
    simp only [red]
    split
    · exact Nat.xor_lt_two_pow h1 h2
    · exact h1
end Go.Proofs.Ytdimanoodfepiaa.Gf
