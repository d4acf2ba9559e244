/-
  The generator's cycle, plain: logarithms and orders.
-/
import Derived.Test.YtdimanoodfepiaaGf
namespace Go.Proofs.Ytdimanoodfepiaa.Gf
namespace E

/-- n is the order of x. -/
def IsOrd (x : E) (n : Nat) : Prop := 0 < n ∧ n ≤ 255 ∧ pow x n = 1 ∧ ∀ m, 0 < m → m < n → pow x m ≠ 1
theorem least_ord (x : E) : ∀ k n, 0 < n → n ≤ k → n ≤ 255 → pow x n = 1 → ∃ m, IsOrd x m := by
  intro k
  induction k with
  | zero => intro n h0 hk; omega
  | succ k ih =>
    intro n h0 hk h255 h1
    by_cases h : ∃ m, 0 < m ∧ m < n ∧ pow x m = 1
    · obtain ⟨m, hm0, hmn, hm1⟩ := h
      exact ih m hm0 (by omega) (by omega) hm1
    · exact ⟨n, h0, h255, h1, fun m hm0 hmn hm1 => h ⟨m, hm0, hmn, hm1⟩⟩
theorem has_ord {x : E} (h : x ≠ 0) : ∃ n, IsOrd x n := least_ord x 255 255 (by decide) (by decide) (by decide) (pow_255 h)
theorem IsOrd.iff {x : E} {n : Nat} (h : IsOrd x n) (m : Nat) : pow x m = 1 ↔ m % n = 0 := by
  obtain ⟨h0, _, h1, hl⟩ := h
  have hr : pow x m = pow x (m % n) := by
    conv => lhs; rw [← Nat.div_add_mod m n, pow_add, pow_mul, h1, one_pow, one_mul]
  rw [hr]
  constructor
  · intro he
    rcases Nat.eq_zero_or_pos (m % n) with hz | hz
    · exact hz
    · exact absurd he (hl _ hz (Nat.mod_lt _ h0))
  · intro he; rw [he, pow_zero]
theorem ord_ne_zero {x : E} {n : Nat} (h : IsOrd x n) : x ≠ 0 := by
  rintro rfl
  have := h.2.2.1
  rw [zero_pow (by have := h.1; omega)] at this
  exact one_ne_zero this.symm
theorem IsOrd.div {x : E} {n : Nat} (h : IsOrd x n) : 255 % n = 0 := (h.iff 255).1 (pow_255 (ord_ne_zero h))
def ords : List Nat := [1, 3, 5, 15, 17, 51, 85, 255]
theorem ords_all : ∀ n, n ≤ 255 → 0 < n → 255 % n = 0 → ∃ j, j < 8 ∧ ords[j]? = some n := by decide +kernel
theorem ords_rise : ∀ i, i < 8 → ∀ j, j < 8 → i < j → ords[i]?.getD 0 < ords[j]?.getD 0 := by decide +kernel
theorem ords_pos : ∀ i, i < 8 → 0 < ords[i]?.getD 0 := by decide +kernel
/-- The order stands in the list, and no number before it brings one. -/
theorem IsOrd.at {x : E} {n : Nat} (h : IsOrd x n) : ∃ t, t < 8 ∧ ords[t]?.getD 0 = n ∧ ∀ j, j < t → pow x (ords[j]?.getD 0) ≠ 1 := by
  obtain ⟨t, ht, he⟩ := ords_all n h.2.1 h.1 h.div
  refine ⟨t, ht, by rw [he]; rfl, fun j hj => ?_⟩
  have h1 := ords_rise j (by omega) t ht hj
  rw [he] at h1
  exact h.2.2.2 _ (ords_pos j (by omega)) h1

def gen : E := of 2
/-- The powers of the generator as a list, by doubling. -/
def walkN (p : Nat) : Nat → List Nat
  | 0 => []
  | n + 1 => p :: walkN (mulN p 2) n
theorem walk_get (p : E) : ∀ n j, j < n → (walkN p.val n)[j]? = some (p * pow gen j).val := by
  intro n
  induction n generalizing p with
  | zero => intro j hj; omega
  | succ n ih =>
    intro j hj
    cases j with
    | zero => simp [walkN, pow_zero, mul_one]
    | succ j =>
      have h := ih (p * gen) j (by omega)
      rw [mul_assoc, mul_comm gen, ← pow_succ] at h
      show (p.val :: walkN (p * gen).val n)[j + 1]? = _
      rw [List.getElem?_cons_succ]
      exact h
def inWalk : List Nat → Nat → Bool
  | [], _ => false
  | p :: l, a => p == a || inWalk l a
theorem inWalk_iff : ∀ (l : List Nat) (a : Nat), inWalk l a = true ↔ a ∈ l
  | [], a => by simp [inWalk]
  | p :: l, a => by
    simp only [inWalk, Bool.or_eq_true, beq_iff_eq, inWalk_iff l a, List.mem_cons]
    exact ⟨fun h => h.imp Eq.symm id, fun h => h.imp Eq.symm id⟩
def allIn (l : List Nat) : Nat → Bool
  | 0 => true
  | n + 1 => inWalk l (n + 1) && allIn l n
theorem allIn_at (l : List Nat) : ∀ n, allIn l n = true → ∀ a, 0 < a → a ≤ n → inWalk l a = true
  | 0, _, a, h0, h1 => by omega
  | n + 1, h, a, h0, h1 => by
    simp only [allIn, Bool.and_eq_true] at h
    by_cases e : a = n + 1
    · rw [e]; exact h.1
    · exact allIn_at l n h.2 a h0 (by omega)
theorem walk_all : allIn (walkN 1 255) 255 = true := by decide +kernel
/-- l is the logarithm of x. -/
def IsLog (x : E) (l : Nat) : Prop := l < 255 ∧ pow gen l = x
theorem gen_ne : gen ≠ 0 := by decide
theorem walk_len : ∀ (n p : Nat), (walkN p n).length = n
  | 0, _ => rfl
  | n + 1, p => by simp [walkN, walk_len n]
theorem has_log {x : E} (h : x ≠ 0) : ∃ l, IsLog x l := by
  have h0 : 0 < x.val := by
    rcases Nat.eq_zero_or_pos x.val with h' | h'
    · exact absurd (ext h') h
    · exact h'
  have h1 := (inWalk_iff _ _).1 (allIn_at _ 255 walk_all x.val h0 (by have := x.lt; omega))
  obtain ⟨j, hj, he⟩ := List.mem_iff_getElem.1 h1
  rw [walk_len] at hj
  have h2 := walk_get 1 255 j hj
  rw [one_mul] at h2
  have h3 : (walkN (1 : E).val 255)[j]? = some x.val := by
    rw [List.getElem?_eq_getElem (by rw [walk_len]; exact hj)]
    exact congrArg some he
  rw [h2] at h3
  exact ⟨j, hj, ext (by injection h3)⟩
theorem ord_gen : IsOrd gen 255 := by
  obtain ⟨n, hn⟩ := has_ord gen_ne
  have hd := hn.div
  obtain ⟨t, ht, he⟩ := ords_all n hn.2.1 hn.1 hd
  have hp := hn.2.2.1
  have key : ∀ m, m ∈ [1, 3, 5, 15, 17, 51, 85] → pow gen m ≠ 1 := by decide +kernel
  have hm : n ∈ ords := List.mem_of_getElem? he
  have : n = 255 := by
    simp only [ords, List.mem_cons, List.not_mem_nil, or_false] at hm
    rcases hm with rfl | rfl | rfl | rfl | rfl | rfl | rfl | rfl
    all_goals first | rfl | exact absurd hp (key _ (by decide))
  rw [← this]; exact hn
theorem pow_gen_inj {i j : Nat} (hi : i < 255) (hj : j < 255) (h : pow gen i = pow gen j) : i = j := by
  have main : ∀ i j, i ≤ j → j < 255 → pow gen i = pow gen j → i = j := by
    intro i j hij hj h
    have e : pow gen j = pow gen i * pow gen (j - i) := by rw [← pow_add]; congr 1; omega
    rw [e] at h
    have h1 : pow gen i * 1 = pow gen i * pow gen (j - i) := by rw [mul_one]; exact h
    have h2 := (mul_left_inj (pow_ne_zero gen_ne i)).1 h1
    have h3 := (ord_gen.iff (j - i)).1 h2.symm
    have : (j - i) % 255 = j - i := Nat.mod_eq_of_lt (by omega)
    omega
  rcases Nat.le_total i j with h' | h'
  · exact main i j h' hj h
  · exact (main j i h' hi h.symm).symm
end E
end Go.Proofs.Ytdimanoodfepiaa.Gf
