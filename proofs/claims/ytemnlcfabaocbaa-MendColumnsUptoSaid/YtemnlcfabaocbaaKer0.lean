/-
  Elimination, plain: sums, the staircase, what each step keeps, what a kernel is.
-/
import Derived.Test.YtemnlcfabaocbaaNear
namespace Go.Proofs.Ytemnlcfabaocbaa
open Go.RowKit Gf
set_option linter.unusedVariables false

def sumN : Nat → (Nat → E) → E
  | 0, _ => 0
  | n + 1, f => sumN n f + f n
theorem sumN_zero {n : Nat} {f : Nat → E} (h : ∀ i, i < n → f i = 0) : sumN n f = 0 := by
  induction n with
  | zero => rfl
  | succ n ih => rw [sumN, ih (fun i hi => h i (by omega)), h n (by omega), E.add_zero]
theorem sumN_add (n : Nat) (f g : Nat → E) : sumN n (fun i => f i + g i) = sumN n f + sumN n g := by
  induction n with
  | zero => exact (E.add_zero _).symm
  | succ n ih => rw [sumN, sumN, sumN, ih, E.add_assoc, E.add_assoc]; congr 1; rw [E.add_left_comm]
theorem sumN_smul (n : Nat) (c : E) (f : Nat → E) : sumN n (fun i => c * f i) = c * sumN n f := by
  induction n with
  | zero => exact (E.mul_zero _).symm
  | succ n ih => rw [sumN, sumN, ih, E.mul_add]
theorem sumN_congr {n : Nat} {f g : Nat → E} (h : ∀ i, i < n → f i = g i) : sumN n f = sumN n g := by
  induction n with
  | zero => rfl
  | succ n ih => rw [sumN, sumN, ih (fun i hi => h i (by omega)), h n (by omega)]
theorem sumN_one {n a : Nat} {f : Nat → E} (ha : a < n) (h : ∀ i, i < n → i ≠ a → f i = 0) : sumN n f = f a := by
  induction n with
  | zero => omega
  | succ n ih =>
    rw [sumN]
    by_cases e : a = n
    · subst e; rw [sumN_zero (fun i hi => h i (by omega) (by omega)), E.zero_add]
    · rw [ih (by omega) (fun i hi hne => h i (by omega) hne), h n (by omega) (fun h => e h.symm), E.add_zero]
theorem sumN_two {n a b : Nat} {f : Nat → E} (ha : a < n) (hb : b < n) (hab : a ≠ b) (h : ∀ i, i < n → i ≠ a → i ≠ b → f i = 0) : sumN n f = f a + f b := by
  have h1 : sumN n f = sumN n (fun i => (if i = a then f a else 0) + (if i = b then f b else 0)) := sumN_congr fun i hi => by
    by_cases e1 : i = a
    · subst e1; rw [if_pos rfl, if_neg hab, E.add_zero]
    · by_cases e2 : i = b
      · subst e2; rw [if_neg e1, if_pos rfl, E.zero_add]
      · rw [if_neg e1, if_neg e2, E.add_zero]; exact h i hi e1 e2
  rw [h1, sumN_add, sumN_one ha (fun i _ hne => if_neg hne), sumN_one hb (fun i _ hne => if_neg hne), if_pos rfl, if_pos rfl]
/-- The equation of a row. -/
def dotN (U : Nat) (r x : Nat → E) : E := sumN U fun i => r i * x i
theorem dotN_scale (U : Nat) (c : E) (r x : Nat → E) : dotN U (fun i => c * r i) x = c * dotN U r x := by
  rw [dotN, dotN, ← sumN_smul]; exact sumN_congr fun i _ => E.mul_assoc _ _ _
theorem dotN_add (U : Nat) (r s x : Nat → E) : dotN U (fun i => r i + s i) x = dotN U r x + dotN U s x := by
  rw [dotN, dotN, dotN, ← sumN_add]; exact sumN_congr fun i _ => E.add_mul _ _ _
/-- All equations hold. -/
def Solves (m U : Nat) (M : Nat → Nat → E) (x : Nat → E) : Prop := ∀ i, i < m → dotN U (M i) x = 0
/-- The staircase, as far as it has come. -/
structure Stair (m U : Nat) (M : Nat → Nat → E) (c at_ : Nat) (place : Nat → Nat) : Prop where
  am : at_ ≤ m
  ac : at_ ≤ c
  cU : c ≤ U
  free : ∀ i, i < c → place i = 0 → ∀ r, at_ ≤ r → r < m → M r i = 0
  piv : ∀ i k, place i = k + 1 → i < c ∧ k < at_ ∧ M k i = 1 ∧ ∀ r, r < m → r ≠ k → M r i = 0
  inj : ∀ i j, place i = place j → place i ≠ 0 → i = j
  onto : ∀ k, k < at_ → ∃ i, place i = k + 1
theorem Stair.start (m U : Nat) (M : Nat → Nat → E) : Stair m U M 0 0 (fun _ => 0) :=
  ⟨Nat.zero_le _, Nat.zero_le _, Nat.zero_le _, fun i h => absurd h (by omega), fun i k h => (by cases h), fun i j _ h => absurd rfl h, fun k h => absurd h (by omega)⟩
section
variable {m U : Nat} {M M' : Nat → Nat → E} {c at_ : Nat} {place : Nat → Nat}
/-- No row from at_ on says something in the column. -/
theorem Stair.skip (h : Stair m U M c at_ place) (hc : c < U) (hz : ∀ r, at_ ≤ r → r < m → M r c = 0) : Stair m U M (c + 1) at_ place :=
  ⟨h.am, Nat.le_succ_of_le h.ac, hc, fun i hi hp r h1 h2 => by
    by_cases e : i = c
    · subst e; exact hz r h1 h2
    · exact h.free i (by omega) hp r h1 h2, fun i k hp => by
      obtain ⟨a, b⟩ := h.piv i k hp
      exact ⟨by omega, b⟩, h.inj, h.onto⟩
theorem Stair.place_zero (h : Stair m U M c at_ place) {i : Nat} (hi : c ≤ i) : place i = 0 := by
  cases e : place i with
  | zero => rfl
  | succ k => have := (h.piv i k e).1; omega
/-- A row from at_ on that says something in the column: it is brought to at_, made to begin with 1, taken from all others. -/
theorem Stair.step (h : Stair m U M c at_ place) (hc : c < U) {p : Nat} (hp1 : at_ ≤ p) (hp2 : p < m) (hnz : M p c ≠ 0)
    (hat : ∀ i, M' at_ i = E.inv (M p c) * M p i)
    (hoth : ∀ r, r < m → r ≠ at_ → ∀ i, M' r i = (if r = p then M at_ i else M r i) + (if r = p then M at_ c else M r c) * M' at_ i) :
    Stair m U M' (c + 1) (at_ + 1) (fun i => if i = c then at_ + 1 else place i) := by
  have hm : at_ < m := by omega
  have one : M' at_ c = 1 := by rw [hat, E.inv_mul hnz]
  have col : ∀ i, (∀ r, at_ ≤ r → r < m → M r i = 0) → M' at_ i = 0 ∧ ∀ r, r < m → r ≠ at_ → M' r i = M r i := fun i hz => by
    have h0 : M' at_ i = 0 := by rw [hat, hz p hp1 hp2, E.mul_zero]
    refine ⟨h0, fun r hr hne => ?_⟩
    rw [hoth r hr hne, h0, E.mul_zero, E.add_zero]
    by_cases e : r = p
    · subst e; rw [if_pos rfl, hz at_ (Nat.le_refl _) hm, hz r hp1 hr]
    · rw [if_neg e]
  refine ⟨by omega, by have := h.ac; omega, hc, ?_, ?_, ?_, ?_⟩
  · intro i hi hp r h1 h2
    try dsimp only at hp
    by_cases e : i = c
    · subst e; rw [if_pos rfl] at hp; omega
    · rw [if_neg e] at hp
      have hz := h.free i (by omega) hp
      rw [(col i hz).2 r h2 (by omega)]
      exact hz r (by omega) h2
  · intro i k hp
    try dsimp only at hp
    by_cases e : i = c
    · subst e
      rw [if_pos rfl] at hp
      obtain rfl : k = at_ := by omega
      refine ⟨by omega, by omega, one, fun r hr hne => ?_⟩
      rw [hoth r hr hne, one, E.mul_one, E.add_self]
    · rw [if_neg e] at hp
      obtain ⟨a, b, c1, d⟩ := h.piv i k hp
      have hz : ∀ r, at_ ≤ r → r < m → M r i = 0 := fun r h1 h2 => d r h2 (by omega)
      refine ⟨by omega, by omega, ?_, fun r hr hne => ?_⟩
      · rw [(col i hz).2 k (by omega) (by omega)]; exact c1
      · by_cases e2 : r = at_
        · subst e2; exact (col i hz).1
        · rw [(col i hz).2 r hr e2]; exact d r hr hne
  · intro i j hij hne
    try dsimp only at hij hne
    by_cases e1 : i = c <;> by_cases e2 : j = c
    · rw [e1, e2]
    · rw [if_pos e1, if_neg e2] at hij
      have := (h.piv j at_ hij.symm).2.1
      omega
    · rw [if_neg e1, if_pos e2] at hij
      have := (h.piv i at_ hij).2.1
      omega
    · rw [if_neg e1, if_neg e2] at hij
      rw [if_neg e1] at hne
      exact h.inj i j hij hne
  · intro k hk
    by_cases e : k = at_
    · subst e; exact ⟨c, if_pos rfl⟩
    · obtain ⟨i, hi⟩ := h.onto k (by omega)
      refine ⟨i, ?_⟩
      rw [if_neg (fun e2 => ?_)]
      · exact hi
      · subst e2
        have := (h.piv i k hi).1
        omega
/-- The step keeps the solutions. -/
theorem solves_step {p : Nat} (hat0 : at_ < m) (hp2 : p < m) (hnz : M p c ≠ 0) (hat : ∀ i, M' at_ i = E.inv (M p c) * M p i)
    (hoth : ∀ r, r < m → r ≠ at_ → ∀ i, M' r i = (if r = p then M at_ i else M r i) + (if r = p then M at_ c else M r c) * M' at_ i) (x : Nat → E) : Solves m U M' x ↔ Solves m U M x := by
  have d1 : dotN U (M' at_) x = E.inv (M p c) * dotN U (M p) x := by rw [← dotN_scale]; congr 1; exact funext hat
  have d2 : ∀ r, r < m → r ≠ at_ → dotN U (M' r) x = dotN U (if r = p then M at_ else M r) x + (if r = p then M at_ c else M r c) * dotN U (M' at_) x := fun r hr hne => by
    rw [← dotN_scale, ← dotN_add]
    congr 1
    funext i
    rw [hoth r hr hne i]
    by_cases e : r = p <;> simp [e]
  constructor
  · intro h
    have hp0 : dotN U (M p) x = 0 := by
      have := h at_ hat0
      rw [d1] at this
      rcases E.mul_eq_zero.1 this with e | e
      · exact absurd e (E.inv_ne_zero hnz)
      · exact e
    intro r hr
    by_cases e : r = p
    · subst e; exact hp0
    · by_cases e2 : r = at_
      · subst e2
        by_cases e3 : p = r
        · exact absurd e3.symm e
        · have := d2 p hp2 e3
          rw [h p hp2, if_pos rfl, if_pos rfl, h r hr, E.mul_zero, E.add_zero] at this
          exact this.symm
      · have := d2 r hr e2
        rw [h r hr, if_neg e, if_neg e, h at_ hat0, E.mul_zero, E.add_zero] at this
        exact this.symm
  · intro h r hr
    have ha : dotN U (M' at_) x = 0 := by rw [d1, h p hp2, E.mul_zero]
    by_cases e2 : r = at_
    · subst e2; exact ha
    · rw [d2 r hr e2, ha, E.mul_zero, E.add_zero]
      by_cases e : r = p
      · rw [if_pos e]; exact h at_ hat0
      · rw [if_neg e]; exact h r hr
/-- The solution of a free column. -/
def freeSol (M : Nat → Nat → E) (place : Nat → Nat) (f i : Nat) : E := if place i ≠ 0 then M (place i - 1) f else if i = f then 1 else 0
theorem Stair.solution (h : Stair m U M c at_ place) (hend : c = U ∨ at_ = m) {f : Nat} (hf : f < U) (hp : place f = 0) : Solves m U M (freeSol M place f) := by
  intro r hr
  have hff : freeSol M place f f = 1 := by rw [freeSol, if_neg (by simp [hp]), if_pos rfl]
  rcases Nat.lt_or_ge r at_ with h1 | h1
  · obtain ⟨i, hi⟩ := h.onto r h1
    obtain ⟨a, b, c1, d⟩ := h.piv i r hi
    have hif : i ≠ f := fun e => by subst e; omega
    have hcU := h.cU
    rw [dotN, sumN_two (a := i) (b := f) (by omega) hf hif ?_]
    · rw [c1, hff, E.mul_one, E.one_mul, freeSol, if_pos (by omega), hi, Nat.add_sub_cancel, E.add_self]
    · intro j hj hji hjf
      cases e : place j with
      | zero => rw [freeSol, if_neg (by simp [e]), if_neg hjf, E.mul_zero]
      | succ k =>
        have hk : k ≠ r := fun e2 => hji (h.inj j i (by omega) (by omega))
        rw [(h.piv j k e).2.2.2 r hr (fun e2 => hk e2.symm), E.zero_mul]
  · have hc : c = U := by
      rcases hend with e | e
      · exact e
      · omega
    rw [dotN, sumN_zero]
    intro j hj
    cases e : place j with
    | zero => rw [h.free j (by omega) e r h1 hr, E.zero_mul]
    | succ k =>
      have := (h.piv j k e).2.1
      rw [(h.piv j k e).2.2.2 r hr (by omega), E.zero_mul]
theorem Stair.none_ (h : Stair m U M c at_ place) (hall : ∀ i, i < U → place i ≠ 0) (x : Nat → E) (hx : Solves m U M x) : ∀ i, i < U → x i = 0 := by
  intro i hi
  obtain ⟨k, hk⟩ : ∃ k, place i = k + 1 := ⟨place i - 1, by have := hall i hi; omega⟩
  obtain ⟨a, b, c1, d⟩ := h.piv i k hk
  have hs := hx k (by have := h.am; omega)
  rw [dotN, sumN_one hi ?_] at hs
  · rwa [c1, E.one_mul] at hs
  · intro j hj hne
    obtain ⟨l, hl⟩ : ∃ l, place j = l + 1 := ⟨place j - 1, by have := hall j hj; omega⟩
    have hlk : l ≠ k := fun e => hne (h.inj j i (by omega) (by omega))
    rw [(h.piv j l hl).2.2.2 k (by have := h.am; omega) (fun e => hlk e.symm), E.zero_mul]
end
end Go.Proofs.Ytemnlcfabaocbaa
