/-
  Polynomials over the field of 256, plain: as series of coefficients; a list of coefficients is read as one.
-/
import Derived.Test.YtemnlcfabaocbaaGf
namespace Go.Proofs.Ytemnlcfabaocbaa.Gf

abbrev S := Nat → E
namespace S
def tail (f : S) : S := fun i => f (i + 1)
def sh (f : S) : S := fun i => match i with | 0 => 0 | i + 1 => f i
def zero : S := fun _ => 0
def one : S := fun i => match i with | 0 => 1 | _ + 1 => 0
def add (f g : S) : S := fun i => f i + g i
def smul (c : E) (f : S) : S := fun i => c * f i
def conv : Nat → S → S → E
  | 0, f, g => f 0 * g 0
  | n + 1, f, g => f 0 * g (n + 1) + conv n (tail f) g
def mul (f g : S) : S := fun n => conv n f g

theorem add_comm (f g : S) : add f g = add g f := funext fun _ => E.add_comm _ _
theorem add_assoc (f g h : S) : add (add f g) h = add f (add g h) := funext fun _ => E.add_assoc _ _ _
theorem add_left_comm (f g h : S) : add f (add g h) = add g (add f h) := funext fun _ => E.add_left_comm _ _ _
theorem add_zero (f : S) : add f zero = f := funext fun _ => E.add_zero _
theorem zero_add (f : S) : add zero f = f := funext fun _ => E.zero_add _
theorem add_self (f : S) : add f f = zero := funext fun _ => E.add_self _
theorem add_cancel (f g : S) : add f (add f g) = g := funext fun _ => E.add_cancel_left _ _
theorem add_eq_zero {f g : S} (h : add f g = zero) : f = g := funext fun i => E.add_eq_zero.1 (congrFun h i)
theorem eq_add {f g h : S} (e : add f g = h) : f = add h g := by rw [← e, add_assoc, add_self, add_zero]
theorem smul_add (c : E) (f g : S) : smul c (add f g) = add (smul c f) (smul c g) := funext fun _ => E.mul_add _ _ _
theorem smul_smul (c d : E) (f : S) : smul c (smul d f) = smul (c * d) f := funext fun _ => (E.mul_assoc _ _ _).symm
theorem one_smul (f : S) : smul 1 f = f := funext fun _ => E.one_mul _
theorem zero_smul (f : S) : smul 0 f = zero := funext fun _ => E.zero_mul _
theorem smul_zero (c : E) : smul c zero = zero := funext fun _ => E.mul_zero _
theorem sh_add (f g : S) : sh (add f g) = add (sh f) (sh g) := funext fun i => by cases i <;> simp [sh, add, E.add_zero]
theorem sh_smul (c : E) (f : S) : sh (smul c f) = smul c (sh f) := funext fun i => by cases i <;> simp [sh, smul, E.mul_zero]
theorem sh_zero : sh zero = zero := funext fun i => by cases i <;> rfl
theorem tail_sh (f : S) : tail (sh f) = f := rfl

theorem conv_add_left (f f' g : S) (n : Nat) : conv n (add f f') g = conv n f g + conv n f' g := by
  induction n generalizing f f' with
  | zero => exact E.add_mul _ _ _
  | succ n ih =>
    show (f 0 + f' 0) * g (n + 1) + conv n (add (tail f) (tail f')) g = _
    rw [ih, E.add_mul]
    simp only [conv, E.add_assoc, E.add_left_comm]
theorem conv_add_right (f g g' : S) (n : Nat) : conv n f (add g g') = conv n f g + conv n f g' := by
  induction n generalizing f with
  | zero => exact E.mul_add _ _ _
  | succ n ih =>
    show f 0 * (g (n + 1) + g' (n + 1)) + conv n (tail f) (add g g') = _
    rw [ih, E.mul_add]
    simp only [conv, E.add_assoc, E.add_left_comm]
theorem conv_smul_left (c : E) (f g : S) (n : Nat) : conv n (smul c f) g = c * conv n f g := by
  induction n generalizing f with
  | zero => exact E.mul_assoc _ _ _
  | succ n ih =>
    show c * f 0 * g (n + 1) + conv n (smul c (tail f)) g = _
    rw [ih, E.mul_assoc, ← E.mul_add]; rfl
theorem conv_smul_right (c : E) (f g : S) (n : Nat) : conv n f (smul c g) = c * conv n f g := by
  induction n generalizing f with
  | zero => exact E.mul_left_comm _ _ _
  | succ n ih =>
    show f 0 * (c * g (n + 1)) + conv n (tail f) (smul c g) = _
    rw [ih, E.mul_left_comm, ← E.mul_add]; rfl
theorem conv_last (f g : S) (n : Nat) : conv (n + 1) f g = f (n + 1) * g 0 + conv n f (tail g) := by
  induction n generalizing f with
  | zero => exact E.add_comm _ _
  | succ n ih =>
    show f 0 * g (n + 2) + conv (n + 1) (tail f) g = _
    rw [ih, E.add_left_comm]; rfl
theorem conv_comm (f g : S) (n : Nat) : conv n f g = conv n g f := by
  induction n generalizing f with
  | zero => exact E.mul_comm _ _
  | succ n ih =>
    rw [conv_last g f, E.mul_comm, ← ih]; rfl
theorem tail_mul (f g : S) : tail (mul f g) = add (smul (f 0) (tail g)) (mul (tail f) g) := rfl
theorem conv_assoc (f g h : S) (n : Nat) : conv n (mul f g) h = conv n f (mul g h) := by
  induction n generalizing f with
  | zero => exact E.mul_assoc _ _ _
  | succ n ih =>
    show (f 0 * g 0) * h (n + 1) + conv n (tail (mul f g)) h = f 0 * (g 0 * h (n + 1) + conv n (tail g) h) + conv n (tail f) (mul g h)
    rw [tail_mul, conv_add_left, conv_smul_left, ih, E.mul_add, E.mul_assoc, E.add_assoc]
theorem mul_comm (f g : S) : mul f g = mul g f := funext fun n => conv_comm f g n
theorem mul_assoc (f g h : S) : mul (mul f g) h = mul f (mul g h) := funext fun n => conv_assoc f g h n
theorem add_mul (f g h : S) : mul (add f g) h = add (mul f h) (mul g h) := funext fun n => conv_add_left f g h n
theorem mul_add (f g h : S) : mul f (add g h) = add (mul f g) (mul f h) := funext fun n => conv_add_right f g h n
theorem smul_mul (c : E) (f g : S) : mul (smul c f) g = smul c (mul f g) := funext fun n => conv_smul_left c f g n
theorem mul_smul (c : E) (f g : S) : mul f (smul c g) = smul c (mul f g) := funext fun n => conv_smul_right c f g n
theorem mul_left_comm (f g h : S) : mul f (mul g h) = mul g (mul f h) := by rw [← mul_assoc, mul_comm f g, mul_assoc]
theorem conv_zero (g : S) (n : Nat) : conv n zero g = 0 := by
  induction n with
  | zero => exact E.zero_mul _
  | succ n ih =>
    show 0 * g (n + 1) + conv n zero g = 0
    rw [ih, E.zero_mul, E.add_zero]
theorem zero_mul (g : S) : mul zero g = zero := funext fun n => conv_zero g n
theorem mul_zero (g : S) : mul g zero = zero := by rw [mul_comm, zero_mul]
theorem conv_one (g : S) (n : Nat) : conv n one g = g n := by
  cases n with
  | zero => exact E.one_mul _
  | succ n =>
    show 1 * g (n + 1) + conv n zero g = g (n + 1)
    rw [conv_zero, E.one_mul, E.add_zero]
theorem one_mul (g : S) : mul one g = g := funext fun n => conv_one g n
theorem mul_one (g : S) : mul g one = g := by rw [mul_comm, one_mul]
theorem sh_mul (f g : S) : mul (sh f) g = sh (mul f g) := funext fun n => by
  cases n with
  | zero => exact E.zero_mul _
  | succ n =>
    show 0 * g (n + 1) + conv n f g = conv n f g
    rw [E.zero_mul, E.zero_add]
/-- c times x to the n. -/
def mono (c : E) (n : Nat) : S := fun i => if i = n then c else 0
def shN (n : Nat) (f : S) : S := fun i => if i < n then 0 else f (i - n)
theorem mono_zero (c : E) : mono c 0 = smul c one := funext fun i => by cases i <;> simp [mono, smul, one, E.mul_one, E.mul_zero]
theorem mono_succ (c : E) (n : Nat) : mono c (n + 1) = sh (mono c n) := funext fun i => by cases i <;> simp [mono, sh]
theorem shN_zero (f : S) : shN 0 f = f := funext fun i => by simp [shN]
theorem shN_succ (n : Nat) (f : S) : shN (n + 1) f = sh (shN n f) := funext fun i => by cases i <;> simp [shN, sh]
theorem mono_mul (c : E) (n : Nat) (f : S) : mul (mono c n) f = smul c (shN n f) := by
  induction n with
  | zero => rw [mono_zero, smul_mul, one_mul, shN_zero]
  | succ n ih => rw [mono_succ, sh_mul, ih, shN_succ, sh_smul]

/-! degrees -/
def Dlt (f : S) (n : Nat) : Prop := ∀ i, n ≤ i → f i = 0
theorem Dlt.mono {f : S} {n m : Nat} (h : Dlt f n) (hm : n ≤ m) : Dlt f m := fun i hi => h i (Nat.le_trans hm hi)
theorem Dlt.add {f g : S} {n : Nat} (h : Dlt f n) (k : Dlt g n) : Dlt (add f g) n := fun i hi => by simp [S.add, h i hi, k i hi, E.add_zero]
theorem Dlt.smul {f : S} {n : Nat} (h : Dlt f n) (c : E) : Dlt (smul c f) n := fun i hi => by simp [S.smul, h i hi, E.mul_zero]
theorem Dlt.tail {f : S} {n : Nat} (h : Dlt f (n + 1)) : Dlt (tail f) n := fun i hi => h (i + 1) (by omega)
theorem Dlt.zero {f : S} (h : Dlt f 0) : f = zero := funext fun i => h i (Nat.zero_le _)
theorem dlt_zero (n : Nat) : Dlt zero n := fun _ _ => rfl
theorem split (f : S) : f = S.add (S.smul (f 0) one) (sh (S.tail f)) := funext fun i => by
  cases i with
  | zero => show f 0 = f 0 * 1 + 0; rw [E.mul_one, E.add_zero]
  | succ i => show f (i + 1) = f 0 * 0 + f (i + 1); rw [E.mul_zero, E.zero_add]
theorem mul_split (f g : S) : mul f g = S.add (S.smul (f 0) g) (sh (mul (S.tail f) g)) := by
  conv => lhs; rw [split f]
  rw [add_mul, smul_mul, one_mul, sh_mul]
theorem Dlt.mulN {f g : S} {m n : Nat} (hf : Dlt f m) (hg : Dlt g (n + 1)) : Dlt (mul f g) (m + n) := by
  induction m generalizing f with
  | zero =>
    rw [hf.zero, zero_mul]
    exact dlt_zero _
  | succ m ih =>
    intro i hi
    rw [mul_split]
    cases i with
    | zero => omega
    | succ i =>
      show f 0 * g (i + 1) + mul (S.tail f) g i = 0
      rw [hg _ (by omega), ih hf.tail i (by omega), E.mul_zero, E.add_zero]
theorem Dlt.mul {f g : S} {m n : Nat} (hf : Dlt f m) (hg : Dlt g n) : Dlt (mul f g) (m + n) := (hf.mulN (hg.mono (Nat.le_succ n)))
theorem lead_mul {f g : S} {m n : Nat} (hf : Dlt f (m + 1)) (hg : Dlt g (n + 1)) : mul f g (m + n) = f m * g n := by
  induction m generalizing f with
  | zero =>
    have : S.tail f = zero := hf.tail.zero
    rw [mul_split, this, zero_mul, sh_zero, S.add_zero, Nat.zero_add]; rfl
  | succ m ih =>
    rw [mul_split]
    show f 0 * g (m + 1 + n) + sh (mul (S.tail f) g) (m + 1 + n) = _
    rw [hg _ (by omega), show m + 1 + n = (m + n) + 1 by omega]
    show f 0 * 0 + mul (S.tail f) g (m + n) = _
    rw [ih hf.tail, E.mul_zero, E.zero_add]; rfl
/-- What is not zero has a degree. -/
theorem has_deg {f : S} {n : Nat} (h : Dlt f n) (hf : f ≠ zero) : ∃ d, d < n ∧ f d ≠ 0 ∧ Dlt f (d + 1) := by
  induction n with
  | zero => exact absurd h.zero hf
  | succ n ih =>
    by_cases hn : f n = 0
    · have h' : Dlt f n := fun i hi => by
        rcases Nat.eq_or_lt_of_le hi with e | e
        · rw [← e]; exact hn
        · exact h i e
      obtain ⟨d, hd, h1, h2⟩ := ih h'
      exact ⟨d, by omega, h1, h2⟩
    · exact ⟨n, by omega, hn, h⟩
theorem mul_eq_zero {f g : S} {m n : Nat} (hf : Dlt f m) (hg : Dlt g n) (h : mul f g = zero) : f = zero ∨ g = zero := by
  by_cases h1 : f = zero
  · exact .inl h1
  by_cases h2 : g = zero
  · exact .inr h2
  obtain ⟨d, _, hd, hd'⟩ := has_deg hf h1
  obtain ⟨e, _, he, he'⟩ := has_deg hg h2
  have := lead_mul hd' he'
  rw [h] at this
  rcases E.mul_eq_zero.1 this.symm with h | h
  · exact absurd h hd
  · exact absurd h he
/-- Quotient and rest are the only ones. -/
theorem div_unique {q r q' r' g : S} {d n : Nat} (hq : Dlt q n) (hq' : Dlt q' n) (hg : Dlt g (d + 1)) (hd : g d ≠ 0) (hr : Dlt r d) (hr' : Dlt r' d)
    (h : add (mul q g) r = add (mul q' g) r') : q = q' ∧ r = r' := by
  have h1 : mul (add q q') g = add r r' := by
    rw [add_mul]
    have h2 : add (add (mul q g) r) (add (mul q' g) r) = add (add (mul q' g) r') (add (mul q' g) r) := by rw [h]
    rw [show add (add (mul q g) r) (add (mul q' g) r) = add (mul q g) (mul q' g) by
      rw [add_assoc, add_left_comm r, add_self, add_zero]] at h2
    rw [h2, add_assoc, add_left_comm r', add_cancel, add_comm]
  have h0 : add q q' = zero := by
    by_cases hz : add q q' = zero
    · exact hz
    · obtain ⟨e, _, he, he'⟩ := has_deg (hq.add hq') hz
      have h3 := lead_mul he' hg
      rw [h1] at h3
      have h4 : add r r' (e + d) = 0 := (hr.add hr') _ (by omega)
      rw [h4] at h3
      rcases E.mul_eq_zero.1 h3.symm with h | h
      · exact absurd h he
      · exact absurd h hd
  refine ⟨add_eq_zero h0, ?_⟩
  rw [h0, zero_mul] at h1
  exact add_eq_zero h1.symm

/-! values -/
def ev : Nat → S → E → E
  | 0, _, _ => 0
  | n + 1, f, x => f 0 + x * ev n (tail f) x
theorem ev_zero (n : Nat) (x : E) : ev n zero x = 0 := by
  induction n with
  | zero => rfl
  | succ n ih => show 0 + x * ev n zero x = 0; rw [ih, E.mul_zero, E.add_zero]
theorem ev_dlt {f : S} {n m : Nat} (h : Dlt f n) (hm : n ≤ m) (x : E) : ev m f x = ev n f x := by
  induction n generalizing f m with
  | zero => rw [h.zero, ev_zero]; rfl
  | succ n ih =>
    obtain ⟨m, rfl⟩ : ∃ k, m = k + 1 := ⟨m - 1, by omega⟩
    show f 0 + x * ev m (tail f) x = f 0 + x * ev n (tail f) x
    rw [ih h.tail (by omega)]
theorem ev_add (n : Nat) (f g : S) (x : E) : ev n (add f g) x = ev n f x + ev n g x := by
  induction n generalizing f g with
  | zero => exact (E.add_zero _).symm
  | succ n ih =>
    show (f 0 + g 0) + x * ev n (add (tail f) (tail g)) x = _
    rw [ih, E.mul_add]
    simp only [ev, E.add_assoc, E.add_left_comm]
theorem ev_smul (n : Nat) (c : E) (f : S) (x : E) : ev n (smul c f) x = c * ev n f x := by
  induction n generalizing f with
  | zero => exact (E.mul_zero _).symm
  | succ n ih =>
    show c * f 0 + x * ev n (smul c (tail f)) x = _
    rw [ih, E.mul_left_comm, ← E.mul_add]; rfl
theorem ev_sh (n : Nat) (f : S) (x : E) : ev (n + 1) (sh f) x = x * ev n f x := by
  show 0 + x * ev n f x = _
  rw [E.zero_add]
theorem ev_one (n : Nat) (x : E) : ev (n + 1) one x = 1 := by
  show 1 + x * ev n zero x = 1
  rw [ev_zero, E.mul_zero, E.add_zero]
theorem ev_mul {f g : S} {m n : Nat} (hf : Dlt f m) (hg : Dlt g n) (x : E) : ev (m + n) (mul f g) x = ev m f x * ev n g x := by
  induction m generalizing f with
  | zero => rw [hf.zero, zero_mul, ev_zero]; exact (E.zero_mul _).symm
  | succ m ih =>
    rw [show m + 1 + n = (m + n) + 1 by omega, mul_split, ev_add, ev_smul, ev_sh, ih hf.tail, ev_dlt hg (by omega)]
    show _ = (f 0 + x * ev m (tail f) x) * ev n g x
    rw [E.add_mul, E.mul_assoc]
end S
end Go.Proofs.Ytemnlcfabaocbaa.Gf
