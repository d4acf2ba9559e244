/-
  Lists of coefficients, plain: without the zeros at the end; sums, products, values.
-/
import Derived.Test.YtemnlcfabaocbaaSeries
namespace Go.Proofs.Ytemnlcfabaocbaa.Gf
open S
def ser (l : List E) : S := fun i => l[i]?.getD 0
theorem ser_nil : ser [] = zero := rfl
theorem ser_cons_zero (a : E) (l : List E) : ser (a :: l) 0 = a := rfl
theorem ser_tail (a : E) (l : List E) : tail (ser (a :: l)) = ser l := rfl
theorem ser_at (l : List E) (i : Nat) (h : i < l.length) : ser l i = l[i] := by simp [ser, h]
theorem ser_out (l : List E) (i : Nat) (h : l.length ≤ i) : ser l i = 0 := by simp [ser, h]
theorem dlt_ser (l : List E) : Dlt (ser l) l.length := fun i hi => ser_out l i hi
theorem ser_append_left (a b : List E) (i : Nat) (h : i < a.length) : ser (a ++ b) i = ser a i := by simp [ser, List.getElem?_append_left h]
theorem ser_append_right (a b : List E) (i : Nat) (h : a.length ≤ i) : ser (a ++ b) i = ser b (i - a.length) := by simp [ser, List.getElem?_append_right h]
theorem ser_take (l : List E) (n i : Nat) : ser (l.take n) i = if i < n then ser l i else 0 := by
  simp only [ser, List.getElem?_take]
  split <;> rfl
theorem ser_replicate (n i : Nat) : ser (List.replicate n 0) i = 0 := by
  simp only [ser, List.getElem?_replicate]
  split <;> rfl
theorem list_ext {a b : List E} (hl : a.length = b.length) (h : ∀ i, i < a.length → ser a i = ser b i) : a = b := by
  apply List.ext_getElem hl
  intro i h1 h2
  have := h i h1
  rwa [ser_at a i h1, ser_at b i h2] at this
def ofS (n : Nat) (f : S) : List E := (List.range n).map f
theorem ofS_length (n : Nat) (f : S) : (ofS n f).length = n := by simp [ofS]
theorem ser_ofS_lt (n : Nat) (f : S) (i : Nat) (h : i < n) : ser (ofS n f) i = f i := by simp [ser, ofS, h]
theorem ser_ofS {n : Nat} {f : S} (h : Dlt f n) : ser (ofS n f) = f := funext fun i => by
  by_cases hi : i < n
  · exact ser_ofS_lt n f i hi
  · rw [ser_out _ _ (by rw [ofS_length]; omega), h i (by omega)]
theorem ofS_succ (n : Nat) (f : S) : ofS (n + 1) f = ofS n f ++ [f n] := by simp [ofS, List.range_succ]
theorem ofS_take (n m : Nat) (f : S) (h : m ≤ n) : (ofS n f).take m = ofS m f := by
  rw [ofS, ← List.map_take, List.take_range, Nat.min_eq_left h]; rfl
theorem ofS_getElem (n : Nat) (f : S) (i : Nat) (h : i < (ofS n f).length) : (ofS n f)[i] = f i := by simp [ofS]

theorem ofS_set (n : Nat) (f : S) (k : Nat) (v : E) : (ofS n f).set k v = ofS n (fun i => if i = k then v else f i) := by
  apply List.ext_getElem
  · simp [ofS]
  · intro i h1 h2
    simp only [ofS, List.getElem_set, List.getElem_map, List.getElem_range]
    by_cases h : k = i
    · subst h; simp
    · rw [if_neg h, if_neg (fun e => h e.symm)]
theorem ofS_congr {n : Nat} {f g : S} (h : ∀ i, i < n → f i = g i) : ofS n f = ofS n g := by
  apply List.ext_getElem
  · simp [ofS]
  · intro i h1 h2
    simp only [ofS, List.getElem_map, List.getElem_range]
    exact h i (by simpa [ofS] using h1)
theorem ofS_ser (l : List E) : ofS l.length (ser l) = l := list_ext (ofS_length _ _) fun i h => by
  rw [ofS_length] at h
  exact ser_ofS_lt _ _ i h
theorem ofS_pad (l : List E) (n : Nat) (h : l.length ≤ n) : ofS n (ser l) = l ++ List.replicate (n - l.length) 0 := by
  apply list_ext
  · simp [ofS]; omega
  · intro i hi
    rw [ofS_length] at hi
    rw [ser_ofS_lt _ _ i hi]
    by_cases hl : i < l.length
    · rw [ser_append_left l _ i hl]
    · rw [ser_append_right l _ i (by omega), ser_replicate, ser_out l i (by omega)]
/-- How many coefficients there are up to the last that is not zero. -/
def dg : List E → Nat
  | [] => 0
  | a :: l => if dg l = 0 then (if a = 0 then 0 else 1) else dg l + 1
theorem dg_le : ∀ l, dg l ≤ l.length
  | [] => Nat.le_refl _
  | a :: l => by
    have := dg_le l
    simp only [dg, List.length_cons]
    split
    · split <;> omega
    · omega
theorem dg_zero : ∀ (l : List E) (i : Nat), dg l ≤ i → ser l i = 0
  | [], _, _ => rfl
  | a :: l, i, h => by
    simp only [dg] at h
    split at h
    · rename_i h0
      split at h
      · rename_i ha
        cases i with
        | zero => exact ha
        | succ i => exact dg_zero l i (by omega)
      · cases i with
        | zero => omega
        | succ i => exact dg_zero l i (by omega)
    · cases i with
      | zero => omega
      | succ i => exact dg_zero l i (by omega)
theorem dg_last : ∀ (l : List E), dg l ≠ 0 → ser l (dg l - 1) ≠ 0
  | [], h => absurd rfl h
  | a :: l, h => by
    simp only [dg] at h ⊢
    split
    · rename_i h0
      rw [if_pos h0] at h
      split
      · rename_i ha; rw [if_pos ha] at h; exact absurd rfl h
      · rename_i ha; exact ha
    · rename_i h0
      have := dg_last l h0
      rw [show dg l + 1 - 1 = (dg l - 1) + 1 by omega]
      exact this
theorem dg_dlt (l : List E) : Dlt (ser l) (dg l) := dg_zero l
theorem dg_min {l : List E} {n : Nat} (h : Dlt (ser l) n) : dg l ≤ n := by
  rcases Nat.lt_or_ge n (dg l) with h1 | h1
  · exact absurd (h (dg l - 1) (by omega)) (dg_last l (by omega))
  · exact h1
theorem dg_eq {l : List E} {n : Nat} (h : Dlt (ser l) n) (hn : n ≠ 0 → ser l (n - 1) ≠ 0) : dg l = n := by
  have h1 := dg_min h
  rcases Nat.lt_or_ge (dg l) n with h2 | h2
  · exact absurd (dg_zero l (n - 1) (by omega)) (hn (by omega))
  · omega
theorem dg_ser {a b : List E} (h : ser a = ser b) : dg a = dg b := by
  have h1 := dg_min (l := a) (n := dg b) (by rw [h]; exact dg_dlt b)
  have h2 := dg_min (l := b) (n := dg a) (by rw [← h]; exact dg_dlt a)
  omega
theorem dg_eq_zero {l : List E} : dg l = 0 ↔ ser l = zero := by
  constructor
  · intro h; exact (h ▸ dg_dlt l : Dlt (ser l) 0).zero
  · intro h; have := dg_min (l := l) (n := 0) (by rw [h]; exact dlt_zero 0); omega
def trim (l : List E) : List E := l.take (dg l)
theorem trim_length (l : List E) : (trim l).length = dg l := by rw [trim, List.length_take, Nat.min_eq_left (dg_le l)]
theorem ser_trim (l : List E) : ser (trim l) = ser l := funext fun i => by
  rw [trim, ser_take]
  split
  · rfl
  · exact (dg_zero l i (by omega)).symm
theorem dg_trim (l : List E) : dg (trim l) = dg l := dg_ser (ser_trim l)
theorem trim_trim (l : List E) : trim (trim l) = trim l := by
  rw [trim, dg_trim, ← trim_length, List.take_length]
theorem trim_ser {a b : List E} (h : ser a = ser b) : trim a = trim b := by
  apply list_ext
  · rw [trim_length, trim_length, dg_ser h]
  · intro i _; rw [ser_trim, ser_trim, h]
def Trimmed (l : List E) : Prop := trim l = l
theorem trimmed_trim (l : List E) : Trimmed (trim l) := trim_trim l
theorem Trimmed.eq {a b : List E} (ha : Trimmed a) (hb : Trimmed b) (h : ser a = ser b) : a = b := by
  rw [← ha, ← hb]; exact trim_ser h
theorem Trimmed.dg {l : List E} (h : Trimmed l) : Gf.dg l = l.length := by
  have := trim_length l
  rw [h] at this
  exact this.symm
theorem Trimmed.last {l : List E} (h : Trimmed l) (hn : l.length ≠ 0) : ser l (l.length - 1) ≠ 0 := by
  have := dg_last l (by rw [h.dg]; exact hn)
  rwa [h.dg] at this
theorem trimmed_of {l : List E} (h : l.length ≠ 0 → ser l (l.length - 1) ≠ 0) : Trimmed l := by
  have : Gf.dg l = l.length := dg_eq (dlt_ser l) h
  rw [Trimmed, trim, this, List.take_length]
theorem trimmed_nil : Trimmed [] := rfl
theorem Trimmed.zero {l : List E} (h : Trimmed l) (hz : ser l = zero) : l = [] := by
  have := dg_eq_zero.2 hz
  rw [h.dg] at this
  exact List.eq_nil_of_length_eq_zero this

/-! the document's functions -/
def plusL (p q : List E) : List E := trim (ofS (max p.length q.length) (add (ser p) (ser q)))
def scaleL (p : List E) (c : E) : List E := trim (ofS p.length (smul c (ser p)))
def timesL (p q : List E) : List E := trim (ofS (p.length + q.length) (mul (ser p) (ser q)))
def deriveS (f : S) : S := fun i => if i % 2 = 0 then f (i + 1) else 0
def deriveL (p : List E) : List E := trim (ofS (p.length - 1) (deriveS (ser p)))
theorem ser_plusL (p q : List E) : ser (plusL p q) = add (ser p) (ser q) := by
  rw [plusL, ser_trim, ser_ofS]
  exact ((dlt_ser p).mono (by omega)).add ((dlt_ser q).mono (by omega))
theorem ser_scaleL (p : List E) (c : E) : ser (scaleL p c) = smul c (ser p) := by
  rw [scaleL, ser_trim, ser_ofS ((dlt_ser p).smul c)]
theorem ser_timesL (p q : List E) : ser (timesL p q) = mul (ser p) (ser q) := by
  rw [timesL, ser_trim, ser_ofS ((dlt_ser p).mul (dlt_ser q))]
theorem ser_deriveL (p : List E) : ser (deriveL p) = deriveS (ser p) := by
  rw [deriveL, ser_trim, ser_ofS]
  intro i hi
  simp only [deriveS]
  split
  · exact ser_out p _ (by omega)
  · rfl
theorem trimmed_plusL (p q : List E) : Trimmed (plusL p q) := trimmed_trim _
theorem trimmed_scaleL (p : List E) (c : E) : Trimmed (scaleL p c) := trimmed_trim _
theorem trimmed_timesL (p q : List E) : Trimmed (timesL p q) := trimmed_trim _
theorem trimmed_deriveL (p : List E) : Trimmed (deriveL p) := trimmed_trim _
/-- The value. -/
def evL (l : List E) (x : E) : E := ev l.length (ser l) x
theorem evL_nil (x : E) : evL [] x = 0 := rfl
theorem evL_cons (a : E) (l : List E) (x : E) : evL (a :: l) x = a + x * evL l x := rfl
theorem evL_drop (l : List E) (x : E) (k : Nat) (h : k < l.length) : evL (l.drop k) x = l[k] + x * evL (l.drop (k + 1)) x := by
  rw [List.drop_eq_getElem_cons h, evL_cons]
theorem evL_ser {a b : List E} (h : ser a = ser b) (x : E) : evL a x = evL b x := by
  have h1 := ev_dlt (dlt_ser a) (Nat.le_max_left a.length b.length) x
  have h2 := ev_dlt (dlt_ser b) (Nat.le_max_right a.length b.length) x
  rw [evL, evL, ← h1, ← h2, h]
theorem evL_of {l : List E} {f : S} {n : Nat} (h : ser l = f) (hf : Dlt f n) (x : E) : evL l x = ev n f x := by
  have h1 := ev_dlt (dlt_ser l) (Nat.le_max_left l.length n) x
  have h2 := ev_dlt hf (Nat.le_max_right l.length n) x
  rw [evL, ← h1, ← h2, h]
theorem evL_trim (l : List E) (x : E) : evL (trim l) x = evL l x := evL_ser (ser_trim l) x
theorem evL_plus (p q : List E) (x : E) : evL (plusL p q) x = evL p x + evL q x := by
  have hp := (dlt_ser p).mono (Nat.le_max_left p.length q.length)
  have hq := (dlt_ser q).mono (Nat.le_max_right p.length q.length)
  rw [evL_of (ser_plusL p q) (hp.add hq), ev_add, evL, evL, ev_dlt (dlt_ser p) (by omega), ev_dlt (dlt_ser q) (by omega)]
theorem evL_scale (p : List E) (c x : E) : evL (scaleL p c) x = c * evL p x := by
  rw [evL_of (ser_scaleL p c) ((dlt_ser p).smul c), ev_smul]; rfl
theorem evL_times (p q : List E) (x : E) : evL (timesL p q) x = evL p x * evL q x := by
  rw [evL_of (ser_timesL p q) ((dlt_ser p).mul (dlt_ser q)), ev_mul (dlt_ser p) (dlt_ser q)]; rfl
/-- The value as the sum of the coefficients times the powers. -/
def sumTo (l : List E) (x : E) : Nat → E
  | 0 => 0
  | k + 1 => sumTo l x k + ser l k * E.pow x k
theorem sumTo_cons (a : E) (l : List E) (x : E) (k : Nat) : sumTo (a :: l) x (k + 1) = a + x * sumTo l x k := by
  induction k with
  | zero => simp [sumTo, ser_cons_zero, E.pow_zero, E.mul_one, E.mul_zero, E.add_zero, E.zero_add]
  | succ k ih =>
    rw [sumTo, ih, sumTo, E.mul_add, E.add_assoc]
    congr 2
    show ser l k * E.pow x (k + 1) = _
    rw [E.pow_succ, E.mul_comm (E.pow x k) x, E.mul_left_comm]
theorem sumTo_ev (l : List E) (x : E) : sumTo l x l.length = evL l x := by
  induction l with
  | nil => rfl
  | cons a l ih => rw [List.length_cons, sumTo_cons, ih, evL_cons]
end Go.Proofs.Ytemnlcfabaocbaa.Gf
