/-
  Plain: the polynomial through points by Lagrange's sum; the code word that is near by linear equations.
-/
import Derived.Test.YtemnlcfabaocbaaKer1
import Derived.Test.YtemnlcfabaocbaaCol0
namespace Go.Proofs.Ytemnlcfabaocbaa
open Go.RowKit Gf
set_option linter.unusedVariables false

/-! ### Lagrange -/
/-- The series behind i steps of the product with x + a. -/
def linT (l : List E) (a : E) (i k : Nat) : S := fun t => (if t < i then ser l t * a else 0) + (if 0 < t ∧ t ≤ k then ser l (t - 1) else 0)
theorem linT_zero (l : List E) (a : E) : linT l a 0 0 = S.zero := funext fun t => by
  simp only [linT]
  rw [if_neg (by omega), if_neg (by omega), E.add_zero]; rfl
theorem linT_all (l : List E) (a : E) : linT l a l.length l.length = ser (timesL l [a, 1]) := funext fun t => by
  rw [ser_timesL, S.mul_comm, lin_mul]
  simp only [linT, S.add, S.smul]
  congr 1
  · by_cases h : t < l.length
    · rw [if_pos h, E.mul_comm]
    · rw [if_neg h, ser_out _ _ (by omega), E.mul_zero]
  · cases t with
    | zero => rw [if_neg (by omega)]; rfl
    | succ t =>
      show _ = ser l t
      by_cases h : t + 1 ≤ l.length
      · rw [if_pos ⟨by omega, h⟩, Nat.add_sub_cancel]
      · rw [if_neg (by omega), ser_out _ _ (by omega)]
theorem linT_one (l : List E) (a : E) (i : Nat) : (fun t => if t = i then linT l a i i i + ser l i * a else linT l a i i t) = linT l a (i + 1) i := funext fun t => by
  simp only [linT]
  by_cases h : t = i
  · subst h
    rw [if_pos rfl, if_neg (Nat.lt_irrefl _), if_pos (Nat.lt_succ_self _), E.zero_add, E.add_comm]
  · rw [if_neg h]
    congr 1
    by_cases h2 : t < i
    · rw [if_pos h2, if_pos (by omega)]
    · rw [if_neg h2, if_neg (by omega)]
theorem linT_two (l : List E) (a : E) (i : Nat) : (fun t => if t = i + 1 then linT l a (i + 1) i (i + 1) + ser l i else linT l a (i + 1) i t) = linT l a (i + 1) (i + 1) := funext fun t => by
  simp only [linT]
  by_cases h : t = i + 1
  · subst h
    rw [if_pos rfl, if_neg (Nat.lt_irrefl _), if_neg (by omega), if_pos (by omega), E.zero_add, E.zero_add, Nat.add_sub_cancel, E.zero_add]
  · rw [if_neg h]
    congr 1
    by_cases h2 : 0 < t ∧ t ≤ i
    · rw [if_pos h2, if_pos (by omega)]
    · rw [if_neg h2, if_neg (by omega)]
/-- The product without one point: synthetic division. -/
def oneL (l : List E) (a : E) (n : Nat) : List E := (List.range n).map fun i => evL (l.drop (i + 1)) a
theorem oneL_length (l : List E) (a : E) (n : Nat) : (oneL l a n).length = n := by simp [oneL]
theorem oneL_get (l : List E) (a : E) (n i : Nat) (h : i < (oneL l a n).length) : (oneL l a n)[i] = evL (l.drop (i + 1)) a := by simp [oneL]
theorem ser_syn (a : E) : ∀ (l : List E) (i : Nat), ser (syn a l) i = evL (l.drop (i + 1)) a
  | [], i => by simp [syn, ser_nil, evL_nil, S.zero]
  | b :: l, 0 => rfl
  | b :: l, i + 1 => by
    show ser (syn a l) i = _
    rw [ser_syn a l i]; rfl
theorem ser_oneL {l : List E} {a : E} {n : Nat} (h : l.length = n + 1) : ser (oneL l a n) = ser (syn a l) := funext fun i => by
  rw [ser_syn]
  by_cases hi : i < n
  · rw [ser_at _ _ (by rw [oneL_length]; exact hi), oneL_get]
  · rw [ser_out _ _ (by rw [oneL_length]; omega), List.drop_eq_nil_of_le (by omega), evL_nil]
theorem oneL_split {l : List E} {a : E} {n : Nat} (h : l.length = n + 1) (h0 : evL l a = 0) : ser l = S.mul (ser [a, 1]) (ser (oneL l a n)) := by
  rw [ser_oneL h]; exact root_split h0
theorem evL_elim {c : E} {a b : List E} (h : b.length = a.length) (x : E) : evL (elimR c a b) x = evL a x + c * evL b x := by
  rw [← evL_scale, ← evL_plus]
  exact evL_ser (by rw [ser_plusL, ser_scaleL]; exact funext fun i => ser_elimR h i) x
theorem one_ev {pts : List E} (hn : pts.Nodup) {j : Nat} (hj : j < pts.length) :
    evL (oneL (vanishL pts) pts[j] pts.length) pts[j] ≠ 0 ∧ ∀ i (hi : i < pts.length), i ≠ j → evL (oneL (vanishL pts) pts[j] pts.length) pts[i] = 0 := by
  have hl := vanish_length pts
  have h0 : evL (vanishL pts) pts[j] = 0 := (vanish_ev _ _).2 (List.getElem_mem hj)
  have hs := oneL_split hl h0
  have hoth : ∀ i (hi : i < pts.length), i ≠ j → evL (oneL (vanishL pts) pts[j] pts.length) pts[i] = 0 := fun i hi hne => by
    have h1 : evL (vanishL pts) pts[i] = 0 := (vanish_ev _ _).2 (List.getElem_mem hi)
    rw [evL_mulS hs] at h1
    rcases E.mul_eq_zero.1 h1 with h2 | h2
    · exact absurd ((List.getElem_inj hn).1 (E.add_eq_zero.1 h2)) (fun e => hne e.symm)
    · exact h2
  refine ⟨fun hz => ?_, hoth⟩
  have hz2 := few_roots pts.length (oneL (vanishL pts) pts[j] pts.length) pts (by have := dlt_ser (oneL (vanishL pts) pts[j] pts.length); rwa [oneL_length] at this) hn (Nat.le_refl _) fun x hx => by
    obtain ⟨i, hi, rfl⟩ := List.getElem_of_mem hx
    by_cases e : i = j
    · subst e; exact hz
    · exact hoth i hi e
  rw [hz2, S.mul_zero] at hs
  have := dg_eq_zero.2 hs
  rw [vanish_dg] at this
  omega

/-! ### Linear equations -/
theorem sumN_split (a b : Nat) (f : Nat → E) : sumN (a + b) f = sumN a f + sumN b (fun j => f (a + j)) := by
  induction b with
  | zero => exact (E.add_zero _).symm
  | succ b ih => rw [← Nat.add_assoc, sumN, ih, sumN, E.add_assoc]
theorem ev_last (x : E) : ∀ (n : Nat) (f : S), S.ev (n + 1) f x = S.ev n f x + f n * E.pow x n
  | 0, f => by
    show f 0 + x * 0 = 0 + f 0 * 1
    rw [E.mul_zero, E.add_zero, E.zero_add, E.mul_one]
  | n + 1, f => by
    show f 0 + x * S.ev (n + 1) (S.tail f) x = (f 0 + x * S.ev n (S.tail f) x) + f (n + 1) * E.pow x (n + 1)
    rw [ev_last x n (S.tail f), E.mul_add, E.add_assoc]
    congr 2
    show x * (f (n + 1) * E.pow x n) = _
    rw [E.pow_succ, E.mul_comm (E.pow x n) x, E.mul_left_comm]
theorem sum_ev (x : E) (f : S) (n : Nat) : sumN n (fun j => E.pow x j * f j) = S.ev n f x := by
  induction n with
  | zero => rfl
  | succ n ih => rw [sumN, ih, ev_last, E.mul_comm (E.pow x n)]
/-- A row of the equations. -/
def bwRow (e k : Nat) (x y : E) : List E := (List.range (e + 1)).map (fun j => y * E.pow x j) ++ (List.range (k + e)).map (fun j => E.pow x j)
theorem bwRow_length (e k : Nat) (x y : E) : (bwRow e k x y).length = e + 1 + k + e := by simp [bwRow]; omega
theorem bwRow_left (e k : Nat) (x y : E) {j : Nat} (h : j < e + 1) : ser (bwRow e k x y) j = y * E.pow x j := by
  rw [bwRow, ser_append_left _ _ _ (by simpa using h), ser_at _ _ (by simpa using h)]; simp
theorem bwRow_right (e k : Nat) (x y : E) {j : Nat} (h : j < k + e) : ser (bwRow e k x y) (e + 1 + j) = E.pow x j := by
  rw [bwRow, ser_append_right _ _ _ (by simp), ser_at _ _ (by simpa using h)]; simp
theorem bw_dot (e k : Nat) (x y : E) (s : S) : dotN (e + 1 + k + e) (ser (bwRow e k x y)) s = y * S.ev (e + 1) s x + S.ev (k + e) (fun j => s (e + 1 + j)) x := by
  rw [show e + 1 + k + e = (e + 1) + (k + e) by omega, dotN, sumN_split, ← sum_ev, ← sum_ev, ← sumN_smul]
  congr 1
  · exact sumN_congr fun j hj => by rw [bwRow_left e k x y hj, E.mul_assoc]
  · exact sumN_congr fun j hj => by rw [bwRow_right e k x y hj]
section
variable {e k : Nat} {xs ys q : List E}
/-- Where one is near there is a solution that is not all zero. -/
theorem bw_some (hl : ys.length = xs.length) (he : e = (xs.length - k) / 2) (hk1 : 1 ≤ k) (hq : NearOK k xs ys q) :
    ∃ s : Nat → E, Solves xs.length (e + 1 + k + e) (fun i => ser (bwRow e k (xs.getD i 0) (ys.getD i 0))) s ∧ ∃ i, i < e + 1 + k + e ∧ s i ≠ 0 := by
  let Q := vanishL (wrongs q xs ys)
  let P := timesL Q q
  have hfew := hq.few
  have hQ : dg Q = (wrongs q xs ys).length + 1 := vanish_dg _
  have hQd : S.Dlt (ser Q) (e + 1) := (dg_dlt Q).mono (by omega)
  have hPd : S.Dlt (ser P) (k + e) := by
    show S.Dlt (ser (timesL Q q)) (k + e)
    rw [ser_timesL]
    have a1 := hQd.mulN (show S.Dlt (ser q) ((k - 1) + 1) by rw [Nat.sub_add_cancel hk1]; exact (dg_dlt q).mono hq.len)
    exact a1.mono (by omega)
  refine ⟨fun i => if i < e + 1 then ser Q i else ser P (i - (e + 1)), fun i hi => ?_, ?_⟩
  · rw [bw_dot]
    have h1 : S.ev (e + 1) (fun i => if i < e + 1 then ser Q i else ser P (i - (e + 1))) (xs.getD i 0) = evL Q (xs.getD i 0) := by
      rw [← sum_ev]
      have : evL Q (xs.getD i 0) = S.ev (e + 1) (ser Q) (xs.getD i 0) := evL_of rfl hQd _
      rw [this, ← sum_ev]
      exact sumN_congr fun j hj => by rw [if_pos hj]
    have h2 : S.ev (k + e) (fun j => (fun i => if i < e + 1 then ser Q i else ser P (i - (e + 1))) (e + 1 + j)) (xs.getD i 0) = evL P (xs.getD i 0) := by
      rw [← sum_ev]
      have : evL P (xs.getD i 0) = S.ev (k + e) (ser P) (xs.getD i 0) := evL_of rfl hPd _
      rw [this, ← sum_ev]
      exact sumN_congr fun j hj => by
        dsimp only
        rw [if_neg (by omega), Nat.add_sub_cancel_left]
    rw [h1, h2]
    show _ + evL (timesL Q q) _ = 0
    rw [evL_times]
    have hgx : xs.getD i 0 = xs[i] := by rw [List.getD_eq_getElem?_getD, List.getElem?_eq_getElem hi]; rfl
    have hgy : ys.getD i 0 = ys[i]'(by omega) := by rw [List.getD_eq_getElem?_getD, List.getElem?_eq_getElem (by omega)]; rfl
    rw [hgx, hgy]
    by_cases hw : xs[i] ∈ wrongs q xs ys
    · rw [(vanish_ev _ _).2 hw, E.mul_zero, E.zero_mul, E.add_zero]
    · rw [right_of hl hi hw, E.mul_comm, E.add_self]
  · have h0 := dg_last Q (by omega)
    refine ⟨dg Q - 1, by omega, ?_⟩
    dsimp only
    rw [if_pos (by omega)]; exact h0
/-- Where one is near, each solution's parts divide to it. -/
theorem bw_full (hn : xs.Nodup) (hl : ys.length = xs.length) (he : e = (xs.length - k) / 2) (hk1 : 1 ≤ k) (hq : NearOK k xs ys q) {s : List E} (hs : s.length = e + 1 + k + e) (hne : ∃ i, i < e + 1 + k + e ∧ ser s i ≠ 0)
    (hsol : Solves xs.length (e + 1 + k + e) (fun i => ser (bwRow e k (xs.getD i 0) (ys.getD i 0))) (ser s)) : 0 < dg (s.take (e + 1)) ∧ DivOK (s.drop (e + 1)) (s.take (e + 1)) (Gf.trim q) [] := by
  have hfew := hq.few
  have hkN : k ≤ xs.length := by omega
  let Q := s.take (e + 1)
  let P := s.drop (e + 1)
  have hQl : Q.length = e + 1 := by show (s.take (e + 1)).length = _; rw [List.length_take]; omega
  have hPl : P.length = k + e := by show (s.drop (e + 1)).length = _; rw [List.length_drop]; omega
  have hser : ∀ j, ser s (e + 1 + j) = ser P j := fun j => by
    have := ser_append_right (s.take (e + 1)) (s.drop (e + 1)) (e + 1 + j) (by rw [hQl]; omega)
    rw [List.take_append_drop, hQl, Nat.add_sub_cancel_left] at this
    exact this
  have hserQ : ∀ j, j < e + 1 → ser s j = ser Q j := fun j hj => by
    have := ser_append_left (s.take (e + 1)) (s.drop (e + 1)) j (by rw [hQl]; exact hj)
    rw [List.take_append_drop] at this
    exact this
  have hkey : ∀ i (hi : i < xs.length), evL P xs[i] = ys[i]'(by omega) * evL Q xs[i] := fun i hi => by
    have h1 := hsol i hi
    rw [bw_dot] at h1
    have hgx : xs.getD i 0 = xs[i] := by rw [List.getD_eq_getElem?_getD, List.getElem?_eq_getElem hi]; rfl
    have hgy : ys.getD i 0 = ys[i]'(by omega) := by rw [List.getD_eq_getElem?_getD, List.getElem?_eq_getElem (by omega)]; rfl
    rw [hgx, hgy] at h1
    have e1 : S.ev (e + 1) (ser s) xs[i] = evL Q xs[i] := by
      show _ = S.ev Q.length (ser Q) xs[i]
      rw [hQl, ← sum_ev, ← sum_ev]
      exact sumN_congr fun j hj => by rw [hserQ j hj]
    have e2 : S.ev (k + e) (fun j => ser s (e + 1 + j)) xs[i] = evL P xs[i] := by
      show _ = S.ev P.length (ser P) xs[i]
      rw [hPl, ← sum_ev, ← sum_ev]
      exact sumN_congr fun j hj => by rw [hser]
    rw [e1, e2] at h1
    exact (E.add_eq_zero.1 h1).symm
  have hF : ser (plusL P (timesL Q q)) = S.zero := by
    refine few_roots (k + e) _ (rights q xs ys) ?_ (zip_nodup hn hl _) ?_ ?_
    · rw [ser_plusL, ser_timesL]
      refine S.Dlt.add ?_ ?_
      · have := dlt_ser P; rwa [hPl] at this
      · have h1 : S.Dlt (ser Q) (e + 1) := by have := dlt_ser Q; rwa [hQl] at this
        exact (h1.mulN (show S.Dlt (ser q) ((k - 1) + 1) by rw [Nat.sub_add_cancel hk1]; exact (dg_dlt q).mono hq.len)).mono (by omega)
    · have := wrongs_rights (p := q) hl
      omega
    · intro x hx
      obtain ⟨z, hz, rfl⟩ := List.mem_map.1 hx
      obtain ⟨hz1, hz2⟩ := List.mem_filter.1 hz
      obtain ⟨i, hi, ez⟩ := List.getElem_of_mem hz1
      rw [List.length_zip, hl, Nat.min_self] at hi
      rw [List.getElem_zip] at ez
      have e1 : z.1 = xs[i] := by rw [← ez]
      have e2 : z.2 = ys[i]'(by omega) := by rw [← ez]
      simp only [decide_eq_true_eq] at hz2
      rw [evL_plus, evL_times, e1, hkey i hi]
      rw [e1, e2] at hz2
      rw [hz2, E.mul_comm, E.add_self]
  have hPQ : ser P = S.mul (ser Q) (ser q) := by
    rw [ser_plusL, ser_timesL] at hF
    exact S.add_eq_zero hF
  have hQ0 : 0 < dg Q := by
    rcases Nat.eq_zero_or_pos (dg Q) with h0 | h0
    · exfalso
      have hz := dg_eq_zero.1 h0
      obtain ⟨i, hi, hi2⟩ := hne
      rcases Nat.lt_or_ge i (e + 1) with h1 | h1
      · rw [hserQ i h1, hz] at hi2; exact hi2 rfl
      · obtain ⟨j, rfl⟩ := Nat.exists_eq_add_of_le h1
        rw [hser, hPQ, hz, S.zero_mul] at hi2; exact hi2 rfl
    · exact h0
  refine ⟨hQ0, trimmed_trim _, trimmed_nil, ?_, hQ0⟩
  rw [ser_nil, S.zero_add, ser_trim, S.mul_comm]
  exact hPQ.symm
end
theorem mixL_back {new old : List E} (h : new.length = old.length) {i : Nat} (hi : i < old.length) : (mixL new old (i + 1)).set i old[i] = mixL new old i := by
  have hl : (new.take i).length = i := by rw [List.length_take]; omega
  rw [mixL, mixL, take_snoc' new i (by omega), List.append_assoc, List.set_append_right _ _ (by omega), hl, Nat.sub_self]
  rw [show old.drop i = old[i] :: old.drop (i + 1) from List.drop_eq_getElem_cons hi]
  rfl
end Go.Proofs.Ytemnlcfabaocbaa
