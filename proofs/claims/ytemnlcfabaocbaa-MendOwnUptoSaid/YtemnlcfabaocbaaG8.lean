/-
  Texts of mine, merged: BW Thr5 Near5 Near6.
-/
import Derived.Test.YtemnlcfabaocbaaG2
import Derived.Test.YtemnlcfabaocbaaG4
import Derived.Test.YtemnlcfabaocbaaG5
import Derived.Test.YtemnlcfabaocbaaG6
import Derived.Test.YtemnlcfabaocbaaG7
/-
  Plain: the polynomial through points by Lagrange's sum; the code word that is near by linear equations.
-/
namespace Go.Proofs.Ytemnlcfabaocbaa
open Go.RowKit Gf
set_option linter.unusedVariables false

/-! ### Lagrange -/
/-- The series behind i steps of the product with x + a. -/
def linT (l : List E) (a : E) (i k : Nat) : S := fun t => (if t < i then ser l t * a else 0) + (if 0 < t ∧ t ≤ k then ser l (t - 1) else 0)
theorem linT_zero (l : List E) (a : E) : linT l a 0 0 = S.zero := funext fun t => by
  simp only [linT]
  rw [if_neg (by omega), if_neg (by omega), E.add_zero]; rfl
theorem linT_all (l : List E) (a : E) : linT l a l.length l.length = ser (timesL l [a, 1]) := funext fun t => by
  rw [ser_timesL, S.mul_comm, lin_mul]
  simp only [linT, S.add, S.smul]
  congr 1
  · by_cases h : t < l.length
    · rw [if_pos h, E.mul_comm]
    · rw [if_neg h, ser_out _ _ (by omega), E.mul_zero]
  · cases t with
    | zero => rw [if_neg (by omega)]; rfl
    | succ t =>
      show _ = ser l t
      by_cases h : t + 1 ≤ l.length
      · rw [if_pos ⟨by omega, h⟩, Nat.add_sub_cancel]
      · rw [if_neg (by omega), ser_out _ _ (by omega)]
theorem linT_one (l : List E) (a : E) (i : Nat) : (fun t => if t = i then linT l a i i i + ser l i * a else linT l a i i t) = linT l a (i + 1) i := funext fun t => by
  simp only [linT]
  by_cases h : t = i
  · subst h
    rw [if_pos rfl, if_neg (Nat.lt_irrefl _), if_pos (Nat.lt_succ_self _), E.zero_add, E.add_comm]
  · rw [if_neg h]
    congr 1
    by_cases h2 : t < i
    · rw [if_pos h2, if_pos (by omega)]
    · rw [if_neg h2, if_neg (by omega)]
theorem linT_two (l : List E) (a : E) (i : Nat) : (fun t => if t = i + 1 then linT l a (i + 1) i (i + 1) + ser l i else linT l a (i + 1) i t) = linT l a (i + 1) (i + 1) := funext fun t => by
  simp only [linT]
  by_cases h : t = i + 1
  · subst h
    rw [if_pos rfl, if_neg (Nat.lt_irrefl _), if_neg (by omega), if_pos (by omega), E.zero_add, E.zero_add, Nat.add_sub_cancel, E.zero_add]
  · rw [if_neg h]
    congr 1
    by_cases h2 : 0 < t ∧ t ≤ i
    · rw [if_pos h2, if_pos (by omega)]
    · rw [if_neg h2, if_neg (by omega)]
/-- The product without one point: synthetic division. -/
def oneL (l : List E) (a : E) (n : Nat) : List E := (List.range n).map fun i => evL (l.drop (i + 1)) a
theorem oneL_length (l : List E) (a : E) (n : Nat) : (oneL l a n).length = n := by simp [oneL]
theorem oneL_get (l : List E) (a : E) (n i : Nat) (h : i < (oneL l a n).length) : (oneL l a n)[i] = evL (l.drop (i + 1)) a := by simp [oneL]
theorem ser_syn (a : E) : ∀ (l : List E) (i : Nat), ser (syn a l) i = evL (l.drop (i + 1)) a
  | [], i => by simp [syn, ser_nil, evL_nil, S.zero]
  | b :: l, 0 => rfl
  | b :: l, i + 1 => by
    show ser (syn a l) i = _
    rw [ser_syn a l i]; rfl
theorem ser_oneL {l : List E} {a : E} {n : Nat} (h : l.length = n + 1) : ser (oneL l a n) = ser (syn a l) := funext fun i => by
  rw [ser_syn]
  by_cases hi : i < n
  · rw [ser_at _ _ (by rw [oneL_length]; exact hi), oneL_get]
  · rw [ser_out _ _ (by rw [oneL_length]; omega), List.drop_eq_nil_of_le (by omega), evL_nil]
theorem oneL_split {l : List E} {a : E} {n : Nat} (h : l.length = n + 1) (h0 : evL l a = 0) : ser l = S.mul (ser [a, 1]) (ser (oneL l a n)) := by
  rw [ser_oneL h]; exact root_split h0
theorem evL_elim {c : E} {a b : List E} (h : b.length = a.length) (x : E) : evL (elimR c a b) x = evL a x + c * evL b x := by
  rw [← evL_scale, ← evL_plus]
  exact evL_ser (by rw [ser_plusL, ser_scaleL]; exact funext fun i => ser_elimR h i) x
theorem one_ev {pts : List E} (hn : pts.Nodup) {j : Nat} (hj : j < pts.length) :
    evL (oneL (vanishL pts) pts[j] pts.length) pts[j] ≠ 0 ∧ ∀ i (hi : i < pts.length), i ≠ j → evL (oneL (vanishL pts) pts[j] pts.length) pts[i] = 0 := by
  have hl := vanish_length pts
  have h0 : evL (vanishL pts) pts[j] = 0 := (vanish_ev _ _).2 (List.getElem_mem hj)
  have hs := oneL_split hl h0
  have hoth : ∀ i (hi : i < pts.length), i ≠ j → evL (oneL (vanishL pts) pts[j] pts.length) pts[i] = 0 := fun i hi hne => by
    have h1 : evL (vanishL pts) pts[i] = 0 := (vanish_ev _ _).2 (List.getElem_mem hi)
    rw [evL_mulS hs] at h1
    rcases E.mul_eq_zero.1 h1 with h2 | h2
    · exact absurd ((List.getElem_inj hn).1 (E.add_eq_zero.1 h2)) (fun e => hne e.symm)
    · exact h2
  refine ⟨fun hz => ?_, hoth⟩
  have hz2 := few_roots pts.length (oneL (vanishL pts) pts[j] pts.length) pts (by have := dlt_ser (oneL (vanishL pts) pts[j] pts.length); rwa [oneL_length] at this) hn (Nat.le_refl _) fun x hx => by
    obtain ⟨i, hi, rfl⟩ := List.getElem_of_mem hx
    by_cases e : i = j
    · subst e; exact hz
    · exact hoth i hi e
  rw [hz2, S.mul_zero] at hs
  have := dg_eq_zero.2 hs
  rw [vanish_dg] at this
  omega

/-! ### Linear equations -/
theorem sumN_split (a b : Nat) (f : Nat → E) : sumN (a + b) f = sumN a f + sumN b (fun j => f (a + j)) := by
  induction b with
  | zero => exact (E.add_zero _).symm
  | succ b ih => rw [← Nat.add_assoc, sumN, ih, sumN, E.add_assoc]
theorem ev_last (x : E) : ∀ (n : Nat) (f : S), S.ev (n + 1) f x = S.ev n f x + f n * E.pow x n
  | 0, f => by
    show f 0 + x * 0 = 0 + f 0 * 1
    rw [E.mul_zero, E.add_zero, E.zero_add, E.mul_one]
  | n + 1, f => by
    show f 0 + x * S.ev (n + 1) (S.tail f) x = (f 0 + x * S.ev n (S.tail f) x) + f (n + 1) * E.pow x (n + 1)
    rw [ev_last x n (S.tail f), E.mul_add, E.add_assoc]
    congr 2
    show x * (f (n + 1) * E.pow x n) = _
    rw [E.pow_succ, E.mul_comm (E.pow x n) x, E.mul_left_comm]
theorem sum_ev (x : E) (f : S) (n : Nat) : sumN n (fun j => E.pow x j * f j) = S.ev n f x := by
  induction n with
  | zero => rfl
  | succ n ih => rw [sumN, ih, ev_last, E.mul_comm (E.pow x n)]
/-- A row of the equations. -/
def bwRow (e k : Nat) (x y : E) : List E := (List.range (e + 1)).map (fun j => y * E.pow x j) ++ (List.range (k + e)).map (fun j => E.pow x j)
theorem bwRow_length (e k : Nat) (x y : E) : (bwRow e k x y).length = e + 1 + k + e := by simp [bwRow]; omega
theorem bwRow_left (e k : Nat) (x y : E) {j : Nat} (h : j < e + 1) : ser (bwRow e k x y) j = y * E.pow x j := by
  rw [bwRow, ser_append_left _ _ _ (by simpa using h), ser_at _ _ (by simpa using h)]; simp
theorem bwRow_right (e k : Nat) (x y : E) {j : Nat} (h : j < k + e) : ser (bwRow e k x y) (e + 1 + j) = E.pow x j := by
  rw [bwRow, ser_append_right _ _ _ (by simp), ser_at _ _ (by simpa using h)]; simp
theorem bw_dot (e k : Nat) (x y : E) (s : S) : dotN (e + 1 + k + e) (ser (bwRow e k x y)) s = y * S.ev (e + 1) s x + S.ev (k + e) (fun j => s (e + 1 + j)) x := by
  rw [show e + 1 + k + e = (e + 1) + (k + e) by omega, dotN, sumN_split, ← sum_ev, ← sum_ev, ← sumN_smul]
  congr 1
  · exact sumN_congr fun j hj => by rw [bwRow_left e k x y hj, E.mul_assoc]
  · exact sumN_congr fun j hj => by rw [bwRow_right e k x y hj]
section
variable {e k : Nat} {xs ys q : List E}
/-- Where one is near there is a solution that is not all zero. -/
theorem bw_some (hl : ys.length = xs.length) (he : e = (xs.length - k) / 2) (hk1 : 1 ≤ k) (hq : NearOK k xs ys q) :
    ∃ s : Nat → E, Solves xs.length (e + 1 + k + e) (fun i => ser (bwRow e k (xs.getD i 0) (ys.getD i 0))) s ∧ ∃ i, i < e + 1 + k + e ∧ s i ≠ 0 := by
  let Q := vanishL (wrongs q xs ys)
  let P := timesL Q q
  have hfew := hq.few
  have hQ : dg Q = (wrongs q xs ys).length + 1 := vanish_dg _
  have hQd : S.Dlt (ser Q) (e + 1) := (dg_dlt Q).mono (by omega)
  have hPd : S.Dlt (ser P) (k + e) := by
    show S.Dlt (ser (timesL Q q)) (k + e)
    rw [ser_timesL]
    have a1 := hQd.mulN (show S.Dlt (ser q) ((k - 1) + 1) by rw [Nat.sub_add_cancel hk1]; exact (dg_dlt q).mono hq.len)
    exact a1.mono (by omega)
  refine ⟨fun i => if i < e + 1 then ser Q i else ser P (i - (e + 1)), fun i hi => ?_, ?_⟩
  · rw [bw_dot]
    have h1 : S.ev (e + 1) (fun i => if i < e + 1 then ser Q i else ser P (i - (e + 1))) (xs.getD i 0) = evL Q (xs.getD i 0) := by
      rw [← sum_ev]
      have : evL Q (xs.getD i 0) = S.ev (e + 1) (ser Q) (xs.getD i 0) := evL_of rfl hQd _
      rw [this, ← sum_ev]
      exact sumN_congr fun j hj => by rw [if_pos hj]
    have h2 : S.ev (k + e) (fun j => (fun i => if i < e + 1 then ser Q i else ser P (i - (e + 1))) (e + 1 + j)) (xs.getD i 0) = evL P (xs.getD i 0) := by
      rw [← sum_ev]
      have : evL P (xs.getD i 0) = S.ev (k + e) (ser P) (xs.getD i 0) := evL_of rfl hPd _
      rw [this, ← sum_ev]
      exact sumN_congr fun j hj => by
        dsimp only
        rw [if_neg (by omega), Nat.add_sub_cancel_left]
    rw [h1, h2]
    show _ + evL (timesL Q q) _ = 0
    rw [evL_times]
    have hgx : xs.getD i 0 = xs[i] := by rw [List.getD_eq_getElem?_getD, List.getElem?_eq_getElem hi]; rfl
    have hgy : ys.getD i 0 = ys[i]'(by omega) := by rw [List.getD_eq_getElem?_getD, List.getElem?_eq_getElem (by omega)]; rfl
    rw [hgx, hgy]
    by_cases hw : xs[i] ∈ wrongs q xs ys
    · rw [(vanish_ev _ _).2 hw, E.mul_zero, E.zero_mul, E.add_zero]
    · rw [right_of hl hi hw, E.mul_comm, E.add_self]
  · have h0 := dg_last Q (by omega)
    refine ⟨dg Q - 1, by omega, ?_⟩
    dsimp only
    rw [if_pos (by omega)]; exact h0
/-- Where one is near, each solution's parts divide to it. -/
theorem bw_full (hn : xs.Nodup) (hl : ys.length = xs.length) (he : e = (xs.length - k) / 2) (hk1 : 1 ≤ k) (hq : NearOK k xs ys q) {s : List E} (hs : s.length = e + 1 + k + e) (hne : ∃ i, i < e + 1 + k + e ∧ ser s i ≠ 0)
    (hsol : Solves xs.length (e + 1 + k + e) (fun i => ser (bwRow e k (xs.getD i 0) (ys.getD i 0))) (ser s)) : 0 < dg (s.take (e + 1)) ∧ DivOK (s.drop (e + 1)) (s.take (e + 1)) (Gf.trim q) [] := by
  have hfew := hq.few
  have hkN : k ≤ xs.length := by omega
  let Q := s.take (e + 1)
  let P := s.drop (e + 1)
  have hQl : Q.length = e + 1 := by show (s.take (e + 1)).length = _; rw [List.length_take]; omega
  have hPl : P.length = k + e := by show (s.drop (e + 1)).length = _; rw [List.length_drop]; omega
  have hser : ∀ j, ser s (e + 1 + j) = ser P j := fun j => by
    have := ser_append_right (s.take (e + 1)) (s.drop (e + 1)) (e + 1 + j) (by rw [hQl]; omega)
    rw [List.take_append_drop, hQl, Nat.add_sub_cancel_left] at this
    exact this
  have hserQ : ∀ j, j < e + 1 → ser s j = ser Q j := fun j hj => by
    have := ser_append_left (s.take (e + 1)) (s.drop (e + 1)) j (by rw [hQl]; exact hj)
    rw [List.take_append_drop] at this
    exact this
  have hkey : ∀ i (hi : i < xs.length), evL P xs[i] = ys[i]'(by omega) * evL Q xs[i] := fun i hi => by
    have h1 := hsol i hi
    rw [bw_dot] at h1
    have hgx : xs.getD i 0 = xs[i] := by rw [List.getD_eq_getElem?_getD, List.getElem?_eq_getElem hi]; rfl
    have hgy : ys.getD i 0 = ys[i]'(by omega) := by rw [List.getD_eq_getElem?_getD, List.getElem?_eq_getElem (by omega)]; rfl
    rw [hgx, hgy] at h1
    have e1 : S.ev (e + 1) (ser s) xs[i] = evL Q xs[i] := by
      show _ = S.ev Q.length (ser Q) xs[i]
      rw [hQl, ← sum_ev, ← sum_ev]
      exact sumN_congr fun j hj => by rw [hserQ j hj]
    have e2 : S.ev (k + e) (fun j => ser s (e + 1 + j)) xs[i] = evL P xs[i] := by
      show _ = S.ev P.length (ser P) xs[i]
      rw [hPl, ← sum_ev, ← sum_ev]
      exact sumN_congr fun j hj => by rw [hser]
    rw [e1, e2] at h1
    exact (E.add_eq_zero.1 h1).symm
  have hF : ser (plusL P (timesL Q q)) = S.zero := by
    refine few_roots (k + e) _ (rights q xs ys) ?_ (zip_nodup hn hl _) ?_ ?_
    · rw [ser_plusL, ser_timesL]
      refine S.Dlt.add ?_ ?_
      · have := dlt_ser P; rwa [hPl] at this
      · have h1 : S.Dlt (ser Q) (e + 1) := by have := dlt_ser Q; rwa [hQl] at this
        exact (h1.mulN (show S.Dlt (ser q) ((k - 1) + 1) by rw [Nat.sub_add_cancel hk1]; exact (dg_dlt q).mono hq.len)).mono (by omega)
    · have := wrongs_rights (p := q) hl
      omega
    · intro x hx
      obtain ⟨z, hz, rfl⟩ := List.mem_map.1 hx
      obtain ⟨hz1, hz2⟩ := List.mem_filter.1 hz
      obtain ⟨i, hi, ez⟩ := List.getElem_of_mem hz1
      rw [List.length_zip, hl, Nat.min_self] at hi
      rw [List.getElem_zip] at ez
      have e1 : z.1 = xs[i] := by rw [← ez]
      have e2 : z.2 = ys[i]'(by omega) := by rw [← ez]
      simp only [decide_eq_true_eq] at hz2
      rw [evL_plus, evL_times, e1, hkey i hi]
      rw [e1, e2] at hz2
      rw [hz2, E.mul_comm, E.add_self]
  have hPQ : ser P = S.mul (ser Q) (ser q) := by
    rw [ser_plusL, ser_timesL] at hF
    exact S.add_eq_zero hF
  have hQ0 : 0 < dg Q := by
    rcases Nat.eq_zero_or_pos (dg Q) with h0 | h0
    · exfalso
      have hz := dg_eq_zero.1 h0
      obtain ⟨i, hi, hi2⟩ := hne
      rcases Nat.lt_or_ge i (e + 1) with h1 | h1
      · rw [hserQ i h1, hz] at hi2; exact hi2 rfl
      · obtain ⟨j, rfl⟩ := Nat.exists_eq_add_of_le h1
        rw [hser, hPQ, hz, S.zero_mul] at hi2; exact hi2 rfl
    · exact h0
  refine ⟨hQ0, trimmed_trim _, trimmed_nil, ?_, hQ0⟩
  rw [ser_nil, S.zero_add, ser_trim, S.mul_comm]
  exact hPQ.symm
end
theorem mixL_back {new old : List E} (h : new.length = old.length) {i : Nat} (hi : i < old.length) : (mixL new old (i + 1)).set i old[i] = mixL new old i := by
  have hl : (new.take i).length = i := by rw [List.length_take]; omega
  rw [mixL, mixL, take_snoc' new i (by omega), List.append_assoc, List.set_append_right _ _ (by omega), hl, Nat.sub_self]
  rw [show old.drop i = old[i] :: old.drop (i + 1) from List.drop_eq_getElem_cons hi]
  rfl
end Go.Proofs.Ytemnlcfabaocbaa
/-
  The walks of the document's answer for chapter 5: the polynomial through points; whether all lie on it.
-/
namespace Go.Proofs.Ytemnlcfabaocbaa
open Go.RowKit Gf
set_option maxRecDepth 20000
set_option linter.unusedVariables false

theorem make_one (L : Nat) (h : L ≤ 1000000) (w : World) : (Instr.makeSlice 24 (.int .i64 ((L : Int) + 1)) (.int .i64 ((L : Int) + 1))).run Try.prog w = .ok (.slice (some ⟨w.heap.size, 0, none⟩) (L + 1) (L + 1)) (w.alloc (.cells (zrow (.int .u8 0) (L + 1)) 5)) := by
  have := make_bytes (L + 1) (by omega) w
  rwa [Int.natCast_add] at this
theorem own_zeros (w : World) (n : Nat) (h : n ≤ 1000000) : Own (w.alloc (.cells (zrow (.int .u8 0) n) 5)) w.heap.size 5 (.slice (some ⟨w.heap.size, 0, none⟩) n n) (bs (ofS n S.zero)) := by
  have h1 := (Blk.new w 5 (zrow (.int .u8 0) n)).own (B := w.heap.size) (n := n) (cap := n) (Nat.le_refl _) (Nat.le_refl _) (by simp only [maxLen]; omega) (zrow_size _ _)
  rw [zeros_ofS, List.toList_toArray, List.take_of_length_le (by rw [bs_ofS_len]; exact Nat.le_refl _)] at h1
  rw [zeros_ofS]; exact h1
theorem zero_list (n : Nat) : ofS n S.zero = List.replicate n 0 := by
  apply List.ext_getElem
  · simp [ofS_length]
  · intro i h1 h2; rw [ofS_getElem]; simp [S.zero]
theorem evL_zeros (n : Nat) (x : E) : evL (ofS n S.zero) x = 0 := by
  rw [evL_of (ser_ofS (S.dlt_zero n)) (S.dlt_zero n) x]; exact S.ev_zero n x
/-- The sum so far goes through the first j values. -/
def LagOK (pts vals S : List E) (n j : Nat) : Prop := S.length = n ∧ ∀ i, i < n → evL S (pts.getD i 0) = if i < j then vals.getD i 0 else 0
theorem lag_step {pts vals S : List E} {n j : Nat} (hn : pts.length = n) (hm : vals.length = n) (hnd : pts.Nodup) (hj : j < n) (h : LagOK pts vals S n j) :
    LagOK pts vals (elimR (vals.getD j 0 * E.inv (evL (oneL (vanishL pts) (pts.getD j 0) n) (pts.getD j 0))) S (oneL (vanishL pts) (pts.getD j 0) n)) n (j + 1) := by
  subst hn
  have hjp : j < pts.length := by omega
  have hg : ∀ i (hi : i < pts.length), pts.getD i 0 = pts[i] := fun i hi => by rw [List.getD_eq_getElem?_getD, List.getElem?_eq_getElem hi]; rfl
  obtain ⟨h1, h2⟩ := one_ev hnd hjp
  have hl : (oneL (vanishL pts) (pts.getD j 0) pts.length).length = S.length := by rw [oneL_length, h.1]
  refine ⟨by rw [elimR_length hl, h.1], fun i hi => ?_⟩
  rw [evL_elim hl, h.2 i hi]
  by_cases e : i = j
  · subst e
    rw [if_neg (Nat.lt_irrefl _), if_pos (Nat.lt_succ_self _), E.zero_add, hg _ hjp, E.mul_assoc, E.inv_mul h1, E.mul_one]
  · rw [hg i (by omega), hg j hjp, h2 i (by omega) e, E.mul_zero, E.add_zero]
    by_cases h3 : i < j
    · rw [if_pos h3, if_pos (by omega)]
    · rw [if_neg h3, if_neg (by omega)]
set_option maxHeartbeats 8000000 in
theorem through5_n (gt ct : Nat) (A C : Option Addr) (n ca cc : Nat) (pts vals : List E) (w : World) (ht : Tab w gt) (hn : pts.length = n) (hm : vals.length = n) (hr : Rd w A (bs pts)) (hs : Rd w C (bs vals)) (hnd : pts.Nodup) (hlen : n ≤ 300) :
    Calls Try.prog 127 #[.slice (some ⟨gt, 0, none⟩) 256 ct, .slice A n ca, .slice C n cc] w fun e w' => ∃ v s, e = .returned v ∧ Own w' w.heap.size 5 v (bs s) ∧ s.length = n ∧ (∀ i, i < n → evL s (pts.getD i 0) = vals.getD i 0) ∧ Ext w w' := by
  have hmo : Try.prog.follows Departure.mixedOrders = true := by kernel_rfl
  have hwd : Fence.wide.depth = none := rfl
  have hwf : ∀ f, Fence.wide.fn f := fun _ => trivial
  have HN := Lib.hid hn
  have HM := Lib.hid hm
  have HT := Lib.hid ht
  have HR := Lib.hid hr
  have HS := Lib.hid hs
  have HND := Lib.hid hnd
  have hmkn := make_bytes n (by omega)
  have H0 : Hid (Own (w.alloc (.cells #[.int .u8 1] 5)) w.heap.size 5 (.slice (some ⟨w.heap.size, 0, none⟩) 1 1) (bs (vanishL (pts.take 0)))) := Lib.hid (own_lit w 5 [1] (by simp))
  clear hn hm ht hr hs hnd
  go_enter Try.func127, Try.ntmps127
  go_wp2_with fail
  go_loopw [7, 8] (fun v i wr => ∃ (j : Nat) (V : Value), V = v ∧ j ≤ n ∧ i = .int .i64 j ∧ Ext w wr ∧ Own wr w.heap.size 5 V (bs (vanishL (pts.take j)))) (fun _ i _ => n - (intOf i).toNat)
  case atStart => exact ⟨0, _, rfl, by omega, rfl, (Ext.refl w).alloc _, H0.out⟩
  case round =>
    obtain ⟨W1, rfl⟩ : ∃ W, W = wr := ⟨_, rfl⟩
    obtain ⟨j, V, rfl, hj, rfl, hx, ho⟩ := hrel
    clear H0
    by_cases hlt : j < n
    · have hjp : j < pts.length := by rw [HN.out]; exact hlt
      obtain ⟨all, hall⟩ : ∃ l, l = vanishL (pts.take j) := ⟨_, rfl⟩
      obtain ⟨L, hL⟩ : ∃ L, all.length = L := ⟨_, rfl⟩
      have hLj : L = j + 1 := by rw [← hL, hall, vanish_length, List.length_take, HN.out]; omega
      rw [← hall] at ho
      obtain ⟨g, c, rfl, hg1, hg2, -, -⟩ := ho.some_ (fun e => by have := congrArg List.length e; rw [bs_length, hL] at this; simp at this; omega)
      rw [bs_length, hL] at ho ⊢
      have hmk := make_one L (by omega)
      have HNEXT : Hid (timesL all [pts[j], 1] = vanishL (pts.take (j + 1))) := Lib.hid (by rw [hall, vanishL_take pts j hjp])
      have HNL : Hid ((vanishL (pts.take (j + 1))).length = L + 1) := Lib.hid (by rw [vanish_length, List.length_take, HN.out]; omega)
      have HO := Lib.hid ho
      have HX := Lib.hid hx
      have HL := Lib.hid hL
      have HZ := Lib.hid (own_zeros W1 (L + 1) (by omega))
      rw [← linT_zero all pts[j]] at HZ
      have hLb : L ≤ 301 := by omega
      clear ho hx hall hL hg1 hg2 hLj
      go_wp2_with fail
      go_loopw [10] (fun i wr => ∃ iN : Nat, iN ≤ L ∧ i = .int .i64 iN ∧ Ext W1 wr ∧ Own wr W1.heap.size 5 (.slice (some ⟨W1.heap.size, 0, none⟩) (L + 1) (L + 1)) (bs (ofS (L + 1) (linT all pts[j] iN iN)))) (fun i _ => L - (intOf i).toNat)
      case atStart => exact ⟨0, by omega, rfl, (Ext.refl W1).alloc _, HZ.out⟩
      case round =>
        obtain ⟨W2, rfl⟩ : ∃ W, W = wr := ⟨_, rfl⟩
        obtain ⟨iN, hi, rfl, hx2, ho2⟩ := hrel
        clear HZ
        by_cases hlt2 : iN < L
        · have hia : iN < all.length := by rw [HL.out]; exact hlt2
          obtain ⟨ad, rfl, ca1⟩ := (HR.out.ext (HX.out.trans hx2)).byte hjp
          have c1 := (HO.out.ext hx2).cell (bs_get all iN hia)
          have c2 := ho2.cell (ofS_getb (L + 1) (linT all pts[j] iN iN) iN (by omega))
          obtain ⟨gi, g1, g2⟩ := (HT.out.ext (HX.out.trans hx2)).at_ all[iN] pts[j]
          have hl1 := (all[iN]).lt
          have hl2 := (pts[j]).lt
          have hl3 := (linT all pts[j] iN iN iN).lt
          have hl4 := (all[iN] * pts[j]).lt
          have hxo := bits_u8_xor (linT all pts[j] iN iN iN) (all[iN] * pts[j])
          have HO2 := Lib.hid ho2
          have HX2 := Lib.hid hx2
          clear ho2 hx2
          go_wp2_with fail
          refine region_store_plain hmo (by kernel_rfl) (by kernel_rfl) (by kernel_rfl) ?_
          dsimp only [muted, mute, List.dropLast]
          repeat (gi_big_quiet_step (fail))
          refine wpQuietIn_nil ?_
          rintro _ ⟨nq, rfl⟩ s hs'
          simp only [List.getLast?_cons_cons, List.getLast?_singleton, Option.some.injEq] at hs'
          subst hs'
          clear ca1 c1 c2 g1 g2 hxo
          obtain ⟨W3, hW3⟩ : ∃ W, W = W2.drewN nq := ⟨_, rfl⟩
          have hx3 : Ext W1 W3 := by rw [hW3]; exact HX2.out.drewN nq
          have ho3 : Own W3 W1.heap.size 5 (.slice (some ⟨W1.heap.size, 0, none⟩) (L + 1) (L + 1)) (bs (ofS (L + 1) (linT all pts[j] iN iN))) := by rw [hW3]; exact HO2.out.drewN nq
          rw [← hW3]
          clear hW3
          have f3 := ho3.frozen iN
          have c3 := ho3.cell (ofS_getb (L + 1) (linT all pts[j] iN iN) iN (by omega))
          have ho4 := ho3.set iN (.int .u8 ((linT all pts[j] iN iN iN + all[iN] * pts[j]).val : Int))
          have hx4 := hx3.new (p := ⟨W1.heap.size, iN, none⟩) (Nat.le_refl _) (.int .u8 ((linT all pts[j] iN iN iN + all[iN] * pts[j]).val : Int))
          have hup : upd (linT all pts[j] iN iN) iN (linT all pts[j] iN iN iN + all[iN] * pts[j]) = linT all pts[j] (iN + 1) iN := by
            have := linT_one all pts[j] iN
            rw [ser_at _ _ hia] at this
            exact this
          rw [ofS_setb, hup] at ho4
          go_simp
          obtain ⟨W4, hW4⟩ : ∃ W, W = W3.setCell ⟨W1.heap.size, iN, none⟩ (.int .u8 ((linT all pts[j] iN iN iN + all[iN] * pts[j]).val : Int)) := ⟨_, rfl⟩
          rw [← hW4] at ho4 hx4 ⊢
          clear hW4 ho3 hx3 f3 c3 hup
          have c1 := (HO.out.ext hx4).cell (bs_get all iN hia)
          have c2 := ho4.cell (ofS_getb (L + 1) (linT all pts[j] (iN + 1) iN) (iN + 1) (by omega))
          have hl5 := (linT all pts[j] (iN + 1) iN (iN + 1)).lt
          have hxo := bits_u8_xor (linT all pts[j] (iN + 1) iN (iN + 1)) all[iN]
          have hw1 : IntKind.i64.wrap ((iN : Int) + 1) = (iN : Int) + 1 := IntWalk.i64_in _ (by omega)
          have hw2 : ((iN : Int) + 1).toNat = iN + 1 := by omega
          have hw3 : (0 : Int) ≤ (iN : Int) + 1 := by omega
          have hw4 : (iN : Int) + 1 < (L : Int) + 1 := by omega
          have hw5 : iN + 1 < L + 1 := by omega
          have HO4 := Lib.hid ho4
          have HX4 := Lib.hid hx4
          clear ho4 hx4
          go_wp2_with fail
          refine region_store_plain hmo (by kernel_rfl) (by kernel_rfl) (by kernel_rfl) ?_
          dsimp only [muted, mute, List.dropLast]
          repeat (gi_big_quiet_step (fail))
          refine wpQuietIn_nil ?_
          rintro _ ⟨nq2, rfl⟩ s hs'
          simp only [List.getLast?_cons_cons, List.getLast?_singleton, Option.some.injEq] at hs'
          subst hs'
          clear c1 c2 hxo
          obtain ⟨W5, hW5⟩ : ∃ W, W = W4.drewN nq2 := ⟨_, rfl⟩
          have hx5 : Ext W1 W5 := by rw [hW5]; exact HX4.out.drewN nq2
          have ho5 : Own W5 W1.heap.size 5 (.slice (some ⟨W1.heap.size, 0, none⟩) (L + 1) (L + 1)) (bs (ofS (L + 1) (linT all pts[j] (iN + 1) iN))) := by rw [hW5]; exact HO4.out.drewN nq2
          rw [← hW5]
          clear hW5
          have f3 := ho5.frozen (iN + 1)
          have c3 := ho5.cell (ofS_getb (L + 1) (linT all pts[j] (iN + 1) iN) (iN + 1) (by omega))
          have ho6 := ho5.set (iN + 1) (.int .u8 ((linT all pts[j] (iN + 1) iN (iN + 1) + all[iN]).val : Int))
          have hx6 := hx5.new (p := ⟨W1.heap.size, iN + 1, none⟩) (Nat.le_refl _) (.int .u8 ((linT all pts[j] (iN + 1) iN (iN + 1) + all[iN]).val : Int))
          have hup : upd (linT all pts[j] (iN + 1) iN) (iN + 1) (linT all pts[j] (iN + 1) iN (iN + 1) + all[iN]) = linT all pts[j] (iN + 1) (iN + 1) := by
            have := linT_two all pts[j] iN
            rw [ser_at _ _ hia] at this
            exact this
          rw [ofS_setb, hup] at ho6
          have HH := Lib.hid (And.intro hx6 ho6)
          clear ho5 hx5 ho6 hx6 hup hw1 hw2
          go_simp
          go_wp2_with fail
          go_roundw
          case rel => exact ⟨iN + 1, by omega, by go_num, HH.out.1, HH.out.2⟩
          case measure => simp [intOf]; omega
        · obtain rfl : L = iN := by omega
          have hfin : ofS (L + 1) (linT all pts[j] L L) = vanishL (pts.take (j + 1)) := by
            have h1 := linT_all all pts[j]
            rw [HL.out] at h1
            rw [h1, HNEXT.out, ← HNL.out, ofS_ser]
          rw [hfin] at ho2
          have HH : Hid (Own W2 w.heap.size 5 (.slice (some ⟨W1.heap.size, 0, none⟩) (L + 1) (L + 1)) (bs (vanishL (pts.take (j + 1))))) := Lib.hid (ho2.mono HX.out.le)
          have HX2 := Lib.hid (HX.out.trans hx2)
          clear hfin ho2 hx2
          go_wp2_with fail
          go_roundw
          case rel => exact ⟨j + 1, _, rfl, by omega, by go_num, HX2.out, HH.out⟩
          case measure => simp [intOf]; omega
    · obtain rfl : n = j := by omega
      have hta : pts.take n = pts := List.take_of_length_le (by rw [HN.out]; exact Nat.le_refl _)
      rw [hta] at ho
      obtain ⟨all, hall⟩ : ∃ l, l = vanishL pts := ⟨_, rfl⟩
      obtain ⟨L, hL⟩ : ∃ L, all.length = L := ⟨_, rfl⟩
      have hLn : L = n + 1 := by rw [← hL, hall, vanish_length, HN.out]
      have hLb : L ≤ 301 := by omega
      have hnL : n < L := by omega
      rw [← hall] at ho
      obtain ⟨g, c, rfl, hg1, hg2, -, -⟩ := ho.some_ (fun e => by have := congrArg List.length e; rw [bs_length, hL] at this; simp at this; omega)
      rw [bs_length, hL] at ho ⊢
      have HO := Lib.hid ho
      have HX := Lib.hid hx
      have HL := Lib.hid hL
      have HLN := Lib.hid hLn
      have HALL := Lib.hid hall
      have HS0 : Hid (LagOK pts vals (ofS n S.zero) n 0) := Lib.hid ⟨ofS_length _ _, fun i hi => by rw [evL_zeros, if_neg (by omega)]⟩
      have HZ := Lib.hid (own_zeros W1 n (by omega))
      clear ho hx hall hL hg1 hg2 hLn hta
      go_wp2_with fail
      go_loopw [12] (fun i wr => ∃ (j : Nat) (sm : List E), j ≤ n ∧ i = .int .i64 j ∧ LagOK pts vals sm n j ∧ Ext W1 wr ∧ Own wr W1.heap.size 5 (.slice (some ⟨W1.heap.size, 0, none⟩) n n) (bs sm)) (fun i _ => n - (intOf i).toNat)
      case atStart => exact ⟨0, _, by omega, rfl, HS0.out, (Ext.refl W1).alloc _, HZ.out⟩
      case round =>
        obtain ⟨W2, rfl⟩ : ∃ W, W = wr := ⟨_, rfl⟩
        obtain ⟨j, sm, hj, rfl, hSo, hx2, ho2⟩ := hrel
        clear HZ HS0
        have HX2 := Lib.hid hx2
        have HO2 := Lib.hid ho2
        have HSO := Lib.hid hSo
        clear hx2 ho2 hSo
        by_cases hlt2 : j < n
        · have hjp : j < pts.length := by rw [HN.out]; exact hlt2
          have hjv : j < vals.length := by rw [HM.out]; exact hlt2
          have hgp : pts.getD j 0 = pts[j] := by rw [List.getD_eq_getElem?_getD, List.getElem?_eq_getElem hjp]; rfl
          have hgv : vals.getD j 0 = vals[j] := by rw [List.getD_eq_getElem?_getD, List.getElem?_eq_getElem hjv]; rfl
          obtain ⟨O, hO⟩ : ∃ l, l = oneL all pts[j] n := ⟨_, rfl⟩
          have hOl : O.length = n := by rw [hO, oneL_length]
          have hzl : (ofS n S.zero).length = O.length := by rw [hOl, ofS_length]
          have HNEXT : Hid (LagOK pts vals (elimR (vals[j] * E.inv (evL O pts[j])) sm O) n (j + 1)) := Lib.hid (by
            have := lag_step HN.out HM.out HND.out hlt2 HSO.out
            rw [hgp, hgv, ← HALL.out, ← hO] at this
            exact this)
          have HNE : Hid (evL O pts[j] ≠ 0) := Lib.hid (by
            have := (one_ev HND.out hjp).1
            rw [← HALL.out, HN.out, ← hO] at this
            exact this)
          have HOE := Lib.hid hO
          have HOL := Lib.hid hOl
          have HZL := Lib.hid hzl
          have HSL : Hid ((elimR (vals[j] * E.inv (evL O pts[j])) sm O).length = sm.length) := Lib.hid (elimR_length (by rw [hOl, HSO.out.1]))
          have hfz := own_zeros W2 n (by omega)
          have hZ4 : Own (W2.alloc (.cells (zrow (.int .u8 0) n) 5)) W2.heap.size 5 (.slice (some ⟨W2.heap.size, 0, none⟩) n n) (bs (mixL (ofS n S.zero) O n)) := by
            have := mixL_all hzl
            rw [hOl] at this
            rw [this]; exact hfz
          have HZ4 := Lib.hid hZ4
          have HE0 : Hid (Value.int .u8 0 = Value.int .u8 ((evL (all.drop (n + 1)) pts[j]).val : Int)) := Lib.hid (by rw [List.drop_eq_nil_of_le (by rw [HL.out, HLN.out]; exact Nat.le_refl _), evL_nil]; rfl)
          clear hgp hgv hO hOl hzl hfz hZ4
          go_wp2_with fail
          go_loopw [14, 15] (fun rest i wr => ∃ iN : Nat, iN ≤ n ∧ i = .int .i64 iN ∧ rest = .int .u8 ((evL (all.drop (iN + 1)) pts[j]).val : Int) ∧ Ext W2 wr ∧ Own wr W2.heap.size 5 (.slice (some ⟨W2.heap.size, 0, none⟩) n n) (bs (mixL (ofS n S.zero) O iN))) (fun _ i _ => (intOf i).toNat)
          case atStart => exact ⟨n, by omega, rfl, HE0.out, (Ext.refl W2).alloc _, HZ4.out⟩
          case round =>
            obtain ⟨W3, rfl⟩ : ∃ W, W = wr := ⟨_, rfl⟩
            obtain ⟨iN, hi, rfl, rfl, hx3, ho3⟩ := hrel
            clear HZ4 HE0
            obtain ⟨rv, hrv⟩ : ∃ r, r = evL (all.drop (iN + 1)) pts[j] := ⟨_, rfl⟩
            rw [← hrv]
            have HRV := Lib.hid hrv
            clear hrv
            rcases Nat.eq_zero_or_pos iN with h0 | h0
            · subst h0
              rw [mixL_zero] at ho3
              rw [show ((0 : Nat) : Int) = 0 from rfl]
              have HO3 := Lib.hid ho3
              have HX3 := Lib.hid hx3
              have hxw := HX.out.trans (HX2.out.trans hx3)
              obtain ⟨ad, rfl, ca1⟩ := (HR.out.ext hxw).byte hjp
              obtain ⟨bd, rfl, ca2⟩ := (HS.out.ext hxw).byte hjv
              have HA := Lib.hid (fun nn : Nat => at5_n gt ct (some ⟨W2.heap.size, 0, none⟩) n O n pts[j] (W3.drewN nn) ((HT.out.ext hxw).ext ((Ext.refl W3).drewN nn)) HOL.out (ho3.rd.drewN nn) (by omega))
              have HI := Lib.hid (fun nn : Nat => inverse_n gt ct (evL O pts[j]) HNE.out (W3.drewN nn) ((HT.out.ext hxw).ext ((Ext.refl W3).drewN nn)))
              obtain ⟨gi, g1, g2⟩ := (HT.out.ext hxw).at_ vals[j] (E.inv (evL O pts[j]))
              have hl1 := (vals[j]).lt
              have hl2 := (pts[j]).lt
              have hl3 := (evL O pts[j]).lt
              have hl4 := (E.inv (evL O pts[j])).lt
              have hl5 := (vals[j] * E.inv (evL O pts[j])).lt
              have HXW := Lib.hid hxw
              clear ho3 hx3 hxw
              go_wp2_with fail
              go_quiet ((first | (go_at_call 121; with_reducible exact quiet_left (HA.out _)) | (go_at_call 128; with_reducible exact quiet_left (HI.out _))))
              obtain ⟨W4, hW4⟩ : ∃ W, W = W3.drewN nq := ⟨_, rfl⟩
              have HX4 : Hid (Ext W1 W4) := Lib.hid (by rw [hW4]; exact (HX2.out.trans HX3.out).drewN nq)
              have HO4 : Hid (Own W4 W2.heap.size 5 (.slice (some ⟨W2.heap.size, 0, none⟩) n n) (bs O)) := Lib.hid (by rw [hW4]; exact HO3.out.drewN nq)
              have HS4 : Hid (Own W4 W1.heap.size 5 (.slice (some ⟨W1.heap.size, 0, none⟩) n n) (bs (mixL (elimR (vals[j] * E.inv (evL O pts[j])) sm O) sm 0))) := Lib.hid (by rw [mixL_zero, hW4]; exact (HO2.out.ext HX3.out).drewN nq)
              have hgt : W1.heap.size < W2.heap.size := (HO2.out.lt W1.heap.size rfl).2
              rw [← hW4]
              clear hW4 ca1 ca2 HA HI g1 g2
              obtain ⟨cv, hcv⟩ : ∃ c, c = vals[j] * E.inv (evL O pts[j]) := ⟨_, rfl⟩
              rw [← hcv] at HS4 HSL HNEXT hl5 ⊢
              clear hcv
              go_wp2_with fail
              go_loopw [17] (fun i wr => ∃ iN : Nat, iN ≤ n ∧ i = .int .i64 iN ∧ Ext W1 wr ∧ Own wr W2.heap.size 5 (.slice (some ⟨W2.heap.size, 0, none⟩) n n) (bs O) ∧ Own wr W1.heap.size 5 (.slice (some ⟨W1.heap.size, 0, none⟩) n n) (bs (mixL (elimR cv sm O) sm iN))) (fun i _ => n - (intOf i).toNat)
              case atStart => exact ⟨0, by omega, rfl, HX4.out, HO4.out, HS4.out⟩
              case round =>
                obtain ⟨W5, rfl⟩ : ∃ W, W = wr := ⟨_, rfl⟩
                obtain ⟨iN, hi2, rfl, hx5, ho5, hs5⟩ := hrel
                clear HX4 HO4 HS4
                by_cases hlt3 : iN < n
                · have hsl : iN < sm.length := by rw [HSO.out.1]; exact hlt3
                  have hol : iN < O.length := by rw [HOL.out]; exact hlt3
                  have hml : iN < (mixL (elimR cv sm O) sm iN).length := by rw [mixL_length HSL.out]; exact hsl
                  have d1 : W5.cell? ⟨W1.heap.size, iN, none⟩ = some (.int .u8 ((sm[iN]).val : Int)) := by
                    have h1 := hs5.cell (bs_get _ iN hml)
                    rwa [mixL_get HSL.out hsl] at h1
                  have d2 := ho5.cell (bs_get O iN hol)
                  obtain ⟨gi, g1, g2⟩ := (HT.out.ext (HX.out.trans hx5)).at_ cv O[iN]
                  have hl6 := (sm[iN]).lt
                  have hl7 := (O[iN]).lt
                  have hl8 := (cv * O[iN]).lt
                  have hxo := bits_u8_xor sm[iN] (cv * O[iN])
                  have HH5 := Lib.hid (And.intro hx5 (And.intro ho5 hs5))
                  clear hx5 ho5 hs5
                  go_wp2_with fail
                  refine region_store_plain hmo (by kernel_rfl) (by kernel_rfl) (by kernel_rfl) ?_
                  dsimp only [muted, mute, List.dropLast]
                  repeat (gi_big_quiet_step (fail))
                  refine wpQuietIn_nil ?_
                  rintro _ ⟨nq2, rfl⟩ s hs'
                  simp only [List.getLast?_cons_cons, List.getLast?_singleton, Option.some.injEq] at hs'
                  subst hs'
                  clear d1 d2 g1 g2 hxo
                  obtain ⟨W6, hW6⟩ : ∃ W, W = W5.drewN nq2 := ⟨_, rfl⟩
                  have hx6 : Ext W1 W6 := by rw [hW6]; exact HH5.out.1.drewN nq2
                  have ho6 : Own W6 W2.heap.size 5 (.slice (some ⟨W2.heap.size, 0, none⟩) n n) (bs O) := by rw [hW6]; exact HH5.out.2.1.drewN nq2
                  have hs6 : Own W6 W1.heap.size 5 (.slice (some ⟨W1.heap.size, 0, none⟩) n n) (bs (mixL (elimR cv sm O) sm iN)) := by rw [hW6]; exact HH5.out.2.2.drewN nq2
                  rw [← hW6]
                  clear hW6
                  have f3 := hs6.frozen iN
                  have c3 := hs6.cell (bs_get _ iN hml)
                  have hs7 := hs6.set iN (.int .u8 ((sm[iN] + cv * O[iN]).val : Int))
                  have hst : (bs (mixL (elimR cv sm O) sm iN)).set iN (.int .u8 ((sm[iN] + cv * O[iN]).val : Int)) = bs (mixL (elimR cv sm O) sm (iN + 1)) := by
                    have := mixL_set HSL.out hsl
                    rw [elimR_get (by rw [HOL.out, HSO.out.1]) hsl] at this
                    rw [← this, bs, bs, List.map_set]; rfl
                  rw [hst] at hs7
                  have ho7 := ho6.far (p := ⟨W1.heap.size, iN, none⟩) (by simp only [Value.ownBlock, ne_eq, Option.some.injEq]; omega) (.int .u8 ((sm[iN] + cv * O[iN]).val : Int))
                  have hx7 := hx6.new (p := ⟨W1.heap.size, iN, none⟩) (Nat.le_refl _) (.int .u8 ((sm[iN] + cv * O[iN]).val : Int))
                  have HH := Lib.hid (And.intro hx7 (And.intro ho7 hs7))
                  clear hx6 ho6 hs6 hs7 ho7 hx7 hst
                  go_simp
                  go_wp2_with fail
                  go_roundw
                  case rel => exact ⟨iN + 1, by omega, by go_num, HH.out.1, HH.out.2.1, HH.out.2.2⟩
                  case measure => simp [intOf]; omega
                · obtain rfl : n = iN := by omega
                  have hfin : mixL (elimR cv sm O) sm n = elimR cv sm O := by have := mixL_all HSL.out; rwa [HSO.out.1] at this
                  rw [hfin] at hs5
                  have HH := Lib.hid (And.intro hx5 hs5)
                  clear hx5 ho5 hs5 hfin
                  go_wp2_with fail
                  go_roundw
                  case rel => exact ⟨j + 1, _, by omega, by go_num, HNEXT.out, HH.out.1, HH.out.2⟩
                  case measure => simp [intOf]; omega
            · obtain ⟨kN, rfl⟩ : ∃ k, iN = k + 1 := ⟨iN - 1, by omega⟩
              have hka : kN + 1 < all.length := by rw [HL.out]; omega
              have hkO : kN < O.length := by rw [HOL.out]; omega
              have hxw := HX.out.trans (HX2.out.trans hx3)
              obtain ⟨ad, rfl, ca1⟩ := (HR.out.ext hxw).byte hjp
              have c1 := (HO.out.ext (HX2.out.trans hx3)).cell (bs_get all (kN + 1) hka)
              obtain ⟨gi, g1, g2⟩ := (HT.out.ext hxw).at_ rv pts[j]
              have hl1 := (all[kN + 1]).lt
              have hl2 := (pts[j]).lt
              have hl3 := rv.lt
              have hl4 := (rv * pts[j]).lt
              have hxo := bits_u8_xor all[kN + 1] (rv * pts[j])
              have hkL : (kN : Int) + 1 < (L : Int) := by omega
              have hr2 : all[kN + 1] + rv * pts[j] = evL (all.drop (kN + 1)) pts[j] := by rw [evL_drop _ _ _ hka, HRV.out, E.mul_comm pts[j]]
              have hOk : O[kN] = evL (all.drop (kN + 1)) pts[j] := by
                have : ∀ (l : List E) (e : l = oneL all pts[j] n) (h : kN < l.length), l[kN] = evL (all.drop (kN + 1)) pts[j] := fun l e h => by subst e; exact oneL_get _ _ _ _ h
                exact this O HOE.out hkO
              have HR2 := Lib.hid hr2
              have HOK := Lib.hid hOk
              have HO3 := Lib.hid ho3
              have HX3 := Lib.hid hx3
              have hki : kN + 1 ≤ n := hi
              clear ho3 hx3 hxw hr2 hOk hi h0
              go_wp2_with fail
              go_quiet (fail)
              obtain ⟨W4, hW4⟩ : ∃ W, W = W3.drewN nq := ⟨_, rfl⟩
              have hx4 : Ext W2 W4 := by rw [hW4]; exact HX3.out.drewN nq
              have ho4 : Own W4 W2.heap.size 5 (.slice (some ⟨W2.heap.size, 0, none⟩) n n) (bs (mixL (ofS n S.zero) O (kN + 1))) := by rw [hW4]; exact HO3.out.drewN nq
              rw [← hW4]
              clear hW4 ca1 c1 g1 g2 hxo
              obtain ⟨rw2, hrw2⟩ : ∃ r, r = all[kN + 1] + rv * pts[j] := ⟨_, rfl⟩
              rw [← hrw2] at HR2 ⊢
              clear hrw2
              have hl5 := rw2.lt
              have f3 := ho4.frozen kN
              have c3 := ho4.cell (bs_get (mixL (ofS n S.zero) O (kN + 1)) kN (by rw [mixL_length HZL.out]; exact hkO))
              have ho5 := ho4.set kN (.int .u8 (rw2.val : Int))
              have hst : (bs (mixL (ofS n S.zero) O (kN + 1))).set kN (.int .u8 (rw2.val : Int)) = bs (mixL (ofS n S.zero) O kN) := by
                have := mixL_back HZL.out hkO
                rw [HOK.out, ← HR2.out] at this
                rw [← this, bs, bs, List.map_set]; rfl
              rw [hst] at ho5
              have hx5 := hx4.new (p := ⟨W2.heap.size, kN, none⟩) (Nat.le_refl _) (.int .u8 (rw2.val : Int))
              have HH := Lib.hid (And.intro hx5 ho5)
              have HRR : Hid (Value.int .u8 (rw2.val : Int) = Value.int .u8 ((evL (all.drop (kN + 1)) pts[j]).val : Int)) := Lib.hid (by rw [HR2.out])
              clear hx4 ho4 hx5 ho5 hst
              go_wp2_with fail
              go_roundw
              case rel => exact ⟨kN, by omega, by go_num, HRR.out, HH.out.1, HH.out.2⟩
              case measure => (simp [intOf]; try omega)
        · obtain rfl : n = j := by omega
          have hle : w.heap.size ≤ W1.heap.size := HX.out.le
          go_wp2
          go_ret
          exact ⟨_, sm, rfl, HO2.out.mono hle, HSO.out.1, fun i hi => by rw [HSO.out.2 i hi, if_pos hi], HX.out.trans HX2.out⟩
end Go.Proofs.Ytemnlcfabaocbaa
/-
  The walks of the document's answer for chapter 5: straight, near.
-/
namespace Go.Proofs.Ytemnlcfabaocbaa
open Go.RowKit Gf
set_option maxRecDepth 20000
set_option linter.unusedVariables false

/-- What straight answers. -/
def StrOut (k N : Nat) (xs ys : List E) (B : Nat) (e : Ending) (w' : World) : Prop :=
  (∃ v p, e = .returned (.tuple #[v, .bool true]) ∧ Own w' B 5 v (bs p) ∧ p.length = k ∧ ∀ i, i < N → evL p (xs.getD i 0) = ys.getD i 0) ∨ (e = .returned (.tuple #[.slice none 0 0, .bool false]))
theorem getD_at {l : List E} {i : Nat} (h : i < l.length) : l.getD i 0 = l[i] := by rw [List.getD_eq_getElem?_getD, List.getElem?_eq_getElem h]; rfl
theorem getD_take {l : List E} {i k : Nat} (h : i < k) : (l.take k).getD i 0 = l.getD i 0 := by rw [List.getD_eq_getElem?_getD, List.getD_eq_getElem?_getD, List.getElem?_take, if_pos h]
set_option maxHeartbeats 4000000 in
theorem straight_n (gt ct : Nat) (A C : Option Addr) (N k ca cc : Nat) (xs ys : List E) (w : World) (ht : Tab w gt) (hn : xs.length = N) (hm : ys.length = N) (hr : Rd w A (bs xs)) (hs : Rd w C (bs ys)) (hnd : xs.Nodup) (hkN : k ≤ N) (hca : N ≤ ca) (hcc : N ≤ cc) (hca2 : ca ≤ maxLen) (hcc2 : cc ≤ maxLen) (hlen : N ≤ 300) :
    Calls Try.prog 124 #[.slice (some ⟨gt, 0, none⟩) 256 ct, .int .i64 (k : Int), .slice A N ca, .slice C N cc] w fun e w' => StrOut k N xs ys w.heap.size e w' ∧ Ext w w' := by
  simp only [maxLen] at hca2 hcc2
  have hmo : Try.prog.follows Departure.mixedOrders = true := by kernel_rfl
  have HN := Lib.hid hn
  have HM := Lib.hid hm
  have HT := Lib.hid ht
  have HR := Lib.hid hr
  have HS := Lib.hid hs
  have hxd : Ext w w.drew := (Ext.refl w).drewN 1
  have HTH := Lib.hid (through5_n gt ct A C k ca cc (xs.take k) (ys.take k) w.drew (ht.ext hxd) (by rw [List.length_take, hn]; omega) (by rw [List.length_take, hm]; omega) (by rw [bs_take]; exact (hr.take k)) (by rw [bs_take]; exact (hs.take k)) (hnd.sublist (List.take_sublist _ _)) (by omega))
  have hkca : k ≤ ca := by omega
  have hkcc : k ≤ cc := by omega
  clear hn hm ht hr hs hnd hxd
  go_enter Try.func124, Try.ntmps124
  go_wp2_with fail
  refine wp_region_mix (fun i => [0, 0, 0, 0, 0, 0, 0, 1, 3].getD i 0) (fun w' => Ext w w') hmo (by kernel_rfl) (by kernel_rfl) ((Ext.refl _).drewN 1) ?_
  refine mix_still (.slice (some ⟨gt, 0, none⟩) 256 ct) rfl (fun w' hw' => by go_simp) ?_
  refine mix_still (.slice A N ca) rfl (fun w' hw' => by go_simp) ?_
  refine mix_still (.int .i64 (k : Int)) rfl (fun w' hw' => by go_simp) ?_
  refine mix_still (.slice A k ca) rfl (fun w' hw' => by go_simp) ?_
  refine mix_still (.slice C N cc) rfl (fun w' hw' => by go_simp) ?_
  refine mix_still (.int .i64 (k : Int)) rfl (fun w' hw' => by go_simp) ?_
  refine mix_still (.slice C k cc) rfl (fun w' hw' => by go_simp) ?_
  refine mix_call 127 #[.slice (some ⟨gt, 0, none⟩) 256 ct, .slice A k ca, .slice C k cc] rfl (by go_simp) ?_
  refine HTH.out.mono ?_
  rintro e w1 ⟨v, s, rfl, ho, hsl, hsp, hx⟩
  have hx1 : Ext w w1 := ((Ext.refl w).drewN 1).trans hx
  refine ⟨v, rfl, hx1, ?_⟩
  refine mix_pure v rfl (fun w' => by go_simp) ?_
  refine mix_nil ?_
  obtain ⟨Ap, cp, rfl, hrp, hcp, hmp⟩ := ho.bytesN hsl
  have HSL := Lib.hid hsl
  have HSP : Hid (∀ i, i < k → evL s (xs.getD i 0) = ys.getD i 0) := Lib.hid fun i hi => by
    have := hsp i hi
    rwa [getD_take hi, getD_take hi] at this
  have HO : Hid (Own w1 w.heap.size 5 (.slice Ap k cp) (bs s)) := Lib.hid ho
  have HX1 := Lib.hid hx1
  have HRP := Lib.hid hrp
  clear hsl hsp ho hx hx1 hrp HTH
  go_wp2_with fail
  go_simp
  go_loopw [11] (fun i wr => ∃ iN : Nat, k ≤ iN ∧ iN ≤ N ∧ i = .int .i64 iN ∧ Ext w1 wr ∧ ∀ t, t < iN → evL s (xs.getD t 0) = ys.getD t 0) (fun i _ => N - (intOf i).toNat)
  case atStart => exact ⟨k, Nat.le_refl _, hkN, rfl, Ext.refl _, HSP.out⟩
  case round =>
    obtain ⟨W2, rfl⟩ : ∃ W, W = wr := ⟨_, rfl⟩
    obtain ⟨iN, hi1, hi2, rfl, hx2, hall⟩ := hrel
    have HALL := Lib.hid hall
    have HX2 := Lib.hid hx2
    clear hall
    by_cases hlt : iN < N
    · have hip : iN < xs.length := by rw [HN.out]; exact hlt
      have hiv : iN < ys.length := by rw [HM.out]; exact hlt
      obtain ⟨ad, rfl, ca1⟩ := (HR.out.ext (HX1.out.trans hx2)).byte hip
      obtain ⟨bd, rfl, ca2⟩ := (HS.out.ext (HX1.out.trans hx2)).byte hiv
      have HA := Lib.hid (fun nn : Nat => at5_n gt ct Ap k s cp xs[iN] (W2.drewN nn) ((HT.out.ext (HX1.out.trans hx2)).ext ((Ext.refl W2).drewN nn)) HSL.out ((HRP.out.ext hx2).drewN nn) (by omega))
      have hl1 := (xs[iN]).lt
      have hl2 := (ys[iN]).lt
      have hl3 := (evL s xs[iN]).lt
      clear hx2
      by_cases he : evL s xs[iN] = ys[iN]
      · have hb : (((evL s xs[iN]).val : Int) != ((ys[iN]).val : Int)) = false := by rw [he]; simp
        have HE := Lib.hid he
        clear he
        go_wp2_with fail
        go_quiet ((go_at_call 121; with_reducible exact quiet_left (HA.out _)))
        have HX3 := Lib.hid (HX2.out.drewN (w := W2) nq)
        clear ca1 ca2 HA
        go_wp2_with fail
        go_roundw
        case rel => exact ⟨iN + 1, by omega, by omega, by go_num, HX3.out, fun t ht => by
          rcases Nat.lt_or_ge t iN with h | h
          · exact HALL.out t h
          · obtain rfl : t = iN := by omega
            rw [getD_at hip, getD_at hiv]; exact HE.out⟩
        case measure => simp [intOf]; omega
      · have hb : (((evL s xs[iN]).val : Int) != ((ys[iN]).val : Int)) = true := by
          rw [bne_iff_ne]
          intro e
          exact he (E.ext (by omega))
        clear he
        go_wp2_with fail
        go_quiet ((go_at_call 121; with_reducible exact quiet_left (HA.out _)))
        have HX3 := Lib.hid (HX2.out.drewN (w := W2) nq)
        clear ca1 ca2 HA
        go_wp2_with fail
        go_ret2
        exact ⟨.inr rfl, HX1.out.trans HX3.out⟩
    · obtain rfl : N = iN := by omega
      go_wp2
      go_ret2
      exact ⟨.inl ⟨_, s, rfl, HO.out.ext HX2.out, HSL.out, HALL.out⟩, HX1.out.trans HX2.out⟩
end Go.Proofs.Ytemnlcfabaocbaa
/-
  The walk of the document's answer for chapter 5: near, by linear equations.
-/
namespace Go.Proofs.Ytemnlcfabaocbaa
open Go.RowKit Gf
set_option maxRecDepth 20000
set_option linter.unusedVariables false

/-- A row of the equations that is being filled. -/
def rowF (e : Nat) (x y : E) (a b : Nat) : S := fun t => if t < e + 1 then (if t < a then y * E.pow x t else 0) else if t - (e + 1) < b then E.pow x (t - (e + 1)) else 0
theorem rowF_zero (e : Nat) (x y : E) : rowF e x y 0 0 = S.zero := funext fun t => by simp [rowF, S.zero]
theorem rowF_one (e : Nat) (x y : E) (j b : Nat) (hj : j < e + 1) : upd (rowF e x y j b) j (y * E.pow x j) = rowF e x y (j + 1) b := funext fun t => by
  unfold upd rowF
  by_cases h : t = j
  · subst h; rw [if_pos rfl, if_pos hj, if_pos (Nat.lt_succ_self _)]
  · rw [if_neg h]
    by_cases h2 : t < e + 1
    · rw [if_pos h2, if_pos h2]
      by_cases h3 : t < j
      · rw [if_pos h3, if_pos (by omega)]
      · rw [if_neg h3, if_neg (by omega)]
    · rw [if_neg h2, if_neg h2]
theorem rowF_skip (e : Nat) (x y : E) (j b : Nat) (hj : e + 1 ≤ j) : rowF e x y j b = rowF e x y (j + 1) b := funext fun t => by
  unfold rowF
  by_cases h2 : t < e + 1
  · rw [if_pos h2, if_pos h2, if_pos (by omega), if_pos (by omega)]
  · rw [if_neg h2, if_neg h2]
theorem rowF_two (e : Nat) (x y : E) (a j : Nat) : upd (rowF e x y a j) (e + 1 + j) (E.pow x j) = rowF e x y a (j + 1) := funext fun t => by
  unfold upd rowF
  by_cases h : t = e + 1 + j
  · subst h; rw [if_pos rfl, if_neg (by omega), if_pos (by omega), Nat.add_sub_cancel_left]
  · rw [if_neg h]
    by_cases h2 : t < e + 1
    · rw [if_pos h2, if_pos h2]
    · rw [if_neg h2, if_neg h2]
      by_cases h3 : t - (e + 1) < j
      · rw [if_pos h3, if_pos (by omega)]
      · rw [if_neg h3, if_neg (by omega)]
theorem rowF_all (e k : Nat) (x y : E) (hk : 1 ≤ k) : ofS (e + 1 + k + e) (rowF e x y (k + e) (k + e)) = bwRow e k x y := by
  apply list_ext
  · rw [ofS_length, bwRow_length]
  · intro t ht
    rw [ofS_length] at ht
    rw [ser_ofS_lt _ _ _ ht]
    by_cases h : t < e + 1
    · rw [bwRow_left e k x y h, rowF, if_pos h, if_pos (by omega)]
    · obtain ⟨j, rfl⟩ := Nat.exists_eq_add_of_le (Nat.le_of_not_lt h)
      rw [bwRow_right e k x y (by omega), rowF, if_neg h, Nat.add_sub_cancel_left, if_pos (by omega)]
/-- How many of the first i values are wrong. -/
def cntTo (p xs ys : List E) : Nat → Nat
  | 0 => 0
  | i + 1 => cntTo p xs ys i + if evL p (xs.getD i 0) = ys.getD i 0 then 0 else 1
theorem cntTo_take (p xs ys : List E) (h : ys.length = xs.length) : ∀ i, i ≤ xs.length → cntTo p xs ys i = (wrongs p (xs.take i) (ys.take i)).length
  | 0, _ => by simp [cntTo, wrongs]
  | i + 1, hi => by
    have hx : i < xs.length := hi
    have hy : i < ys.length := by omega
    rw [cntTo, cntTo_take p xs ys h i (by omega), take_snoc' xs i hx, take_snoc' ys i hy, getD_at hx, getD_at hy]
    unfold wrongs
    rw [List.zip_append (by simp; omega), List.filter_append, List.map_append, List.length_append]
    congr 1
    by_cases e : evL p xs[i] = ys[i] <;> simp [e]
theorem cntTo_all {p xs ys : List E} (h : ys.length = xs.length) : cntTo p xs ys xs.length = (wrongs p xs ys).length := by
  rw [cntTo_take p xs ys h _ (Nat.le_refl _), List.take_length, ← h, List.take_length]
theorem cntTo_le (p xs ys : List E) : ∀ i, cntTo p xs ys i ≤ i
  | 0 => Nat.le_refl _
  | i + 1 => by
    rw [cntTo]
    have := cntTo_le p xs ys i
    split <;> omega
/-- Another row of its kind has grown. -/
theorem far_moved {w w' : World} {B : Nat} {T : TypeId} {v v' u : Value} {ys : List Value} (hm : Moved w w' v v') (hu : Own w B T u ys) (hf : u.ownBlock = none ∨ u.ownBlock ≠ v.ownBlock) : Own w' B T u ys ∧ (u.ownBlock = none ∨ u.ownBlock ≠ v'.ownBlock) := by
  refine ⟨hu.kept hm.grown hf, ?_⟩
  rcases hm with ⟨e, _⟩ | ⟨e, _⟩
  · rw [e]; exact hf
  · cases h : u.ownBlock with
    | none => exact .inl rfl
    | some g =>
      refine .inr fun e' => ?_
      rw [e] at e'
      injection e' with e'
      have := (hu.lt g h).2
      omega
theorem far_symm {u v : Value} (h : u.ownBlock = none ∨ u.ownBlock ≠ v.ownBlock) : v.ownBlock = none ∨ v.ownBlock ≠ u.ownBlock := by
  cases e : v.ownBlock with
  | none => exact .inl rfl
  | some g =>
    refine .inr fun e' => ?_
    rcases h with h | h
    · rw [h] at e'; cases e'
    · exact h (by rw [e, ← e'])
theorem vals_snoc (word : List E) (l : List Nat) (i : Nat) (h : i < word.length) : valsL word (l ++ [i]) = valsL word l ++ [word[i]] := by simp [valsL, List.getD_eq_getElem?_getD, h]
theorem pts_snoc (l : List Nat) (i : Nat) : ptsL (l ++ [i]) = ptsL l ++ [E.of i] := by simp [ptsL]
/-- What near answers. -/
def Near5Out (k : Nat) (xs ys : List E) (B : Nat) (e : Ending) (w' : World) : Prop :=
  (∃ v p, e = .returned (.tuple #[v, .bool true]) ∧ NearOK k xs ys p ∧ p.length ≤ k ∧ Own w' B 5 v (bs p)) ∨ (∃ v, e = .returned (.tuple #[v, .bool false]) ∧ ∀ p, ¬ NearOK k xs ys p)
/-- The rows of the equations so far. -/
structure Rowing (w0 w : World) (e k U i : Nat) (xs ys : List E) (v : Value) : Prop where
  ext : Ext w0 w
  ex : ∃ V : List Value, V.length = i ∧ Own w w0.heap.size 24 v V ∧ OwnRows w w0.heap.size 5 V (fun a => bwRow e k (xs.getD a 0) (ys.getD a 0)) ∧ FarApart V
set_option maxHeartbeats 16000000 in
theorem near5_n (gt ct : Nat) (A C : Option Addr) (n k ca cc : Nat) (word : List E) (lost : List Bool) (w : World) (ht : Tab w gt) (hn : word.length = n) (hm : lost.length = n) (hr : Rd w A (bs word)) (hs : Rd w C (bools lost)) (hn2 : n ≤ 255) (hk : 1 ≤ k) (hkN : k ≤ (thereL lost).length) :
    Calls Try.prog 120 #[.slice (some ⟨gt, 0, none⟩) 256 ct, .int .i64 (k : Int), .slice A n ca, .slice C n cc] w fun e w' => Near5Out k (ptsL (thereL lost)) (valsL word (thereL lost)) w.heap.size e w' ∧ Ext w w' := by
  have hmo : Try.prog.follows Departure.mixedOrders = true := by kernel_rfl
  have hwd : Fence.wide.depth = none := rfl
  have hwf : ∀ f, Fence.wide.fn f := fun _ => trivial
  have HN := Lib.hid hn
  have HM := Lib.hid hm
  have HT := Lib.hid ht
  have HR := Lib.hid hr
  have HS := Lib.hid hs
  have HTL0 := Lib.hid (there_le lost)
  obtain ⟨at_, hat⟩ : ∃ l, l = thereL lost := ⟨_, rfl⟩
  obtain ⟨xs, hxs⟩ : ∃ l, l = ptsL at_ := ⟨_, rfl⟩
  obtain ⟨ys, hys⟩ : ∃ l, l = valsL word at_ := ⟨_, rfl⟩
  rw [← hat] at hkN HTL0 ⊢
  rw [← hxs, ← hys]
  have HAT := Lib.hid hat
  have HXE := Lib.hid hxs
  have HYE := Lib.hid hys
  have HKN := Lib.hid hkN
  have HTL := HTL0
  clear hn hm ht hr hs hkN hat hxs hys HTL0
  go_enter Try.func120, Try.ntmps120
  go_wp2_with fail
  go_loopw [10, 11, 12] (fun x y i wr => ∃ (j : Nat) (X Y : Value), X = x ∧ Y = y ∧ j ≤ n ∧ i = .int .i64 j ∧ Ext w wr ∧ Own wr w.heap.size 5 X (bs (ptsL (thereTo lost j))) ∧ Own wr w.heap.size 5 Y (bs (valsL word (thereTo lost j))) ∧ (X.ownBlock = none ∨ X.ownBlock ≠ Y.ownBlock)) (fun _ _ i _ => n - (intOf i).toNat)
  case atStart => exact ⟨0, _, _, rfl, rfl, by omega, rfl, Ext.refl _, Own.nil _ _ _, Own.nil _ _ _, .inl rfl⟩
  case round =>
    obtain ⟨W1, rfl⟩ : ∃ W, W = wr := ⟨_, rfl⟩
    obtain ⟨j, X, Y, rfl, rfl, hj, rfl, hx, hoX, hoY, hfar⟩ := hrel
    by_cases hlt : j < n
    · have hjl : j < lost.length := by rw [HM.out]; exact hlt
      have hjw : j < word.length := by rw [HN.out]; exact hlt
      obtain ⟨ad, rfl, hc⟩ := (HS.out.ext hx).at_ (bools_get lost j hjl)
      have HX := Lib.hid hx
      have HFAR := Lib.hid hfar
      have HOX := Lib.hid hoX
      have HOY := Lib.hid hoY
      cases hb : lost[j] with
      | true =>
        rw [hb] at hc
        have HTT := Lib.hid (thereTo_no hjl hb)
        clear hb hx hoX hoY hfar
        go_wp2_with fail
        go_roundw
        case rel => exact ⟨j + 1, X, Y, rfl, rfl, by omega, by go_num, HX.out, by rw [HTT.out]; exact HOX.out, by rw [HTT.out]; exact HOY.out, HFAR.out⟩
        case measure => simp [intOf]; omega
      | false =>
        rw [hb] at hc
        have HTT := Lib.hid (thereTo_yes hjl hb)
        have hle := hx.le
        have hbd : ((bs (ptsL (thereTo lost j))).length + 1) * 1 ≤ 140737488355328 := by rw [bs_length, pts_length]; have := thereTo_le lost j; omega
        have hbd2 : ((bs (valsL word (thereTo lost j))).length + 1) * 1 ≤ 140737488355328 := by rw [bs_length, vals_length]; have := thereTo_le lost j; omega
        have hof : (E.of j).val = j := E.val_of (by omega)
        have HOF := Lib.hid hof
        clear hb hx hoX hoY hfar hof
        go_wp2_with (at_builtin; refine wpList_push2 W1 eltU8 rfl _ _ (by rfl) w.heap.size X _ (by rfl) (by exact HOX.out) (.int .u8 (j : Int)) W1.heap.size rfl (by rfl) rfl hbd hle ?_)
        intro X2 W2 h1 h2 h3 h4
        have hy1 : Own (W1.alloc (.cells #[.int .u8 (j : Int)] 5)) w.heap.size 5 Y (bs (valsL word (thereTo lost j))) := HOY.out.alloc _
        obtain ⟨hy2, hf2⟩ := far_moved h2 hy1 (far_symm HFAR.out)
        have hx2 : Below w.heap.size w W2 := HX.out.below.trans h3
        have hX2 : Own W2 w.heap.size 5 X2 (bs (ptsL (thereTo lost j ++ [j]))) := by rw [pts_snoc, bs_append, bs_one, HOF.out]; exact h1
        obtain ⟨bd, rfl, hcw⟩ := (HR.out.ext (show Ext w W2 from hx2)).byte hjw
        have hwl := (word[j]).lt
        have hle2 : w.heap.size ≤ W2.heap.size := hx2.size
        have HALL := Lib.hid (And.intro hX2 (And.intro hy2 (And.intro hf2 hx2)))
        clear h1 h2 h3 h4 hy1 hy2 hf2 hx2 hX2 hle hbd hc
        go_wp2_with (at_builtin; refine wpList_push2 W2 eltU8 rfl _ _ (by rfl) w.heap.size Y _ (by rfl) (by exact HALL.out.2.1) (.int .u8 ((word[j]).val : Int)) W2.heap.size rfl (by rfl) rfl hbd2 hle2 ?_)
        intro Y2 W3 h1 h2 h3 h4
        have hx1 : Own (W2.alloc (.cells #[.int .u8 ((word[j]).val : Int)] 5)) w.heap.size 5 X2 (bs (ptsL (thereTo lost j ++ [j]))) := HALL.out.1.alloc _
        obtain ⟨hx2, hf2⟩ := far_moved h2 hx1 (far_symm HALL.out.2.2.1)
        have hx3 : Ext w W3 := HALL.out.2.2.2.trans h3
        have hY2 : Own W3 w.heap.size 5 Y2 (bs (valsL word (thereTo lost j ++ [j]))) := by rw [vals_snoc word _ j hjw, bs_append, bs_one]; exact h1
        have HH := Lib.hid (And.intro hx3 (And.intro hx2 (And.intro hY2 hf2)))
        clear h1 h2 h3 h4 hx1 hx2 hf2 hx3 hY2 hle2 hbd2 HALL
        go_wp2_with fail
        go_roundw
        case rel => exact ⟨j + 1, X2, Y2, rfl, rfl, by omega, by go_num, HH.out.1, by rw [HTT.out]; exact HH.out.2.1, by rw [HTT.out]; exact HH.out.2.2.1, HH.out.2.2.2⟩
        case measure => simp [intOf]; omega
    · obtain rfl : n = j := by omega
      have hat := HAT.out
      have hxs := HXE.out
      have hys := HYE.out
      have htt : thereTo lost n = at_ := by rw [hat, thereL, HM.out]
      rw [htt] at hoX hoY
      obtain ⟨N, hN⟩ : ∃ N, xs.length = N := ⟨_, rfl⟩
      have hNl : at_.length = N := by rw [← hN, hxs, pts_length]
      have hyN : ys.length = N := by rw [hys, vals_length, hNl]
      have hkN : k ≤ N := by rw [← hNl]; exact HKN.out
      have hNn : N ≤ n := by rw [← hNl]; have := HTL.out; rw [HM.out] at this; exact this
      have hnd : xs.Nodup := by
        rw [hxs, hat]
        exact pts_nodup (there_nodup lost) fun i hi => by have := there_mem hi; rw [HM.out] at this; omega
      rw [← hxs] at hoX
      rw [← hys] at hoY
      obtain ⟨gx, cx, rfl, hgx1, hgx2, hcx, hcx2⟩ := hoX.some_ (fun e => by have := congrArg List.length e; rw [bs_length, hN] at this; simp at this; omega)
      obtain ⟨gy, cy, rfl, hgy1, hgy2, hcy, hcy2⟩ := hoY.some_ (fun e => by have := congrArg List.length e; rw [bs_length, hyN] at this; simp at this; omega)
      rw [bs_length, hN] at hoX hcx ⊢
      rw [bs_length, hyN] at hoY hcy ⊢
      have HXS := Lib.hid hN
      have HYS := Lib.hid hyN
      have HND := Lib.hid hnd
      have HX := Lib.hid hx
      have HRX := Lib.hid hoX.rd
      have HRY := Lib.hid hoY.rd
      obtain ⟨e, he⟩ : ∃ e, e = (N - k) / 2 := ⟨_, rfl⟩
      have hei : ((N : Int) - (k : Int)) / 2 = (e : Int) := by rw [he]; omega
      have heb : e ≤ 255 := by omega
      have HE := Lib.hid he
      have HEI := Lib.hid hei
      have HT1 := Lib.hid (HT.out.ext hx)
      clear hat htt hxs hys hN hNl hyN hnd hoX hoY hx hfar he hei hgx1 hgx2 hgy1 hgy2
      go_wp2_with fail
      rw [HEI.out]
      refine (straight_n gt ct _ _ N k cx cy xs ys _ HT1.out HXS.out HYS.out HRX.out HRY.out HND.out hkN hcx hcy hcx2 hcy2 (by omega)).mono ?_
      rintro e' W2 ⟨hso, hx2⟩
      have HX2 := Lib.hid (HX.out.trans hx2)
      have HRX2 := Lib.hid (HRX.out.ext hx2)
      have HRY2 := Lib.hid (HRY.out.ext hx2)
      have HT2 := Lib.hid (HT1.out.ext hx2)
      have hle2 : w.heap.size ≤ W1.heap.size := HX.out.le
      clear hx2
      rcases hso with ⟨v, p, rfl, hop, hpl, hall⟩ | rfl
      · have HP : Hid (NearOK k xs ys p) := Lib.hid (near_straight (by rw [← hpl]; exact dg_le p) (by rw [HXS.out]; exact hkN) (by rw [HXS.out, HYS.out]) fun i hi => by
          have h1 := hall i (by rw [← HXS.out]; exact hi)
          rw [getD_at hi, getD_at (by rw [HYS.out, ← HXS.out]; exact hi)] at h1
          exact h1)
        have HOP := Lib.hid hop
        have HPL := Lib.hid hpl
        clear hop hpl hall
        go_wp2
        go_ret2
        exact ⟨.inl ⟨_, p, rfl, HP.out, by rw [HPL.out]; exact Nat.le_refl _, HOP.out.mono hle2⟩, HX2.out⟩
      · obtain ⟨U, hU⟩ : ∃ U, U = e + 1 + k + e := ⟨_, rfl⟩
        have hUb : U ≤ 1000 := by omega
        have hU0 : 0 < U := by omega
        have hUe : e + 1 < U := by omega
        have HU := Lib.hid hU
        have hmk : ∀ w, (Instr.makeSlice 24 (.int .i64 ((e : Int) + 1 + (k : Int) + (e : Int))) (.int .i64 ((e : Int) + 1 + (k : Int) + (e : Int)))).run Try.prog w = .ok (.slice (some ⟨w.heap.size, 0, none⟩) U U) (w.alloc (.cells (zrow (.int .u8 0) U) 5)) := fun w => by
          have := make_bytes U (by omega) w
          rw [show ((U : Nat) : Int) = (e : Int) + 1 + (k : Int) + (e : Int) by omega] at this
          exact this
        clear hU
        go_wp2_with fail
        go_loopw [16, 17] (fun rws i wr => ∃ (iN : Nat) (v : Value), v = rws ∧ iN ≤ N ∧ i = .int .i64 iN ∧ Rowing W2 wr e k U iN xs ys v) (fun _ i _ => N - (intOf i).toNat)
        case atStart => exact ⟨0, _, rfl, by omega, rfl, Ext.refl _, [], rfl, Own.nil _ _ _, ⟨fun i v h => by simp at h⟩, FarApart.nil⟩
        case round =>
          obtain ⟨W3, rfl⟩ : ∃ W, W = wr := ⟨_, rfl⟩
          obtain ⟨iN, v, rfl, hi, rfl, hRw⟩ := hrel
          have HRW := Lib.hid hRw
          clear hRw
          by_cases hlt : iN < N
          · have hix : iN < xs.length := by rw [HXS.out]; exact hlt
            have hiy : iN < ys.length := by rw [HYS.out]; exact hlt
            obtain ⟨x, hx⟩ : ∃ x, x = xs[iN] := ⟨_, rfl⟩
            obtain ⟨y, hy⟩ : ∃ y, y = ys[iN] := ⟨_, rfl⟩
            have hxl := x.lt
            have hyl := y.lt
            have HXI := Lib.hid hx
            have HYI := Lib.hid hy
            have hoz := own_zeros W3 U (by omega)
            rw [← rowF_zero e x y] at hoz
            have HOZ := Lib.hid hoz
            have hd256 : decide ((iN : Int) < (N : Int)) = true := decide_eq_true (by omega)
            clear hx hy hoz
            go_wp2_with fail
            go_loopw [19, 20] (fun pw j wr => ∃ jN : Nat, jN ≤ k + e ∧ j = .int .i64 jN ∧ pw = .int .u8 ((E.pow x jN).val : Int) ∧ Ext W3 wr ∧ Own wr W3.heap.size 5 (.slice (some ⟨W3.heap.size, 0, none⟩) U U) (bs (ofS U (rowF e x y jN jN)))) (fun _ j _ => k + e - (intOf j).toNat)
            case atStart => exact ⟨0, by omega, rfl, rfl, (Ext.refl W3).alloc _, HOZ.out⟩
            case round =>
              obtain ⟨W4, rfl⟩ : ∃ W, W = wr := ⟨_, rfl⟩
              obtain ⟨jN, hj, rfl, rfl, hx4, ho4⟩ := hrel
              clear HOZ
              by_cases hlt2 : jN < k + e
              · have hI1 : (jN : Int) < (k : Int) + (e : Int) := by omega
                have hI1' : decide ((jN : Int) < (k : Int) + (e : Int)) = true := decide_eq_true hI1
                have hUi : e + 1 + jN < U := by rw [HU.out]; omega
                have hUi2 : (e : Int) + 1 + (jN : Int) < (U : Int) := by omega
                obtain ⟨pw, hpw⟩ : ∃ p, p = E.pow x jN := ⟨_, rfl⟩
                rw [← hpw]
                have HPW := Lib.hid hpw
                have HPS : Hid (Value.int .u8 ((pw * x).val : Int) = Value.int .u8 ((E.pow x (jN + 1)).val : Int)) := Lib.hid (by rw [hpw, E.pow_succ])
                have hpl := pw.lt
                have hpl2 := (pw * x).lt
                have hpl3 := (y * pw).lt
                have hxw := HX2.out.trans (HRW.out.ext.trans hx4)
                have HXW := Lib.hid (HRW.out.ext.trans hx4)
                clear hpw
                rcases (show jN ≤ e ∨ e + 1 ≤ jN by omega) with hje | hje
                · have hjU : jN < U := by omega
                  have hdl : decide ((jN : Int) ≤ (e : Int)) = true := decide_eq_true (by omega)
                  have c1 := (HRY2.out.ext HXW.out).at_ (bs_get ys iN hiy)
                  obtain ⟨ady, hady, c1⟩ := c1
                  injection hady with hady
                  subst hady
                  rw [← HYI.out, add_plain] at c1
                  obtain ⟨gi, g1, g2⟩ := (HT2.out.ext HXW.out).at_ y pw
                  have f1 := ho4.frozen jN
                  have d1 := ho4.cell (ofS_getb U (rowF e x y jN jN) jN hjU)
                  have ho5 := ho4.set jN (.int .u8 ((y * pw).val : Int))
                  have hup : upd (rowF e x y jN jN) jN (y * pw) = rowF e x y (jN + 1) jN := by rw [HPW.out]; exact rowF_one e x y jN jN (by omega)
                  rw [ofS_setb, hup] at ho5
                  have f2 := ho5.frozen (e + 1 + jN)
                  have d2 := ho5.cell (ofS_getb U (rowF e x y (jN + 1) jN) (e + 1 + jN) hUi)
                  have ho6 := ho5.set (e + 1 + jN) (.int .u8 (pw.val : Int))
                  have hup2 : upd (rowF e x y (jN + 1) jN) (e + 1 + jN) pw = rowF e x y (jN + 1) (jN + 1) := by rw [HPW.out]; exact rowF_two e x y (jN + 1) jN
                  rw [ofS_setb, hup2] at ho6
                  have hx6 := (hx4.new (p := ⟨W3.heap.size, jN, none⟩) (Nat.le_refl _) (.int .u8 ((y * pw).val : Int))).new (p := ⟨W3.heap.size, e + 1 + jN, none⟩) (Nat.le_refl _) (.int .u8 (pw.val : Int))
                  obtain ⟨W5, hW5⟩ : ∃ W, W = (W4.setCell ⟨W3.heap.size, jN, none⟩ (.int .u8 ((y * pw).val : Int))).setCell ⟨W3.heap.size, e + 1 + jN, none⟩ (.int .u8 (pw.val : Int)) := ⟨_, rfl⟩
                  rw [← hW5] at ho6 hx6
                  have HO6 := Lib.hid ho6
                  have HX6 := Lib.hid hx6
                  clear ho4 hx4 ho5 ho6 hx6 hup hup2 hxw
                  go_wp2_with fail
                  rw [← hW5]
                  clear hW5 c1 g1 g2 f1 d1 f2 d2
                  obtain ⟨adx, hadx, c1⟩ := (HRX2.out.ext (HRW.out.ext.trans HX6.out)).at_ (bs_get xs iN hix)
                  injection hadx with hadx
                  subst hadx
                  rw [← HXI.out, add_plain] at c1
                  obtain ⟨gi, g1, g2⟩ := (HT2.out.ext (HRW.out.ext.trans HX6.out)).at_ pw x
                  go_quiet (fail)
                  have HH := Lib.hid (And.intro (HX6.out.drewN (w := W5) nq) (HO6.out.drewN nq))
                  clear c1 g1 g2
                  go_wp2_with fail
                  go_roundw
                  case rel => exact ⟨jN + 1, by omega, by go_num, HPS.out, HH.out.1, HH.out.2⟩
                  case measure => simp [intOf]; omega
                · have hdl : decide ((jN : Int) ≤ (e : Int)) = false := decide_eq_false (by omega)
                  rw [rowF_skip e x y jN jN hje] at ho4
                  have f2 := ho4.frozen (e + 1 + jN)
                  have d2 := ho4.cell (ofS_getb U (rowF e x y (jN + 1) jN) (e + 1 + jN) hUi)
                  have ho6 := ho4.set (e + 1 + jN) (.int .u8 (pw.val : Int))
                  have hup2 : upd (rowF e x y (jN + 1) jN) (e + 1 + jN) pw = rowF e x y (jN + 1) (jN + 1) := by rw [HPW.out]; exact rowF_two e x y (jN + 1) jN
                  rw [ofS_setb, hup2] at ho6
                  have hx6 := hx4.new (p := ⟨W3.heap.size, e + 1 + jN, none⟩) (Nat.le_refl _) (.int .u8 (pw.val : Int))
                  obtain ⟨W5, hW5⟩ : ∃ W, W = W4.setCell ⟨W3.heap.size, e + 1 + jN, none⟩ (.int .u8 (pw.val : Int)) := ⟨_, rfl⟩
                  rw [← hW5] at ho6 hx6
                  have HO6 := Lib.hid ho6
                  have HX6 := Lib.hid hx6
                  clear ho4 hx4 ho6 hx6 hup2 hxw
                  go_wp2_with fail
                  rw [← hW5]
                  clear hW5 f2 d2
                  obtain ⟨adx, hadx, c1⟩ := (HRX2.out.ext (HRW.out.ext.trans HX6.out)).at_ (bs_get xs iN hix)
                  injection hadx with hadx
                  subst hadx
                  rw [← HXI.out, add_plain] at c1
                  obtain ⟨gi, g1, g2⟩ := (HT2.out.ext (HRW.out.ext.trans HX6.out)).at_ pw x
                  go_quiet (fail)
                  have HH := Lib.hid (And.intro (HX6.out.drewN (w := W5) nq) (HO6.out.drewN nq))
                  clear c1 g1 g2
                  go_wp2_with fail
                  go_roundw
                  case rel => exact ⟨jN + 1, by omega, by go_num, HPS.out, HH.out.1, HH.out.2⟩
                  case measure => simp [intOf]; omega
              · have hje : jN = k + e := by omega
                have hI1' : decide ((jN : Int) < (k : Int) + (e : Int)) = false := decide_eq_false (by omega)
                have hfin : ofS U (rowF e x y jN jN) = bwRow e k (xs.getD iN 0) (ys.getD iN 0) := by
                  rw [getD_at hix, getD_at hiy, ← HXI.out, ← HYI.out, HU.out, hje]; exact rowF_all e k x y hk
                rw [hfin] at ho4
                obtain ⟨V, hVl, hVo, hVr, hVf⟩ := HRW.out.ex
                have hVo4 := hVo.ext hx4
                have hle4 : W2.heap.size ≤ W4.heap.size := (HRW.out.ext.trans hx4).le
                have hbd : (V.length + 1) * 24 ≤ 140737488355328 := by rw [hVl]; omega
                have HO4 := Lib.hid ho4
                have HX4 := Lib.hid hx4
                have HV := Lib.hid (And.intro hVl (And.intro hVo4 (And.intro hVr hVf)))
                clear hje hfin ho4 hx4 hVl hVo hVr hVf hVo4
                go_wp2_with (at_builtin; refine wpList_push2 W4 eltRowU8 rfl _ _ (by rfl) W2.heap.size v _ (by rfl) (by exact HV.out.2.1) (.slice (some ⟨W3.heap.size, 0, none⟩) U U) W4.heap.size rfl (by rfl) rfl hbd hle4 ?_)
                intro v2 W6 k1 k2 k3 k4
                have HR6 : Hid (Rowing W2 W6 e k U (iN + 1) xs ys v2) := Lib.hid (by
                  have hV1 := HV.out.2.1.alloc (.cells #[.slice (some ⟨W3.heap.size, 0, none⟩) U U] 24)
                  refine ⟨(HRW.out.ext.trans HX4.out).below.trans k3, V ++ [.slice (some ⟨W3.heap.size, 0, none⟩) U U], by rw [List.length_append, HV.out.1]; rfl, k1, ⟨fun a u ha => ?_⟩, HV.out.2.2.2.snoc fun a u ha => ?_⟩
                  · rcases Nat.lt_or_ge a V.length with h1 | h1
                    · rw [List.getElem?_append_left h1] at ha
                      have h2 := ((HV.out.2.2.1.own a u ha).ext HX4.out).alloc (.cells #[.slice (some ⟨W3.heap.size, 0, none⟩) U U] 24)
                      exact h2.kept k2.grown (h2.types hV1 (by decide))
                    · rw [List.getElem?_append_right h1] at ha
                      have ha0 : a - V.length = 0 := by
                        rcases Nat.eq_zero_or_pos (a - V.length) with h | h
                        · exact h
                        · rw [List.getElem?_eq_none (by simp; omega)] at ha; cases ha
                      rw [ha0] at ha
                      simp at ha
                      subst ha
                      have hak : a = iN := by have := HV.out.1; omega
                      rw [hak]
                      have h2 := HO4.out.alloc (.cells #[.slice (some ⟨W3.heap.size, 0, none⟩) U U] 24)
                      exact (h2.kept k2.grown (h2.types hV1 (by decide))).mono HRW.out.ext.le
                  · have hu0 := HV.out.2.2.1.own a u ha
                    have hne : ∀ g, u.ownBlock = some g → g < W3.heap.size := fun g e' => (hu0.lt g e').2
                    constructor
                    · cases e' : u.ownBlock with
                      | none => exact .inl rfl
                      | some g => exact .inr fun e2 => by simp only [Value.ownBlock, Option.some.injEq] at e2; have := hne g e'; omega
                    · exact .inr fun e2 => by have := hne _ e2.symm; simp at this)
                clear k1 k2 k3 k4 HV HO4 HX4 hle4 hbd
                go_wp2_with fail
                go_roundw
                case rel => exact ⟨iN + 1, v2, rfl, by omega, by go_num, HR6.out⟩
                case measure => simp [intOf]; omega
          · obtain rfl : N = iN := by omega
            obtain ⟨V, hVl, hVo, hVr, hVf⟩ := HRW.out.ex
            obtain ⟨G, cap, rfl⟩ := own_some hVo (by omega)
            rw [hVl] at hVo ⊢
            have hUi : (e : Int) + 1 + (k : Int) + (e : Int) = (U : Int) := by rw [HU.out]; omega
            have HUI := Lib.hid hUi
            have HKE := Lib.hid (kernel_n gt ct G N cap U V (fun i => bwRow e k (xs.getD i 0) (ys.getD i 0)) W2.heap.size W2 W3 HT2.out HRW.out.ext (Nat.le_refl _) HRW.out.ext.le hVo hVr hVf hVl (fun i _ => by rw [bwRow_length, HU.out]) hU0 (by omega) (by omega))
            have HEN : Hid (e = (xs.length - k) / 2) := Lib.hid (by rw [HXS.out]; exact HE.out)
            have HLL : Hid (ys.length = xs.length) := Lib.hid (by rw [HXS.out, HYS.out])
            have hq := fun (w : World) (a : Option Addr) (l c : Nat) => Lib.run_eql_slice_nil (P := Try.prog) w 24 5 a l c 0 0 Try.underlying24
            clear hVl hVo hVr hVf hUi hmk
            go_wp2_with fail
            rw [HUI.out]
            refine HKE.out.mono ?_
            rintro e' W4 ⟨hko, hb⟩
            have HX4 : Hid (Ext W2 W4) := Lib.hid (Below.trans HRW.out.ext hb)
            have hle3 : W2.heap.size ≤ W3.heap.size := HRW.out.ext.le
            have hlew : w.heap.size ≤ W2.heap.size := HX2.out.le
            clear hb HKE
            rcases hko with ⟨g, sv, rfl, hso, hsl, hne, hsol⟩ | ⟨rfl, hnone⟩
            case inr =>
              have HNO : Hid (∀ p, ¬ NearOK k xs ys p) := Lib.hid fun p hp => by
                obtain ⟨s, hs, i, hi, hne⟩ := bw_some HLL.out HEN.out hk hp
                rw [HXS.out, ← HU.out] at hs
                exact hne (hnone s hs i (by rw [HU.out]; exact hi))
              clear hnone
              go_wp2
              go_ret2
              exact ⟨.inr ⟨_, rfl, HNO.out⟩, HX2.out.trans HX4.out⟩
            have HF : Hid (∀ q, NearOK k xs ys q → 0 < dg (sv.take (e + 1)) ∧ DivOK (sv.drop (e + 1)) (sv.take (e + 1)) (Gf.trim q) []) := Lib.hid fun q hq => by
              refine bw_full HND.out HLL.out HEN.out hk hq (by rw [hsl, HU.out]) (by rw [← HU.out]; exact hne) ?_
              rw [HXS.out, ← HU.out]
              exact hsol
            have hxd : Ext W4 W4.drew := (Ext.refl W4).drewN 1
            have hrs := hso.rd.ext hxd
            have hr1 : Rd W4.drew (some ⟨g, e + 1, none⟩) (bs (sv.drop (e + 1))) := by
              have h1 := hrs.cut (k := e + 1) (cap := U) (by rw [bs_length, hsl]; omega) (by rw [bs_length, hsl]; exact Nat.le_refl _)
              rw [if_neg (by omega), ← bs_drop] at h1
              simpa [add_plain] using h1
            have hr2 : Rd W4.drew (some ⟨g, 0, none⟩) (bs (sv.take (e + 1))) := by rw [bs_take]; exact hrs.take _
            have HDV := Lib.hid (refDivide_all (some ⟨g, e + 1, none⟩) (some ⟨g, 0, none⟩) (U - (e + 1)) (e + 1) (U - (e + 1)) U (sv.drop (e + 1)) (sv.take (e + 1)) W4.drew (by rw [List.length_drop, hsl]) (by rw [List.length_take, hsl]; omega) hr1 hr2 (by omega) (by omega))
            have hUd : ¬ (U = e + 1) := by omega
            have hUd2 : ¬ (U ≤ e + 1) := by omega
            have hee : (e : Int) + 1 ≤ (U : Int) := by omega
            have hee2 : e + 1 ≤ U := by omega
            have hwe : IntKind.i64.wrap ((e : Int) + 1) = (e : Int) + 1 := IntWalk.i64_in _ (by omega)
            have hwt : ((e : Int) + 1).toNat = e + 1 := by omega
            have hw0 : (0 : Int) ≤ (e : Int) + 1 := by omega
            clear hso hsl hne hsol hrs hr1 hr2 hxd
            go_wp2_with fail
            refine wp_region_mix (fun i => [0, 0, 0, 0, 0, 0, 0, 0, 1, 3, 3, 3, 3, 3, 3, 3].getD i 0) (fun w' => Ext W4 w') hmo (by kernel_rfl) (by kernel_rfl) ((Ext.refl _).drewN 1) ?_
            refine mix_still (.slice (some ⟨g, 0, none⟩) U U) rfl (fun w' hw' => by go_simp) ?_
            refine mix_still (.int .i64 (e : Int)) rfl (fun w' hw' => by go_simp) ?_
            refine mix_still (.int .i64 ((e : Int) + 1)) rfl (fun w' hw' => by go_simp) ?_
            refine mix_still (.slice (some ⟨g, e + 1, none⟩) (U - (e + 1)) (U - (e + 1))) rfl (fun w' hw' => by go_simp) ?_
            refine mix_still (.slice (some ⟨g, 0, none⟩) U U) rfl (fun w' hw' => by go_simp) ?_
            refine mix_still (.int .i64 (e : Int)) rfl (fun w' hw' => by go_simp) ?_
            refine mix_still (.int .i64 ((e : Int) + 1)) rfl (fun w' hw' => by go_simp) ?_
            refine mix_still (.slice (some ⟨g, 0, none⟩) (e + 1) U) rfl (fun w' hw' => by go_simp) ?_
            refine mix_call 44 #[.slice (some ⟨g, e + 1, none⟩) (U - (e + 1)) (U - (e + 1)), .slice (some ⟨g, 0, none⟩) (e + 1) U] rfl (by go_simp) ?_
            refine HDV.out.mono ?_
            rintro e' W5 ⟨vs, vr, p, r, kk, rfl, hdv, hop, hor, hx5⟩
            have hx5' : Ext W4 W5 := ((Ext.refl W4).drewN 1).trans hx5
            refine ⟨_, rfl, hx5', ?_⟩
            refine mix_pure (.tuple #[vs, vr, .int .i64 kk]) rfl (fun w' => by go_simp) ?_
            refine mix_pure vs rfl (fun w' => by go_simp) ?_
            refine mix_pure vr rfl (fun w' => by go_simp) ?_
            refine mix_pure (.int .i64 kk) rfl (fun w' => by go_simp) ?_
            refine mix_pure vs rfl (fun w' => by go_simp) ?_
            refine mix_pure vr rfl (fun w' => by go_simp) ?_
            refine mix_pure (.int .i64 kk) rfl (fun w' => by go_simp) ?_
            refine mix_nil ?_
            obtain ⟨Ap, cp, rfl, hrp, hcp, hmp⟩ := hop.bytesN rfl
            obtain ⟨Ar, cr, rfl, -, -, -⟩ := hor.bytesN rfl
            have HOP : Hid (Own W5 w.heap.size 5 (.slice Ap p.length cp) (bs p)) := Lib.hid (hop.mono (Nat.le_trans hlew (HX4.out.le)))
            have HRP := Lib.hid hrp
            have HX5 : Hid (Ext W2 W5) := Lib.hid (HX4.out.trans hx5')
            clear hop hor hx5 hx5' hrp HDV hwe hwt hw0 hUd hUd2 hee hee2
            rcases hdv with ⟨h0, -, -, rfl⟩ | ⟨h0, hd, rfl⟩
            · have HNO : Hid (∀ q, ¬ NearOK k xs ys q) := Lib.hid fun q hq => by have := (HF.out q hq).1; omega
              clear h0
              go_wp2_with fail
              refine bodyPost_ret (results_tmp2 rfl _ _ _) rfl ?_
              refine ⟨.inr ⟨.slice none 0 0, ?_, HNO.out⟩, HX2.out.trans HX5.out⟩
              first | (with_reducible rfl) | (simp; done) | go_simp
            · have HUQ : Hid (∀ q, NearOK k xs ys q → p = Gf.trim q ∧ r = []) := Lib.hid fun q hq => hd.uniq (HF.out q hq).2
              clear hd h0
              by_cases hr0 : r.length = 0
              · have hr0i : ((r.length : Int) != 0) = false := by rw [bne_eq_false_iff_eq]; omega
                by_cases hpk : p.length ≤ k
                · have hpd : decide ((k : Int) < (p.length : Int)) = false := decide_eq_false (by omega)
                  have HRX5 := Lib.hid (HRX2.out.ext HX5.out)
                  have HRY5 := Lib.hid (HRY2.out.ext HX5.out)
                  have HT5 := Lib.hid (HT2.out.ext HX5.out)
                  have HXW5 := Lib.hid (HX2.out.trans HX5.out)
                  have hcl : ∀ i, cntTo p xs ys i ≤ i := cntTo_le p xs ys
                  have HCL := Lib.hid hcl
                  clear hr0 hcl hq
                  go_wp2_with fail
                  go_simp
                  go_loopw [24, 25] (fun c i wr => ∃ iN : Nat, iN ≤ N ∧ i = .int .i64 iN ∧ c = .int .i64 ((cntTo p xs ys iN : Nat) : Int) ∧ Ext W5 wr) (fun _ i _ => N - (intOf i).toNat)
                  case atStart => exact ⟨0, by omega, rfl, rfl, Ext.refl _⟩
                  case round =>
                    obtain ⟨W6, rfl⟩ : ∃ W, W = wr := ⟨_, rfl⟩
                    obtain ⟨iN, hi, rfl, rfl, hx6⟩ := hrel
                    have hcb := HCL.out iN
                    obtain ⟨cN, hcN⟩ : ∃ c, c = cntTo p xs ys iN := ⟨_, rfl⟩
                    rw [← hcN] at hcb ⊢
                    have HCN := Lib.hid hcN
                    clear hcN
                    by_cases hlt : iN < N
                    · have hix : iN < xs.length := by rw [HXS.out]; exact hlt
                      have hiy : iN < ys.length := by rw [HYS.out]; exact hlt
                      obtain ⟨adx, hadx, c1⟩ := (HRX5.out.ext hx6).at_ (bs_get xs iN hix)
                      injection hadx with hadx
                      subst hadx
                      rw [add_plain] at c1
                      obtain ⟨ady, hady, c2⟩ := (HRY5.out.ext hx6).at_ (bs_get ys iN hiy)
                      injection hady with hady
                      subst hady
                      rw [add_plain] at c2
                      have HA := Lib.hid (fun nn : Nat => at5_n gt ct Ap p.length p cp xs[iN] (W6.drewN nn) ((HT5.out.ext hx6).ext ((Ext.refl W6).drewN nn)) rfl ((HRP.out.ext hx6).drewN nn) (by omega))
                      have hl1 := (xs[iN]).lt
                      have hl2 := (ys[iN]).lt
                      have hl3 := (evL p xs[iN]).lt
                      have HX6 := Lib.hid hx6
                      clear hx6
                      by_cases he : evL p xs[iN] = ys[iN]
                      · have hb : (((evL p xs[iN]).val : Int) != ((ys[iN]).val : Int)) = false := by rw [he]; simp
                        have HCN2 : Hid (cN = cntTo p xs ys (iN + 1)) := Lib.hid (by rw [cntTo, getD_at hix, getD_at hiy, if_pos he, Nat.add_zero]; exact HCN.out)
                        clear he
                        go_wp2_with fail
                        go_quiet ((go_at_call 121; with_reducible exact quiet_left (HA.out _)))
                        have HX7 := Lib.hid (HX6.out.drewN (w := W6) nq)
                        clear c1 c2 HA
                        go_wp2_with fail
                        go_roundw
                        case rel => exact ⟨iN + 1, by omega, by go_num, by rw [← HCN2.out], HX7.out⟩
                        case measure => simp [intOf]; omega
                      · have hb : (((evL p xs[iN]).val : Int) != ((ys[iN]).val : Int)) = true := by
                          rw [bne_iff_ne]
                          intro e'
                          exact he (E.ext (by omega))
                        have HCN2 : Hid (cN + 1 = cntTo p xs ys (iN + 1)) := Lib.hid (by rw [cntTo, getD_at hix, getD_at hiy, if_neg he, HCN.out])
                        clear he
                        go_wp2_with fail
                        go_quiet ((go_at_call 121; with_reducible exact quiet_left (HA.out _)))
                        have HX7 := Lib.hid (HX6.out.drewN (w := W6) nq)
                        clear c1 c2 HA
                        go_wp2_with fail
                        go_roundw
                        case rel => exact ⟨iN + 1, by omega, by go_num, by rw [← HCN2.out]; go_num, HX7.out⟩
                        case measure => simp [intOf]; omega
                    · obtain rfl : N = iN := by omega
                      have hcw : cN = (wrongs p xs ys).length := by
                        rw [HCN.out]
                        have := cntTo_all (p := p) HLL.out
                        rwa [HXS.out] at this
                      have HX6 := Lib.hid hx6
                      have HCW := Lib.hid hcw
                      clear hx6 hcw
                      by_cases hce : cN ≤ e
                      · have hcd : decide ((cN : Int) ≤ (e : Int)) = true := decide_eq_true (by omega)
                        have HNR : Hid (NearOK k xs ys p) := Lib.hid ⟨Nat.le_trans (dg_le p) hpk, by rw [← HCW.out, HXS.out]; have := HE.out; omega⟩
                        go_wp2_with fail
                        go_ret2
                        exact ⟨.inl ⟨_, p, rfl, HNR.out, hpk, HOP.out.ext HX6.out⟩, HXW5.out.trans HX6.out⟩
                      · have hcd : decide ((cN : Int) ≤ (e : Int)) = false := decide_eq_false (by omega)
                        have HNO : Hid (∀ q, ¬ NearOK k xs ys q) := Lib.hid fun q hq => by
                          have h1 := hq.few
                          have h2 : wrongs p xs ys = wrongs q xs ys := wrongs_congr fun x => by rw [(HUQ.out q hq).1, evL_trim]
                          rw [← h2, ← HCW.out, HXS.out] at h1
                          have := HE.out
                          omega
                        go_wp2_with fail
                        go_ret2
                        exact ⟨.inr ⟨_, rfl, HNO.out⟩, HXW5.out.trans HX6.out⟩
                · have hpd : decide ((k : Int) < (p.length : Int)) = true := decide_eq_true (by omega)
                  have HNO : Hid (∀ q, ¬ NearOK k xs ys q) := Lib.hid fun q hq => by
                    have h1 := (HUQ.out q hq).1
                    rw [h1, trim_length] at hpk
                    exact hpk hq.len
                  clear hr0 hq
                  go_wp2_with fail
                  refine bodyPost_ret (results_tmp2 rfl _ _ _) rfl ?_
                  refine ⟨.inr ⟨.slice none 0 0, ?_, HNO.out⟩, HX2.out.trans HX5.out⟩
                  first | (with_reducible rfl) | (simp; done) | go_simp
              · have hr0i : ((r.length : Int) != 0) = true := by rw [bne_iff_ne]; omega
                have HNO : Hid (∀ q, ¬ NearOK k xs ys q) := Lib.hid fun q hq => by
                  have h1 := (HUQ.out q hq).2
                  rw [h1] at hr0
                  exact hr0 rfl
                clear hq
                go_wp2_with fail
                refine bodyPost_ret (results_tmp2 rfl _ _ _) rfl ?_
                refine ⟨.inr ⟨.slice none 0 0, ?_, HNO.out⟩, HX2.out.trans HX5.out⟩
                first | (with_reducible rfl) | (simp; done) | go_simp
end Go.Proofs.Ytemnlcfabaocbaa
