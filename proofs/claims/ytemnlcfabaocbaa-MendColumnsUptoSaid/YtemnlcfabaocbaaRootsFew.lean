/-
  Roots are linear divisors; no more roots than the degree; the product over points; the polynomial through points.
-/
import Derived.Test.YtemnlcfabaocbaaPolyList
namespace Go.Proofs.Ytemnlcfabaocbaa.Gf
open S

/-- Division by x + a: what the quotient is. -/
def syn (a : E) : List E → List E
  | [] => []
  | _ :: t => evL t a :: syn a t
theorem lin_mul (a : E) (f : S) : mul (ser [a, 1]) f = add (smul a f) (sh f) := by
  rw [mul_split (ser [a, 1]) f]
  have h0 : ser [a, 1] 0 = a := rfl
  have h1 : tail (ser [a, 1]) = one := funext fun i => by cases i <;> rfl
  rw [h0, h1, one_mul]
theorem syn_ok (a : E) : ∀ l : List E, add (ser l) (smul (evL l a) one) = mul (ser [a, 1]) (ser (syn a l))
  | [] => by rw [lin_mul, ser_nil, evL_nil, syn, ser_nil, smul_zero, sh_zero, zero_smul]
  | c :: t => by
    have ih := syn_ok a t
    rw [lin_mul] at ih ⊢
    funext i
    cases i with
    | zero =>
      simp only [add, smul, sh, syn, ser_cons_zero, evL_cons, one]
      rw [E.mul_one, E.add_zero, ← E.add_assoc, E.add_self, E.zero_add]
    | succ i =>
      have h := congrFun ih i
      simp only [add, smul, sh, syn] at h ⊢
      have e1 : ser (c :: t) (i + 1) = ser t i := congrFun (ser_tail c t) i
      have e2 : ser (evL t a :: syn a t) (i + 1) = ser (syn a t) i := congrFun (ser_tail _ _) i
      rw [e1, e2]
      cases i with
      | zero =>
        have e3 : ser (evL t a :: syn a t) 0 = evL t a := rfl
        rw [e3]
        simp only [one, E.mul_one] at h ⊢
        rw [E.mul_zero, E.add_zero]
        rw [E.add_zero] at h
        rw [← h, E.add_assoc, E.add_self, E.add_zero]
      | succ i =>
        have e3 : ser (evL t a :: syn a t) (i + 1) = ser (syn a t) i := congrFun (ser_tail _ _) i
        rw [e3]
        simpa [one, E.mul_zero, E.add_zero, sh] using h
theorem syn_dlt (a : E) : ∀ (l : List E) (n : Nat), Dlt (ser l) (n + 1) → Dlt (ser (syn a l)) n
  | [], _, _ => fun i _ => by rw [syn, ser_nil]; rfl
  | c :: t, n, h => by
    have ht : Dlt (ser t) n := fun i hi => by rw [← ser_tail c t]; exact h (i + 1) (by omega)
    cases n with
    | zero =>
      have hz : ser t = zero := ht.zero
      have e0 : evL t a = 0 := by rw [evL_ser (b := []) (by rw [hz, ser_nil]), evL_nil]
      have := syn_dlt' a t hz
      intro i _
      cases i with
      | zero => rw [syn, e0]; rfl
      | succ i => rw [syn]; rw [show ser (evL t a :: syn a t) (i + 1) = ser (syn a t) i from congrFun (ser_tail _ _) i, this]; rfl
    | succ n =>
      have ih := syn_dlt a t n ht
      intro i hi
      cases i with
      | zero => omega
      | succ i => rw [syn, show ser (evL t a :: syn a t) (i + 1) = ser (syn a t) i from congrFun (ser_tail _ _) i]; exact ih i (by omega)
where
  syn_dlt' (a : E) : ∀ t : List E, ser t = zero → ser (syn a t) = zero
    | [], _ => ser_nil
    | c :: t, h => by
      have ht : ser t = zero := by rw [← ser_tail c t, h]; rfl
      have e0 : evL t a = 0 := by rw [evL_ser (b := []) (by rw [ht, ser_nil]), evL_nil]
      funext i
      cases i with
      | zero => rw [syn, e0]; rfl
      | succ i => rw [syn, show ser (evL t a :: syn a t) (i + 1) = ser (syn a t) i from congrFun (ser_tail _ _) i, syn_dlt' a t ht]; rfl
theorem evL_lin (a x : E) : evL [a, 1] x = a + x := by
  simp [evL_cons, evL_nil, E.mul_zero, E.add_zero, E.mul_one]
/-- A root splits off. -/
theorem root_split {l : List E} {a : E} (h : evL l a = 0) : ser l = mul (ser [a, 1]) (ser (syn a l)) := by
  have := syn_ok a l
  rwa [h, zero_smul, add_zero] at this
theorem evL_mulS {l g : List E} {a : E} (h : ser l = mul (ser [a, 1]) (ser g)) (x : E) : evL l x = (a + x) * evL g x := by
  rw [← evL_lin, ← evL_times]
  exact evL_ser (by rw [h, ser_timesL]) x
/-- No more roots than the degree. -/
theorem few_roots : ∀ (n : Nat) (l : List E) (xs : List E), Dlt (ser l) n → xs.Nodup → n ≤ xs.length → (∀ x ∈ xs, evL l x = 0) → ser l = zero
  | 0, l, _, h, _, _, _ => h.zero
  | n + 1, l, [], _, _, hl, _ => by simp at hl
  | n + 1, l, a :: xs, h, hn, hl, hr => by
    have hs := root_split (hr a (List.mem_cons_self ..))
    have hz := few_roots n (syn a l) xs (syn_dlt a l n h) (List.nodup_cons.1 hn).2 (by simpa using hl) (fun x hx => by
      have h0 := hr x (List.mem_cons_of_mem _ hx)
      rw [evL_mulS hs] at h0
      rcases E.mul_eq_zero.1 h0 with h1 | h1
      · have : a = x := E.add_eq_zero.1 h1
        subst this
        exact absurd hx (List.nodup_cons.1 hn).1
      · exact h1)
    rw [hs, hz, mul_zero]

theorem snocInd {P : List E → Prop} (h0 : P []) (h1 : ∀ l a, P l → P (l ++ [a])) (l : List E) : P l := by
  have key : ∀ n, ∀ l : List E, l.length = n → P l := by
    intro n
    induction n with
    | zero => intro l hl; rw [List.eq_nil_of_length_eq_zero hl]; exact h0
    | succ n ih =>
      intro l hl
      obtain ⟨ps, a, rfl⟩ := (List.eq_nil_or_concat l).resolve_left (by rintro rfl; simp at hl)
      rw [List.concat_eq_append]
      exact h1 ps a (ih ps (by simpa using hl))
  exact key _ l rfl
/-! The product over points. -/
def vanishL (pts : List E) : List E := pts.foldl (fun o a => timesL o [a, 1]) [1]
theorem vanishL_snoc (pts : List E) (a : E) : vanishL (pts ++ [a]) = timesL (vanishL pts) [a, 1] := by simp [vanishL]
theorem vanishL_take (pts : List E) (k : Nat) (h : k < pts.length) : vanishL (pts.take (k + 1)) = timesL (vanishL (pts.take k)) [pts[k], 1] := by
  rw [List.take_succ_eq_append_getElem h, vanishL_snoc]
/-- Its length and its last coefficient. -/
theorem timesL_lin {l : List E} {n : Nat} (a : E) (h : Dlt (ser l) (n + 1)) : Dlt (ser (timesL l [a, 1])) (n + 2) := by
  rw [ser_timesL]
  exact Dlt.mulN (m := n + 1) (n := 1) h (by exact dlt_ser [a, 1])
theorem timesL_lin_len {l : List E} {n : Nat} (a : E) (h : l.length ≤ n + 1) : (timesL l [a, 1]).length ≤ n + 2 := by
  have := dg_min (timesL_lin a ((dlt_ser l).mono h))
  have h2 := (trimmed_timesL l [a, 1]).dg
  omega
theorem vanish_deg : ∀ (k : Nat) (pts : List E), pts.length = k → Dlt (ser (vanishL pts)) (k + 1) ∧ ser (vanishL pts) k = 1
  | 0, pts, h => by
    obtain rfl : pts = [] := List.eq_nil_of_length_eq_zero h
    exact ⟨dlt_ser [1], rfl⟩
  | k + 1, pts, h => by
    obtain ⟨ps, a, rfl⟩ : ∃ ps a, pts = ps ++ [a] := by
      obtain ⟨l, b, e⟩ := (List.eq_nil_or_concat pts).resolve_left (by rintro rfl; simp at h)
      exact ⟨l, b, by rw [e, List.concat_eq_append]⟩
    obtain ⟨h1, h2⟩ := vanish_deg k ps (by simpa using h)
    rw [vanishL_snoc]
    refine ⟨timesL_lin a h1, ?_⟩
    rw [ser_timesL]
    have h3 : mul (ser (vanishL ps)) (ser [a, 1]) (k + 1) = ser (vanishL ps) k * ser [a, 1] 1 := lead_mul h1 (dlt_ser [a, 1])
    rw [h3, h2, E.one_mul]
    rfl
theorem vanish_dg (pts : List E) : dg (vanishL pts) = pts.length + 1 := by
  obtain ⟨h1, h2⟩ := vanish_deg _ pts rfl
  exact dg_eq h1 (fun _ => by rw [Nat.add_sub_cancel, h2]; exact E.one_ne_zero)
theorem trimmed_vanish (pts : List E) : Trimmed (vanishL pts) := by
  rcases List.eq_nil_or_concat pts with rfl | ⟨ps, a, rfl⟩
  · exact trimmed_of fun _ => E.one_ne_zero
  · rw [List.concat_eq_append, vanishL_snoc]; exact trimmed_timesL _ _
theorem vanish_length (pts : List E) : (vanishL pts).length = pts.length + 1 := by
  rw [← (trimmed_vanish pts).dg, vanish_dg]
theorem vanish_ev (pts : List E) (x : E) : evL (vanishL pts) x = 0 ↔ x ∈ pts := by
  induction pts using snocInd with
  | h0 => simp [vanishL, evL_cons, evL_nil, E.mul_zero, E.add_zero]; exact E.one_ne_zero
  | h1 ps a ih =>
    rw [vanishL_snoc, evL_times, evL_lin, E.mul_eq_zero, ih, E.add_eq_zero, List.mem_append, List.mem_singleton]
    exact ⟨fun h => h.imp id Eq.symm, fun h => h.imp id Eq.symm⟩

/-! The polynomial through points. -/
structure ThOK (pts vals t : List E) : Prop where
  tt : Trimmed t
  len : t.length ≤ pts.length
  at_ : ∀ i (h : i < pts.length) (h' : i < vals.length), evL t pts[i] = vals[i]
theorem ThOK.uniq {pts vals t t' : List E} (hn : pts.Nodup) (hl : pts.length = vals.length) (h : ThOK pts vals t) (h' : ThOK pts vals t') : t = t' := by
  refine h.tt.eq h'.tt (add_eq_zero ?_)
  rw [← ser_plusL]
  refine few_roots pts.length (plusL t t') pts ?_ hn (Nat.le_refl _) ?_
  · rw [ser_plusL]
    exact ((dlt_ser t).mono h.len).add ((dlt_ser t').mono h'.len)
  · intro x hx
    obtain ⟨i, hi, rfl⟩ := List.getElem_of_mem hx
    rw [evL_plus, h.at_ i hi (by omega), h'.at_ i hi (by omega), E.add_self]
theorem th_nil (vals : List E) : ThOK [] vals [] := ⟨trimmed_nil, Nat.le_refl _, fun i h => absurd h (by simp)⟩
/-- One point more. -/
theorem th_step {pts vals t : List E} {k : Nat} {c : E} (hk : k < pts.length) (hk' : k < vals.length) (h : ThOK (pts.take k) (vals.take k) t) (hc : c * evL (vanishL (pts.take k)) pts[k] = vals[k] + evL t pts[k]) :
    ThOK (pts.take (k + 1)) (vals.take (k + 1)) (plusL t (scaleL (vanishL (pts.take k)) c)) := by
  have hl1 : (pts.take k).length = k := by rw [List.length_take]; omega
  refine ⟨trimmed_plusL _ _, ?_, ?_⟩
  · have hD : Dlt (ser (plusL t (scaleL (vanishL (pts.take k)) c))) (k + 1) := by
      rw [ser_plusL, ser_scaleL]
      refine ((dlt_ser t).mono (by have := h.len; omega)).add (Dlt.smul ?_ c)
      have := (vanish_deg _ (pts.take k) rfl).1
      rwa [hl1] at this
    have := dg_min hD
    have h2 := (trimmed_plusL t (scaleL (vanishL (pts.take k)) c)).dg
    rw [List.length_take]
    omega
  · intro i hi hi'
    rw [List.length_take] at hi hi'
    rw [List.getElem_take, List.getElem_take, evL_plus, evL_scale]
    rcases Nat.lt_or_ge i k with h1 | h1
    · have h2 := h.at_ i (by rw [hl1]; exact h1) (by rw [List.length_take]; omega)
      rw [List.getElem_take, List.getElem_take] at h2
      have h3 : evL (vanishL (pts.take k)) pts[i] = 0 := (vanish_ev _ _).2 (by
        have : (pts.take k)[i]'(by rw [hl1]; exact h1) = pts[i] := List.getElem_take
        rw [← this]; exact List.getElem_mem _)
      rw [h2, h3, E.mul_zero, E.add_zero]
    · obtain rfl : i = k := by omega
      rw [hc, E.add_left_comm, E.add_self, E.add_zero]
theorem nodup_take {pts : List E} {k : Nat} (hk : k < pts.length) (h : (pts.take k).Nodup) : (pts.take (k + 1)).Nodup ↔ pts[k] ∉ pts.take k := by
  rw [List.take_succ_eq_append_getElem hk, List.nodup_append]
  constructor
  · intro h2 h3; exact h2.2.2 _ h3 _ (List.mem_singleton.2 rfl) rfl
  · intro h2; exact ⟨h, by simp, fun a ha b hb e => by rw [List.mem_singleton] at hb; subst hb; subst e; exact h2 ha⟩
end Go.Proofs.Ytemnlcfabaocbaa.Gf
