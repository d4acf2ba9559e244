/-
  The code word that is near: it is just one; Euclid's row finds it.
-/
import Derived.Test.YtemnlcfabaocbaaBez
import Derived.Test.YtemnlcfabaocbaaRootsMore
namespace Go.Proofs.Ytemnlcfabaocbaa
open Go.RowKit Gf
set_option linter.unusedVariables false

/-- The places where a polynomial has not the value. -/
def wrongs (p : List E) (xs ys : List E) : List E := ((xs.zip ys).filter (fun z => !decide (evL p z.1 = z.2))).map Prod.fst
def rights (p : List E) (xs ys : List E) : List E := ((xs.zip ys).filter (fun z => decide (evL p z.1 = z.2))).map Prod.fst
structure NearOK (k : Nat) (xs ys p : List E) : Prop where
  len : Gf.dg p ≤ k
  few : 2 * (wrongs p xs ys).length + k ≤ xs.length
theorem filter_split {α : Type} (f : α → Bool) (l : List α) : (l.filter f).length + (l.filter (fun x => !f x)).length = l.length := by
  induction l with
  | nil => rfl
  | cons a l ih =>
    simp only [List.filter_cons]
    cases f a <;> simp <;> omega
theorem zip_fst {xs ys : List E} (h : ys.length = xs.length) : (xs.zip ys).map Prod.fst = xs := List.map_fst_zip (by omega)
theorem wrongs_rights {p xs ys : List E} (h : ys.length = xs.length) : (rights p xs ys).length + (wrongs p xs ys).length = xs.length := by
  have := filter_split (fun z : E × E => decide (evL p z.1 = z.2)) (xs.zip ys)
  rw [List.length_zip, h, Nat.min_self] at this
  simpa [rights, wrongs] using this
theorem zip_nodup {xs ys : List E} (hn : xs.Nodup) (h : ys.length = xs.length) (f : E × E → Bool) : (((xs.zip ys).filter f).map Prod.fst).Nodup :=
  List.Nodup.sublist ((List.filter_sublist (p := f)).map Prod.fst) (by rw [zip_fst h]; exact hn)
theorem mem_wrongs {p xs ys : List E} (h : ys.length = xs.length) {x : E} : x ∈ wrongs p xs ys ↔ ∃ (i : Nat) (hi : i < xs.length), xs[i] = x ∧ evL p xs[i] ≠ ys[i] := by
  simp only [wrongs, List.mem_map, List.mem_filter]
  constructor
  · rintro ⟨⟨a, b⟩, ⟨hz, hf⟩, rfl⟩
    obtain ⟨i, hi, e⟩ := List.getElem_of_mem hz
    rw [List.length_zip, h, Nat.min_self] at hi
    rw [List.getElem_zip] at e
    injection e with e1 e2
    refine ⟨i, hi, e1, ?_⟩
    rw [e1, e2]
    simpa using hf
  · rintro ⟨i, hi, rfl, hne⟩
    refine ⟨(xs[i], ys[i]), ⟨?_, by simpa using hne⟩, rfl⟩
    have hz : i < (xs.zip ys).length := by rw [List.length_zip, h, Nat.min_self]; exact hi
    have := List.getElem_mem hz
    rwa [List.getElem_zip] at this
theorem right_of {p xs ys : List E} (h : ys.length = xs.length) {i : Nat} (hi : i < xs.length) (hw : xs[i] ∉ wrongs p xs ys) : evL p xs[i] = ys[i] := by
  rcases Decidable.em (evL p xs[i] = ys[i]) with e | e
  · exact e
  · exact absurd ((mem_wrongs h).2 ⟨i, hi, rfl, e⟩) hw
theorem wrongs_le {p xs ys : List E} (hn : xs.Nodup) (h : ys.length = xs.length) {l : List E} (hl : ∀ i (hi : i < xs.length), evL p xs[i] ≠ ys[i] → xs[i] ∈ l) : (wrongs p xs ys).length ≤ l.length :=
  nodup_len (zip_nodup hn h _) fun x hx => by
    obtain ⟨i, hi, rfl, hne⟩ := (mem_wrongs h).1 hx
    exact hl i hi hne
theorem wrongs_congr {p q xs ys : List E} (e : ∀ x, evL p x = evL q x) : wrongs p xs ys = wrongs q xs ys := by
  unfold wrongs
  simp only [e]
theorem NearOK.trim {k : Nat} {xs ys p : List E} (h : NearOK k xs ys p) : NearOK k xs ys (trim p) :=
  ⟨by rw [dg_trim]; exact h.len, by rw [wrongs_congr (fun x => evL_trim p x)]; exact h.few⟩
/-- Just one is near. -/
theorem NearOK.uniq {k : Nat} {xs ys p q : List E} (hn : xs.Nodup) (h : ys.length = xs.length) (hp : NearOK k xs ys p) (hq : NearOK k xs ys q) : ser p = ser q := by
  refine S.add_eq_zero ?_
  rw [← ser_plusL]
  let f : E × E → Bool := fun z => decide (evL p z.1 = z.2) && decide (evL q z.1 = z.2)
  refine few_roots k (plusL p q) (((xs.zip ys).filter f).map Prod.fst) ?_ (zip_nodup hn h f) ?_ ?_
  · rw [ser_plusL]
    exact ((dg_dlt p).mono hp.len).add ((dg_dlt q).mono hq.len)
  · have h1 := wrongs_rights (p := p) h
    have h2 := wrongs_rights (p := q) h
    have h3 := hp.few
    have h4 := hq.few
    have key : ∀ l : List (E × E), (l.filter f).length + (l.filter (fun z => !decide (evL p z.1 = z.2))).length + (l.filter (fun z => !decide (evL q z.1 = z.2))).length ≥ l.length := by
      intro l
      induction l with
      | nil => simp
      | cons a l ih =>
        simp only [List.filter_cons, f]
        by_cases e1 : evL p a.1 = a.2 <;> by_cases e2 : evL q a.1 = a.2 <;> simp [e1, e2] <;> simp only [f] at ih <;> omega
    have h5 := key (xs.zip ys)
    rw [List.length_zip, h, Nat.min_self] at h5
    simp only [wrongs, List.length_map] at h3 h4 ⊢
    omega
  · intro x hx
    obtain ⟨z, hz, rfl⟩ := List.mem_map.1 hx
    have := (List.mem_filter.1 hz).2
    simp only [f, Bool.and_eq_true, decide_eq_true_eq] at this
    rw [evL_plus, this.1, this.2, E.add_self]
theorem NearOK.same {k : Nat} {xs ys p q : List E} (hn : xs.Nodup) (h : ys.length = xs.length) (hp : NearOK k xs ys p) (hq : NearOK k xs ys q) (x : E) : evL p x = evL q x := evL_ser (NearOK.uniq hn h hp hq) x
/-- What goes through all of them is near. -/
theorem near_straight {k : Nat} {xs ys p : List E} (hl : Gf.dg p ≤ k) (hk : k ≤ xs.length) (h : ys.length = xs.length) (ha : ∀ i (hi : i < xs.length), evL p xs[i] = ys[i]) : NearOK k xs ys p := by
  refine ⟨hl, ?_⟩
  have : wrongs p xs ys = [] := by
    rw [List.eq_nil_iff_forall_not_mem]
    intro x hx
    obtain ⟨i, hi, -, hne⟩ := (mem_wrongs h).1 hx
    exact hne (ha i hi)
  rw [this]; simpa using hk

/-! ### Euclid's row -/
theorem dg_plus_left {p q : List E} (h : dg q < dg p) : dg (plusL p q) = dg p := by
  refine dg_eq ?_ fun hne => ?_
  · rw [ser_plusL]
    exact (dg_dlt p).add ((dg_dlt q).mono (by omega))
  · rw [ser_plusL]
    show ser p (dg p - 1) + ser q (dg p - 1) ≠ 0
    rw [dg_dlt q (dg p - 1) (by omega), E.add_zero]
    exact dg_last p hne
theorem DivOK.ds {p q s r : List E} (h : DivOK p q s r) (hpq : dg q ≤ dg p) : dg s + dg q = dg p + 1 := by
  have hq : 0 < dg q := by have := h.lt; omega
  have hr := dg_le r
  have hlt := h.lt
  have hs : 0 < dg s := by
    rcases Nat.eq_zero_or_pos (dg s) with h0 | h0
    · have h1 := dg_eq_zero.1 h0
      have h2 := h.eq
      rw [h1, S.zero_mul, S.add_zero] at h2
      have := dg_ser h2
      omega
    · exact h0
  have ht := dg_times (p := s) (q := q) (d := dg s - 1) (e := dg q - 1) (by omega) (by omega)
  have h3 : dg (plusL (timesL s q) r) = dg p := dg_ser (by rw [ser_plusL, ser_timesL, S.add_comm, h.eq])
  rw [dg_plus_left (by omega)] at h3
  omega
theorem RowN.prev {p q : List E} : ∀ (n : Nat) (r : Row), RowN p q (n + 1) r → ∃ a, RowN p q n a
  | 0, r, h => ⟨_, rfl⟩
  | n + 1, r, ⟨a, b, s, ha, hb, _⟩ => ⟨b, hb⟩
/-- The degrees of the multipliers. -/
theorem RowN.deg {p q : List E} (hpq : dg q < dg p) : ∀ (n : Nat) (a b : Row), RowN p q n a → RowN p q (n + 1) b → dg b.v + dg a.g = dg p + 1 ∧ dg a.v < dg b.v ∧ dg b.g < dg a.g
  | 0, a, b, ha, hb => by
    rw [show a = _ from ha, show b = _ from hb]
    have h1 : dg [1] = 1 := by decide +kernel
    refine ⟨?_, ?_, ?_⟩
    · show dg [1] + dg (Gf.trim p) = _
      rw [h1, dg_trim]; omega
    · show dg [] < dg [1]
      rw [h1]; exact Nat.one_pos
    · show dg (Gf.trim q) < dg (Gf.trim p)
      rw [dg_trim, dg_trim]; exact hpq
  | n + 1, b, c, hb, ⟨a, b', s, ha, hb', hd, hu, hv⟩ => by
    obtain rfl := RowN.uniq _ _ _ hb hb'
    obtain ⟨h1, h2, h3⟩ := RowN.deg hpq n a b ha hb
    have h4 := hd.ds (by omega)
    have h5 := hd.lt
    have h6 := dg_le c.g
    have hvb : dg (timesL s b.v) = dg s + dg b.v - 1 := by
      have := dg_times (p := s) (q := b.v) (d := dg s - 1) (e := dg b.v - 1) (by omega) (by omega)
      omega
    have h7 : dg c.v = dg (timesL s b.v) := by rw [hv, plusL_comm, dg_plus_left (by omega)]
    refine ⟨by omega, by omega, by omega⟩
theorem roots_bound {v l : List E} (hv : 0 < dg v) (hn : l.Nodup) (hl : ∀ x ∈ l, evL v x = 0) : l.length + 1 ≤ dg v := by
  have h1 := nodup_len hn fun x hx => (mem_roots v x).2 (hl x hx)
  have h2 := roots_few (p := v) (d := dg v - 1) (by omega)
  omega
section
variable {k K : Nat} {xs ys T s rr : List E} {r : Row} {e : Int}
/-- What is known of the row at which Euclid's algorithm is ended. -/
theorem gao_row (hk : k < xs.length) (hT : ThOK xs ys T) (hK : K = (xs.length + k + 1) / 2) (hr : PartRes (vanishL xs) T K r) :
    0 < dg r.v ∧ dg r.v + K ≤ xs.length + 1 ∧ dg r.g ≤ K ∧ ser r.g = S.add (S.mul (ser r.u) (ser (vanishL xs))) (S.mul (ser r.v) (ser T)) := by
  obtain ⟨n, h1, h2, h3⟩ := hr
  have hv := vanish_dg xs
  have hTl := hT.len
  have hdT : dg T < dg (vanishL xs) := by have := dg_le T; omega
  obtain ⟨-, -, hm⟩ := RowN.made n r h1
  have hg := dg_le r.g
  match n, h1, h3 with
  | 0, h1, _ =>
    exfalso
    rw [show r = _ from h1] at h2
    rw [show Gf.trim (vanishL xs) = vanishL xs from trimmed_vanish xs, vanish_length] at h2
    omega
  | n + 1, h1, h3 =>
    obtain ⟨a, ha⟩ := RowN.prev n r h1
    obtain ⟨g1, g2, g3⟩ := RowN.deg hdT n a r ha h1
    have h4 := h3 n (by omega) a ha
    have h5 := (RowN.tr n a ha).dg
    rw [hv] at g1
    exact ⟨by omega, by omega, by omega, hm⟩
theorem gao_ev (hT : ThOK xs ys T) (hl : ys.length = xs.length) (hm : ser r.g = S.add (S.mul (ser r.u) (ser (vanishL xs))) (S.mul (ser r.v) (ser T))) (i : Nat) (hi : i < xs.length) : evL r.g xs[i] = evL r.v xs[i] * ys[i] := by
  have h1 : ser r.g = ser (plusL (timesL r.u (vanishL xs)) (timesL r.v T)) := by rw [ser_plusL, ser_timesL, ser_timesL]; exact hm
  rw [evL_ser h1, evL_plus, evL_times, evL_times, (vanish_ev xs _).2 (List.getElem_mem hi), E.mul_zero, E.zero_add, hT.at_ i hi (by omega)]
/-- What the division answers is near. -/
theorem gao_sound (hn : xs.Nodup) (hl : ys.length = xs.length) (hk : k < xs.length) (hT : ThOK xs ys T) (hK : K = (xs.length + k + 1) / 2) (hr : PartRes (vanishL xs) T K r) (hd : DivOK r.g r.v s []) (hs : s.length ≤ k) : NearOK k xs ys s := by
  obtain ⟨h0, h1, h2, hm⟩ := gao_row hk hT hK hr
  refine ⟨Nat.le_trans (dg_le s) hs, ?_⟩
  have hw : (wrongs s xs ys).length + 1 ≤ dg r.v := roots_bound h0 (zip_nodup hn hl _) fun x hx => by
    obtain ⟨i, hi, rfl, hne⟩ := (mem_wrongs hl).1 hx
    have h3 := gao_ev hT hl hm i hi
    have h4 : evL r.g xs[i] = evL s xs[i] * evL r.v xs[i] := by
      rw [← evL_times]
      exact evL_ser (by rw [ser_timesL, ← hd.eq, ser_nil, S.zero_add]) _
    rw [h4, E.mul_comm] at h3
    have h5 : evL r.v xs[i] * (evL s xs[i] + ys[i]) = 0 := by rw [E.mul_add, h3, E.add_self]
    rcases E.mul_eq_zero.1 h5 with h6 | h6
    · exact h6
    · exact absurd (E.add_eq_zero.1 h6) hne
  omega
/-- Where one is near, the division finds it. -/
theorem gao_full (hn : xs.Nodup) (hl : ys.length = xs.length) (hk1 : 1 ≤ k) (hk : k < xs.length) (hT : ThOK xs ys T) (hK : K = (xs.length + k + 1) / 2) (hr : PartRes (vanishL xs) T K r) {p : List E} (hp : NearOK k xs ys p) : DivOK r.g r.v (Gf.trim p) [] := by
  obtain ⟨h0, h1, h2, hm⟩ := gao_row hk hT hK hr
  obtain ⟨t, ht⟩ : ∃ t, (wrongs p xs ys).length = t := ⟨_, rfl⟩
  have hfew := hp.few
  have hpl := hp.len
  rw [ht] at hfew
  let Q := vanishL (wrongs p xs ys)
  have hQ : dg Q = t + 1 := by show dg (vanishL _) = _; rw [vanish_dg, ht]
  have hF : ser (plusL (timesL (timesL r.v Q) p) (timesL Q r.g)) = S.zero := by
    refine few_roots xs.length _ xs ?_ hn (Nat.le_refl _) fun x hx => ?_
    · rw [ser_plusL, ser_timesL, ser_timesL, ser_timesL]
      refine S.Dlt.add ?_ ?_
      · have a1 := (dg_dlt r.v).mulN (show S.Dlt (ser Q) (t + 1) by rw [← hQ]; exact dg_dlt Q)
        have a2 := a1.mulN (show S.Dlt (ser p) ((k - 1) + 1) by rw [Nat.sub_add_cancel hk1]; exact (dg_dlt p).mono hpl)
        exact a2.mono (by omega)
      · rw [S.mul_comm]
        have a1 := ((dg_dlt r.g).mono h2).mulN (show S.Dlt (ser Q) (t + 1) by rw [← hQ]; exact dg_dlt Q)
        exact a1.mono (by omega)
    · obtain ⟨i, hi, rfl⟩ := List.getElem_of_mem hx
      rw [evL_plus, evL_times, evL_times, evL_times, gao_ev hT hl hm i hi]
      by_cases hw : xs[i] ∈ wrongs p xs ys
      · rw [(vanish_ev _ _).2 hw, E.mul_zero, E.zero_mul, E.zero_mul, E.add_zero]
      · rw [right_of hl hi hw]
        rw [E.mul_comm (evL r.v xs[i]), E.mul_assoc, E.add_self]
  have hE : S.mul (ser Q) (S.add (S.mul (ser r.v) (ser p)) (ser r.g)) = S.zero := by
    rw [ser_plusL, ser_timesL, ser_timesL, ser_timesL] at hF
    rw [S.mul_add, ← S.mul_assoc, S.mul_comm (ser Q) (ser r.v)]
    exact hF
  have hz : S.add (S.mul (ser r.v) (ser p)) (ser r.g) = S.zero := by
    rcases S.mul_eq_zero (dg_dlt Q) (((dlt_ser r.v).mul (dlt_ser p)).mono (Nat.le_max_left _ r.g.length) |>.add ((dlt_ser r.g).mono (Nat.le_max_right _ _))) hE with h3 | h3
    · have := dg_eq_zero.2 h3; omega
    · exact h3
  refine ⟨trimmed_trim _, trimmed_nil, ?_, h0⟩
  rw [ser_nil, S.zero_add, ser_trim, S.mul_comm]
  exact S.add_eq_zero hz
end
end Go.Proofs.Ytemnlcfabaocbaa
