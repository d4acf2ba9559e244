/-
  The roots, one by one: how many, where each stands, and when a linear divisor leaves nothing.
-/
import Derived.Test.YtemnlcfabaocbaaLaw4
namespace Go.Proofs.Ytemnlcfabaocbaa
open Go.RowKit Gf
set_option linter.unusedVariables false

theorem nodup_len {l m : List E} (hn : l.Nodup) (hs : ∀ x ∈ l, x ∈ m) : l.length ≤ m.length := by
  induction l generalizing m with
  | nil => exact Nat.zero_le _
  | cons a l ih =>
    obtain ⟨h1, h2⟩ := List.nodup_cons.1 hn
    have hm := hs a (List.mem_cons_self ..)
    have := ih (m := m.erase a) h2 (fun x hx => by
      have hne : x ≠ a := fun e => by subst e; exact h1 hx
      exact (List.mem_erase_of_ne hne).2 (hs x (List.mem_cons_of_mem _ hx)))
    rw [List.length_erase_of_mem hm] at this
    have hpos : 0 < m.length := List.length_pos_of_mem hm
    simp only [List.length_cons]
    omega
/-- The roots from i on. -/
def rootsFrom (p : List E) (i : Nat) : List E := ((List.range' i (256 - i)).map E.of).filter (fun x => decide (evL p x = 0))
theorem roots_split (p : List E) (i : Nat) (h : i ≤ 256) : rootsL p = rootsTo p i ++ rootsFrom p i := by
  rw [rootsL, rootsTo, rootsTo, rootsFrom, ← List.filter_append, ← List.map_append]
  congr 2
  rw [List.range_eq_range', List.range_eq_range']
  have := List.range'_append (s := 0) (m := i) (n := 256 - i) (step := 1)
  rw [Nat.one_mul, Nat.zero_add, show i + (256 - i) = 256 by omega] at this
  exact this.symm
theorem from_step (p : List E) (i : Nat) (h : i < 256) : rootsFrom p i = (if evL p (E.of i) = 0 then [E.of i] else []) ++ rootsFrom p (i + 1) := by
  rw [rootsFrom, rootsFrom, show 256 - i = (256 - (i + 1)) + 1 by omega, List.range'_succ, List.map_cons, List.filter_cons]
  by_cases hz : evL p (E.of i) = 0
  · rw [if_pos (by simpa using hz), if_pos hz]; rfl
  · rw [if_neg (by simpa using hz), if_neg hz]; rfl
theorem from_ge (p : List E) (i : Nat) (h : i ≤ 256) : ∀ x ∈ rootsFrom p i, i ≤ x.val := by
  intro x hx
  rw [rootsFrom, List.mem_filter, List.mem_map] at hx
  obtain ⟨⟨j, hj, rfl⟩, _⟩ := hx
  rw [List.mem_range'_1] at hj
  rw [E.val_of (by omega)]
  exact hj.1
theorem mem_roots (p : List E) (x : E) : x ∈ rootsL p ↔ evL p x = 0 := by
  rw [rootsL, rootsTo, List.mem_filter, List.mem_map]
  constructor
  · intro h; simpa using h.2
  · intro h; exact ⟨⟨x.val, List.mem_range.2 x.lt, E.of_val x⟩, by simpa using h⟩
theorem roots_nodup (p : List E) : (rootsL p).Nodup := by
  rw [rootsL, rootsTo]
  refine List.Nodup.sublist (List.filter_sublist ..) ?_
  rw [List.nodup_iff_pairwise_ne, List.pairwise_map]
  have := List.nodup_range (n := 256)
  rw [List.nodup_iff_pairwise_ne] at this
  refine List.Pairwise.imp_of_mem ?_ this
  intro a b ha hb hne e
  rw [List.mem_range] at ha hb
  apply hne
  have := congrArg E.val e
  rwa [E.val_of ha, E.val_of hb] at this
theorem roots_all {p : List E} (h : dg p = 0) : (rootsL p).length = 256 := by
  have hz := dg_eq_zero.1 h
  rw [rootsL, rootsTo, List.filter_eq_self.2 (fun x _ => by simp [evL_ser (b := []) (by rw [hz, ser_nil]), evL_nil])]
  simp
theorem roots_few {p : List E} {d : Nat} (h : dg p = d + 1) : (rootsL p).length ≤ d := by
  rcases Nat.lt_or_ge d (rootsL p).length with h1 | h1
  · have := few_roots (d + 1) p (rootsL p) (h ▸ dg_dlt p) (roots_nodup p) h1 (fun x hx => (mem_roots p x).1 hx)
    rw [dg_eq_zero.2 this] at h
    omega
  · exact h1
/-- Where the i-th question stands: k roots are below i. -/
theorem root_here {p : List E} {i : Nat} (hi : i < 256) (h : evL p (E.of i) = 0) : ∃ hk : (rootsTo p i).length < (rootsL p).length, (rootsL p)[(rootsTo p i).length] = E.of i := by
  have hs := roots_split p i (by omega)
  rw [from_step p i hi, if_pos h] at hs
  have hk : (rootsTo p i).length < (rootsL p).length := by rw [hs]; simp
  refine ⟨hk, ?_⟩
  have : (rootsL p)[(rootsTo p i).length]? = some (E.of i) := by rw [hs, List.getElem?_append_right (Nat.le_refl _), Nat.sub_self]; rfl
  rwa [List.getElem?_eq_getElem hk, Option.some.injEq] at this
theorem root_not {p : List E} {i : Nat} (hi : i < 256) (h : evL p (E.of i) ≠ 0) (hk : (rootsTo p i).length < (rootsL p).length) : (rootsL p)[(rootsTo p i).length].val ≠ i := by
  have hs := roots_split p i (by omega)
  rw [from_step p i hi, if_neg h, List.nil_append] at hs
  have hm : (rootsL p)[(rootsTo p i).length] ∈ rootsFrom p (i + 1) := by
    have h1 : (rootsL p)[(rootsTo p i).length]? = (rootsFrom p (i + 1))[0]? := by rw [hs, List.getElem?_append_right (Nat.le_refl _), Nat.sub_self]
    rw [List.getElem?_eq_getElem hk] at h1
    exact List.mem_of_getElem? h1.symm
  have := from_ge p (i + 1) (by omega) _ hm
  omega
/-- A linear divisor leaves nothing just at a root. -/
theorem lin_rest {p s r : List E} {x : E} {k : Int} (h : DivAny p [x, 1] s r k) : k = 0 ∧ (r.length = 0 ↔ evL p x = 0) ∧ r.length ≤ 1 := by
  have hd : dg [x, 1] = 2 := dg_eq (dlt_ser [x, 1]) (fun _ => by exact E.one_ne_zero)
  rcases h with ⟨h0, _⟩ | ⟨_, h, rfl⟩
  · rw [hd] at h0; omega
  · have hl := h.lt
    rw [hd] at hl
    have hev : evL p x = evL r x := by
      rw [evL_ser (a := p) (b := plusL r (timesL s [x, 1])) (by rw [ser_plusL, ser_timesL, h.eq]), evL_plus, evL_times, evL_lin, E.add_self, E.mul_zero, E.add_zero]
    refine ⟨rfl, ?_, by omega⟩
    rw [hev]
    constructor
    · intro h0; rw [List.eq_nil_of_length_eq_zero h0, evL_nil]
    · intro h0
      rcases Nat.eq_zero_or_pos r.length with h1 | h1
      · exact h1
      · exfalso
        obtain ⟨c, rfl⟩ : ∃ c, r = [c] := List.length_eq_one_iff.1 (by omega)
        rw [evL_cons, evL_nil, E.mul_zero, E.add_zero] at h0
        exact h.tr.last (by simp) h0
theorem vanish_roots (pts : List E) (hn : pts.Nodup) : (rootsL (vanishL pts)).length = pts.length := by
  refine Nat.le_antisymm (nodup_len (roots_nodup _) (fun x hx => (vanish_ev _ _).1 ((mem_roots _ _).1 hx))) (nodup_len hn (fun x hx => (mem_roots _ _).2 ((vanish_ev _ _).2 hx)))
end Go.Proofs.Ytemnlcfabaocbaa
