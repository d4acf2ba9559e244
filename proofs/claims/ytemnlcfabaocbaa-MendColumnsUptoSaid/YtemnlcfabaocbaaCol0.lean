/-
  Chapter 5, plain: the places that are there; what is answered of a word.
-/
import Derived.Test.YtemnlcfabaocbaaNear
import Derived.Test.YtemnlcfabaocbaaApart
namespace Go.Proofs.Ytemnlcfabaocbaa
open Go.RowKit Gf
set_option linter.unusedVariables false

def bools (l : List Bool) : List Value := l.map Value.bool
def ints (l : List Nat) : List Value := l.map fun (i : Nat) => Value.int .i64 ((i : Nat) : Int)
theorem bools_length (l : List Bool) : (bools l).length = l.length := List.length_map _
theorem ints_length (l : List Nat) : (ints l).length = l.length := List.length_map _
theorem bools_get (l : List Bool) (j : Nat) (h : j < l.length) : (bools l)[j]? = some (.bool l[j]) := by simp [bools, h]
theorem ints_get (l : List Nat) (j : Nat) (h : j < l.length) : (ints l)[j]? = some (.int .i64 ((l[j] : Nat) : Int)) := by simp [ints, h]
theorem ints_snoc (l : List Nat) (i : Nat) : ints (l ++ [i]) = ints l ++ [.int .i64 (i : Int)] := by simp [ints]
theorem ints_ones (l : List Nat) : ∀ u ∈ ints l, u.oneCell' = true := by
  intro u hu
  obtain ⟨x, _, rfl⟩ := List.mem_map.1 hu
  rfl
theorem bools_ones (l : List Bool) : ∀ u ∈ bools l, u.oneCell' = true := by
  intro u hu
  obtain ⟨x, _, rfl⟩ := List.mem_map.1 hu
  rfl
/-- The places that are there, below k. -/
def thereTo (lost : List Bool) (k : Nat) : List Nat := (List.range k).filter fun i => !(lost.getD i true)
def thereL (lost : List Bool) : List Nat := thereTo lost lost.length
theorem thereTo_yes {lost : List Bool} {k : Nat} (hk : k < lost.length) (h : lost[k] = false) : thereTo lost (k + 1) = thereTo lost k ++ [k] := by
  simp [thereTo, List.range_succ, List.getD_eq_getElem?_getD, hk, h]
theorem thereTo_no {lost : List Bool} {k : Nat} (hk : k < lost.length) (h : lost[k] = true) : thereTo lost (k + 1) = thereTo lost k := by
  simp [thereTo, List.range_succ, List.getD_eq_getElem?_getD, hk, h]
theorem thereTo_le (lost : List Bool) (k : Nat) : (thereTo lost k).length ≤ k := by
  have := List.length_filter_le (fun i => !(lost.getD i true)) (List.range k)
  simpa [thereTo] using this
theorem there_le (lost : List Bool) : (thereL lost).length ≤ lost.length := thereTo_le _ _
theorem there_nodup (lost : List Bool) : (thereL lost).Nodup := List.Pairwise.filter _ List.nodup_range
theorem there_mem {lost : List Bool} {i : Nat} (h : i ∈ thereL lost) : i < lost.length := by
  have := (List.mem_filter.1 h).1
  simpa using this
theorem there_mem_iff {lost : List Bool} {i : Nat} : i ∈ thereL lost ↔ ∃ h : i < lost.length, lost[i] = false := by
  simp only [thereL, thereTo, List.mem_filter, List.mem_range, List.getD_eq_getElem?_getD]
  constructor
  · rintro ⟨h, h2⟩
    rw [List.getElem?_eq_getElem h] at h2
    exact ⟨h, by simpa using h2⟩
  · rintro ⟨h, h2⟩
    exact ⟨h, by rw [List.getElem?_eq_getElem h]; simp [h2]⟩
/-- The points and the values at places. -/
def ptsL (at_ : List Nat) : List E := at_.map E.of
def valsL (word : List E) (at_ : List Nat) : List E := at_.map fun i => word.getD i 0
theorem pts_length (l : List Nat) : (ptsL l).length = l.length := List.length_map _
theorem vals_length (word : List E) (l : List Nat) : (valsL word l).length = l.length := List.length_map _
theorem of_inj {i j : Nat} (hi : i < 256) (hj : j < 256) (h : E.of i = E.of j) : i = j := by
  have := congrArg E.val h
  rwa [E.val_of hi, E.val_of hj] at this
theorem pts_nodup {l : List Nat} (hn : l.Nodup) (hb : ∀ i ∈ l, i < 256) : (ptsL l).Nodup := by
  unfold ptsL List.Nodup
  rw [List.pairwise_map]
  exact List.Pairwise.imp_of_mem (fun {a b} ha hb' hne e => hne (of_inj (hb a ha) (hb b hb') e)) hn
/-- A word by its polynomial. -/
def colTo (p : List E) (n : Nat) : List E := (List.range n).map fun i => evL p (E.of i)
theorem colTo_length (p : List E) (n : Nat) : (colTo p n).length = n := by simp [colTo]
theorem colTo_succ (p : List E) (n : Nat) : colTo p (n + 1) = colTo p n ++ [evL p (E.of n)] := by simp [colTo, List.range_succ]
theorem colTo_get (p : List E) (n i : Nat) (h : i < (colTo p n).length) : (colTo p n)[i] = evL p (E.of i) := by simp [colTo]
theorem colTo_congr {p q : List E} (h : ∀ x, evL p x = evL q x) (n : Nat) : colTo p n = colTo q n := by simp only [colTo, h]
/-- The places that were wrong. -/
def badAt (p word : List E) (at_ : List Nat) : List Nat := at_.filter fun i => !decide (evL p (E.of i) = word.getD i 0)
theorem badAt_congr {p q : List E} (h : ∀ x, evL p x = evL q x) (word : List E) (l : List Nat) : badAt p word l = badAt q word l := by simp only [badAt, h]
theorem badAt_snoc_yes {p word : List E} {l : List Nat} {i : Nat} (h : evL p (E.of i) ≠ word.getD i 0) : badAt p word (l ++ [i]) = badAt p word l ++ [i] := by simp [badAt]; simpa using h
theorem badAt_snoc_no {p word : List E} {l : List Nat} {i : Nat} (h : evL p (E.of i) = word.getD i 0) : badAt p word (l ++ [i]) = badAt p word l := by simp [badAt, h]
theorem badAt_le (p word : List E) (l : List Nat) : (badAt p word l).length ≤ l.length := List.length_filter_le _ _

/-- Which arguments may be. -/
def GoodK (k : Int) (word : List E) (lost : List Bool) : Prop := 1 ≤ k ∧ k ≤ word.length ∧ word.length ≤ 255 ∧ lost.length = word.length
def Near (k : Nat) (word : List E) (lost : List Bool) (p : List E) : Prop := NearOK k (ptsL (thereL lost)) (valsL word (thereL lost)) p
/-- What is answered of a word. -/
def ColSpec (k : Int) (word : List E) (lost : List Bool) (out : List E) (bad : List Nat) (e : Int) : Prop :=
  (¬ GoodK k word lost ∧ out = [] ∧ bad = [] ∧ e = 2) ∨
  (GoodK k word lost ∧ ((thereL lost).length : Int) < k ∧ out = [] ∧ bad = [] ∧ e = 42) ∨
  (GoodK k word lost ∧ k ≤ (thereL lost).length ∧ (∀ p, ¬ Near k.toNat word lost p) ∧ out = [] ∧ bad = [] ∧ e = 50) ∨
  (GoodK k word lost ∧ k ≤ (thereL lost).length ∧ ∃ p, Near k.toNat word lost p ∧ out = colTo p word.length ∧ bad = badAt p word (thereL lost) ∧ e = 0)
theorem near_nodup {k : Int} {word : List E} {lost : List Bool} (h : GoodK k word lost) : (ptsL (thereL lost)).Nodup :=
  pts_nodup (there_nodup lost) fun i hi => by have := there_mem hi; have := h.2.2.1; have := h.2.2.2; omega
theorem ColSpec.uniq {k : Int} {word : List E} {lost : List Bool} {out out' : List E} {bad bad' : List Nat} {e e' : Int} (h : ColSpec k word lost out bad e) (h' : ColSpec k word lost out' bad' e') : out = out' ∧ bad = bad' ∧ e = e' := by
  rcases h with ⟨h1, rfl, rfl, rfl⟩ | ⟨h1, h2, rfl, rfl, rfl⟩ | ⟨h1, h2, h3, rfl, rfl, rfl⟩ | ⟨h1, h2, p, h3, rfl, rfl, rfl⟩ <;>
    rcases h' with ⟨k1, rfl, rfl, rfl⟩ | ⟨k1, k2, rfl, rfl, rfl⟩ | ⟨k1, k2, k3, rfl, rfl, rfl⟩ | ⟨k1, k2, q, k3, rfl, rfl, rfl⟩
  · exact ⟨rfl, rfl, rfl⟩
  · exact absurd k1 h1
  · exact absurd k1 h1
  · exact absurd k1 h1
  · exact absurd h1 k1
  · exact ⟨rfl, rfl, rfl⟩
  · omega
  · omega
  · exact absurd h1 k1
  · omega
  · exact ⟨rfl, rfl, rfl⟩
  · exact absurd k3 (h3 q)
  · exact absurd h1 k1
  · omega
  · exact absurd h3 (k3 p)
  · have e := NearOK.same (near_nodup h1) (by rw [vals_length, pts_length]) h3 k3
    exact ⟨colTo_congr e _, badAt_congr e _ _, rfl⟩
theorem ColSpec.small {k : Int} {word : List E} {lost : List Bool} {out : List E} {bad : List Nat} {e : Int} (h : ColSpec k word lost out bad e) : out.length ≤ 255 ∧ bad.length ≤ 255 ∧ (e = 0 ∨ e = 2 ∨ e = 42 ∨ e = 50) := by
  rcases h with ⟨h1, rfl, rfl, rfl⟩ | ⟨h1, h2, rfl, rfl, rfl⟩ | ⟨h1, h2, h3, rfl, rfl, rfl⟩ | ⟨h1, h2, p, h3, rfl, rfl, rfl⟩
  · simp
  · simp
  · simp
  · have := badAt_le p word (thereL lost)
    have := there_le lost
    obtain ⟨a, b, c, d⟩ := h1
    rw [colTo_length]
    exact ⟨c, by omega, .inl rfl⟩
end Go.Proofs.Ytemnlcfabaocbaa
