/-
  Chapter 1's functions on rows with their refusals; a list that is turned element by element.
-/
import Derived.Test.YtdimanoodfepiaaBytes2
namespace Go.Proofs.Ytdimanoodfepiaa
open Go.RowKit Gf
set_option maxRecDepth 20000
set_option linter.unusedVariables false

/-! the answers, refusals among them -/
def sumL (a b : List E) : List E := if b.length = a.length then addL a b else []
def dotL (a b : List E) : E := if b.length = a.length then dot a b else 0
def unev (n m : Nat) : Int := if m = n then 0 else 11
theorem sum_all (A B : Option Addr) (n m : Nat) (xs ys : List E) (ca cb : Nat) (w : World) (hn : xs.length = n) (hm : ys.length = m) (hr : Rd w A (bs xs)) (hs : Rd w B (bs ys)) (hlen : n ≤ 140737488355328) :
    Calls Try.prog 22 #[.slice A n ca, .slice B m cb] w fun e w' => ∃ v, e = .returned (.tuple #[v, .int .i64 (unev n m)]) ∧ Own w' w.heap.size 5 v (bs (sumL xs ys)) ∧ Ext w w' := by
  by_cases h : m = n
  · rw [unev, if_pos h, sumL, if_pos (by omega)]
    exact sum_n A B n m xs ys ca cb w hn hm hr hs h hlen
  · rw [unev, if_neg h, sumL, if_neg (by omega)]
    refine (sum_bad A B n m ca cb w (by omega)).mono ?_
    rintro e w' ⟨rfl, rfl⟩
    exact ⟨_, rfl, Own.nil _ _ _, Ext.refl _⟩
theorem refSum_all (A B : Option Addr) (n m : Nat) (xs ys : List E) (ca cb : Nat) (w : World) (hn : xs.length = n) (hm : ys.length = m) (hr : Rd w A (bs xs)) (hs : Rd w B (bs ys)) (hlen : n ≤ 140737488355328) :
    Calls Try.prog 20 #[.slice A n ca, .slice B m cb] w fun e w' => ∃ v, e = .returned (.tuple #[v, .int .i64 (unev n m)]) ∧ Own w' w.heap.size 5 v (bs (sumL xs ys)) ∧ Ext w w' := by
  by_cases h : m = n
  · rw [unev, if_pos h, sumL, if_pos (by omega)]
    exact refSum_n A B n m xs ys ca cb w hn hm hr hs h hlen
  · rw [unev, if_neg h, sumL, if_neg (by omega)]
    refine (refSum_bad A B n m ca cb w (by omega)).mono ?_
    rintro e w' ⟨rfl, rfl⟩
    exact ⟨_, rfl, Own.nil _ _ _, Ext.refl _⟩
theorem dot_all (A B : Option Addr) (n m : Nat) (xs ys : List E) (ca cb : Nat) (w : World) (hn : xs.length = n) (hm : ys.length = m) (hr : Rd w A (bs xs)) (hs : Rd w B (bs ys)) (hlen : n ≤ 140737488355328) :
    Calls Try.prog 27 #[.slice A n ca, .slice B m cb] w fun e w' => e = .returned (.tuple #[.int .u8 (dotL xs ys).val, .int .i64 (unev n m)]) ∧ Ext w w' := by
  by_cases h : m = n
  · rw [unev, if_pos h, dotL, if_pos (by omega)]
    exact dot_n A B n m xs ys ca cb w hn hm hr hs h hlen
  · rw [unev, if_neg h, dotL, if_neg (by omega)]
    refine (dot_bad A B n m ca cb w (by omega)).mono ?_
    rintro e w' ⟨rfl, rfl⟩
    exact ⟨rfl, Ext.refl _⟩
theorem refDot_all (A B : Option Addr) (n m : Nat) (xs ys : List E) (ca cb : Nat) (w : World) (hn : xs.length = n) (hm : ys.length = m) (hr : Rd w A (bs xs)) (hs : Rd w B (bs ys)) (hlen : n ≤ 140737488355328) :
    Calls Try.prog 26 #[.slice A n ca, .slice B m cb] w fun e w' => e = .returned (.tuple #[.int .i64 (dotL xs ys).val, .int .i64 (unev n m)]) ∧ Ext w w' := by
  by_cases h : m = n
  · rw [unev, if_pos h, dotL, if_pos (by omega)]
    exact refDot_n A B n m xs ys ca cb w hn hm hr hs h hlen
  · rw [unev, if_neg h, dotL, if_neg (by omega)]
    refine (refDot_bad A B n m ca cb w (by omega)).mono ?_
    rintro e w' ⟨rfl, rfl⟩
    exact ⟨rfl, Ext.refl _⟩
theorem returned_n (A B : Option Addr) (n m : Nat) (xs : List E) (ca cb : Nat) (w : World) (hn : xs.length + 64 = n) (hm : xs.length = m) (hr : Rd w A (bs (xs ++ marks 64))) (hs : Rd w B (bs xs)) (hlen : m ≤ 140737488355264) :
    Calls Try.prog 28 #[.slice A n ca, .slice B m cb] w fun e w' => e = .returned (.bool true) ∧ Ext w w' := by
  subst hm; subst hn; exact returned_yes A B xs ca cb w hr hs hlen
/-- A list whose first k elements have been turned. -/
def turned (f : E → E) (l : List E) (k : Nat) : List E := (l.take k).map f ++ l.drop k
theorem turned_zero (f : E → E) (l : List E) : turned f l 0 = l := by simp [turned]
theorem turned_all (f : E → E) (l : List E) : turned f l l.length = l.map f := by simp [turned]
theorem turned_length (f : E → E) (l : List E) (k : Nat) : (turned f l k).length = l.length := by simp [turned]; omega
theorem turned_get (f : E → E) (l r : List E) (k : Nat) (h : k < l.length) : (bs (turned f l k ++ r))[k]? = some (.int .u8 ((l[k]).val : Int)) := by
  have h1 : (turned f l k ++ r)[k]? = some l[k] := by
    rw [List.getElem?_append_left (by rw [turned_length]; exact h), turned, List.getElem?_append_right (by simp; omega), List.getElem?_drop]
    simp [h, Nat.min_eq_left (Nat.le_of_lt h)]
  rw [bs, List.getElem?_map, h1]; rfl
theorem turned_set (f : E → E) (l r : List E) (k : Nat) (h : k < l.length) : (bs (turned f l k ++ r)).set k (.int .u8 ((f l[k]).val : Int)) = bs (turned f l (k + 1) ++ r) := by
  have h1 : (turned f l k ++ r).set k (f l[k]) = turned f l (k + 1) ++ r := by
    have e : l.drop k = l[k] :: l.drop (k + 1) := List.drop_eq_getElem_cons h
    rw [turned, turned, take_snoc' l k h, e, List.map_append, List.append_assoc, List.append_assoc, List.append_assoc]
    rw [List.set_append_right _ _ (by simp; omega)]
    simp [Nat.min_eq_left (Nat.le_of_lt h)]
    rw [e]; rfl
  rw [← h1, bs, bs, List.map_set]; rfl
end Go.Proofs.Ytdimanoodfepiaa
