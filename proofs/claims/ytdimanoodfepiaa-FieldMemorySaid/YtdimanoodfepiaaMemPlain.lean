/-
  Plain words for the law FieldMemory.
-/
import Derived.Test.YtdimanoodfepiaaBytes3
import Derived.Test.YtdimanoodfepiaaApart1
namespace Go.Proofs.Ytdimanoodfepiaa
open Go.RowKit Gf
set_option linter.unusedVariables false
theorem Own.bytesN {w : World} {B n : Nat} {T : TypeId} {v : Value} {xs : List E} (h : Own w B T v (bs xs)) (hn : xs.length = n) : ∃ A cap, v = .slice A n cap ∧ Own w B T (.slice A n cap) (bs xs) ∧ n ≤ cap ∧ cap ≤ maxLen := by
  obtain ⟨A, cap, hv, h0, hr, h1, h2⟩ := h.bytes
  subst hn
  exact ⟨A, cap, hv, h0, h1, h2⟩
theorem Rd.over {S : Nat → Prop} {w0 w w' : World} {A : Option Addr} {xs : List Value} (h : Rd w0 A xs) (hx : Ext w0 w) (ht : Touch S w w') (hS : ∀ k, k < w0.heap.size → ¬ S k) : Rd w' A xs := fun hn => by
  obtain ⟨ad, e, hlt⟩ := h.lt hn
  exact (h.ext hx).touch ht (fun ad' e' => by rw [e] at e'; injection e' with e'; subst e'; exact hS _ hlt) hn
theorem Ext.touched {S : Nat → Prop} {w w1 w2 : World} (h : Ext w w1) (ht : Touch S w1 w2) (hS : ∀ k, S k → w.heap.size ≤ k) : Ext w w2 :=
  Below.trans h (ht.below (fun k _ hk => hS k hk) h.le)
/-- A row of the call's own between two sizes. -/
structure Slab (w : World) (lo hi : Nat) (v : Value) (xs : List E) : Prop where
  own : Own w lo 5 v (bs xs)
  up : ∀ g, v.ownBlock = some g → g < hi
theorem Slab.ext {w w' : World} {lo hi : Nat} {v : Value} {xs : List E} (h : Slab w lo hi v xs) (hx : Ext w w') : Slab w' lo hi v xs := ⟨h.own.ext hx, h.up⟩
theorem Slab.touch {S : Nat → Prop} {w w' : World} {lo hi : Nat} {v : Value} {xs : List E} (h : Slab w lo hi v xs) (ht : Touch S w w') (hS : ∀ k, lo ≤ k → k < hi → ¬ S k) : Slab w' lo hi v xs :=
  ⟨h.own.touch ht fun g hg => hS g (h.own.lt g hg).1 (h.up g hg), h.up⟩
theorem Slab.of {w : World} {lo : Nat} {v : Value} {xs : List E} (h : Own w lo 5 v (bs xs)) : Slab w lo w.heap.size v xs := ⟨h, fun g hg => (h.lt g hg).2⟩
theorem far6 {w : World} {l1 l2 l3 l4 l5 l6 h1 h2 h3 h4 h5 h6 : Nat} {v1 v2 v3 v4 v5 v6 : Value} {x1 x2 x3 x4 x5 x6 : List E} (s1 : Slab w l1 h1 v1 x1) (s2 : Slab w l2 h2 v2 x2) (s3 : Slab w l3 h3 v3 x3) (s4 : Slab w l4 h4 v4 x4) (s5 : Slab w l5 h5 v5 x5) (s6 : Slab w l6 h6 v6 x6)
    (k1 : h1 ≤ l2) (k2 : h2 ≤ l3) (k3 : h3 ≤ l4) (k4 : h4 ≤ l5) (k5 : h5 ≤ l6) (e1 : l1 ≤ h1) (e2 : l2 ≤ h2) (e3 : l3 ≤ h3) (e4 : l4 ≤ h4) (e5 : l5 ≤ h5) (e6 : l6 ≤ h6) :
    FarApart [v1, v2, v3, v4, v5, v6] ∧ (∀ k, InRows [v1, v2, v3, v4, v5, v6] k → l1 ≤ k ∧ k < h6) ∧ OwnRows w l1 5 [v1, v2, v3, v4, v5, v6] (fun i => [x1, x2, x3, x4, x5, x6].getD i []) := by
  have b1 : ∀ g, v1.ownBlock = some g → l1 ≤ g ∧ g < h1 := fun g h => ⟨(s1.own.lt g h).1, s1.up g h⟩
  have b2 : ∀ g, v2.ownBlock = some g → l2 ≤ g ∧ g < h2 := fun g h => ⟨(s2.own.lt g h).1, s2.up g h⟩
  have b3 : ∀ g, v3.ownBlock = some g → l3 ≤ g ∧ g < h3 := fun g h => ⟨(s3.own.lt g h).1, s3.up g h⟩
  have b4 : ∀ g, v4.ownBlock = some g → l4 ≤ g ∧ g < h4 := fun g h => ⟨(s4.own.lt g h).1, s4.up g h⟩
  have b5 : ∀ g, v5.ownBlock = some g → l5 ≤ g ∧ g < h5 := fun g h => ⟨(s5.own.lt g h).1, s5.up g h⟩
  have b6 : ∀ g, v6.ownBlock = some g → l6 ≤ g ∧ g < h6 := fun g h => ⟨(s6.own.lt g h).1, s6.up g h⟩
  refine ⟨fun i j vi vj hi hj hne => ?_, fun k hk => ?_, ⟨fun i v hi => ?_⟩⟩
  · cases e : vi.ownBlock with
    | none => exact .inl rfl
    | some g =>
      refine .inr fun e' => ?_
      match i, j, hne with
      | 0, 0, h | 1, 1, h | 2, 2, h | 3, 3, h | 4, 4, h | 5, 5, h => exact h rfl
      | i + 6, _, _ => simp at hi
      | 0, j + 6, _ | 1, j + 6, _ | 2, j + 6, _ | 3, j + 6, _ | 4, j + 6, _ | 5, j + 6, _ => simp at hj
      | 0, 1, _ => simp at hi hj; subst hi hj; have := b1 _ e; have := b2 _ e'.symm; omega
      | 0, 2, _ => simp at hi hj; subst hi hj; have := b1 _ e; have := b3 _ e'.symm; omega
      | 0, 3, _ => simp at hi hj; subst hi hj; have := b1 _ e; have := b4 _ e'.symm; omega
      | 0, 4, _ => simp at hi hj; subst hi hj; have := b1 _ e; have := b5 _ e'.symm; omega
      | 0, 5, _ => simp at hi hj; subst hi hj; have := b1 _ e; have := b6 _ e'.symm; omega
      | 1, 0, _ => simp at hi hj; subst hi hj; have := b2 _ e; have := b1 _ e'.symm; omega
      | 1, 2, _ => simp at hi hj; subst hi hj; have := b2 _ e; have := b3 _ e'.symm; omega
      | 1, 3, _ => simp at hi hj; subst hi hj; have := b2 _ e; have := b4 _ e'.symm; omega
      | 1, 4, _ => simp at hi hj; subst hi hj; have := b2 _ e; have := b5 _ e'.symm; omega
      | 1, 5, _ => simp at hi hj; subst hi hj; have := b2 _ e; have := b6 _ e'.symm; omega
      | 2, 0, _ => simp at hi hj; subst hi hj; have := b3 _ e; have := b1 _ e'.symm; omega
      | 2, 1, _ => simp at hi hj; subst hi hj; have := b3 _ e; have := b2 _ e'.symm; omega
      | 2, 3, _ => simp at hi hj; subst hi hj; have := b3 _ e; have := b4 _ e'.symm; omega
      | 2, 4, _ => simp at hi hj; subst hi hj; have := b3 _ e; have := b5 _ e'.symm; omega
      | 2, 5, _ => simp at hi hj; subst hi hj; have := b3 _ e; have := b6 _ e'.symm; omega
      | 3, 0, _ => simp at hi hj; subst hi hj; have := b4 _ e; have := b1 _ e'.symm; omega
      | 3, 1, _ => simp at hi hj; subst hi hj; have := b4 _ e; have := b2 _ e'.symm; omega
      | 3, 2, _ => simp at hi hj; subst hi hj; have := b4 _ e; have := b3 _ e'.symm; omega
      | 3, 4, _ => simp at hi hj; subst hi hj; have := b4 _ e; have := b5 _ e'.symm; omega
      | 3, 5, _ => simp at hi hj; subst hi hj; have := b4 _ e; have := b6 _ e'.symm; omega
      | 4, 0, _ => simp at hi hj; subst hi hj; have := b5 _ e; have := b1 _ e'.symm; omega
      | 4, 1, _ => simp at hi hj; subst hi hj; have := b5 _ e; have := b2 _ e'.symm; omega
      | 4, 2, _ => simp at hi hj; subst hi hj; have := b5 _ e; have := b3 _ e'.symm; omega
      | 4, 3, _ => simp at hi hj; subst hi hj; have := b5 _ e; have := b4 _ e'.symm; omega
      | 4, 5, _ => simp at hi hj; subst hi hj; have := b5 _ e; have := b6 _ e'.symm; omega
      | 5, 0, _ => simp at hi hj; subst hi hj; have := b6 _ e; have := b1 _ e'.symm; omega
      | 5, 1, _ => simp at hi hj; subst hi hj; have := b6 _ e; have := b2 _ e'.symm; omega
      | 5, 2, _ => simp at hi hj; subst hi hj; have := b6 _ e; have := b3 _ e'.symm; omega
      | 5, 3, _ => simp at hi hj; subst hi hj; have := b6 _ e; have := b4 _ e'.symm; omega
      | 5, 4, _ => simp at hi hj; subst hi hj; have := b6 _ e; have := b5 _ e'.symm; omega
  · obtain ⟨i, v, hi, hg⟩ := hk
    match i with
    | 0 => simp at hi; subst hi; have := b1 _ hg; omega
    | 1 => simp at hi; subst hi; have := b2 _ hg; omega
    | 2 => simp at hi; subst hi; have := b3 _ hg; omega
    | 3 => simp at hi; subst hi; have := b4 _ hg; omega
    | 4 => simp at hi; subst hi; have := b5 _ hg; omega
    | 5 => simp at hi; subst hi; have := b6 _ hg; omega
    | i + 6 => simp at hi
  · match i with
    | 0 => simp at hi; subst hi; exact s1.own
    | 1 => simp at hi; subst hi; exact s2.own.mono (by omega)
    | 2 => simp at hi; subst hi; exact s3.own.mono (by omega)
    | 3 => simp at hi; subst hi; exact s4.own.mono (by omega)
    | 4 => simp at hi; subst hi; exact s5.own.mono (by omega)
    | 5 => simp at hi; subst hi; exact s6.own.mono (by omega)
    | i + 6 => simp at hi
end Go.Proofs.Ytdimanoodfepiaa
