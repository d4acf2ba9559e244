/-
  Plain words for the law PolyOwn: lists in new memory between two sizes of the world; a list that is turned in its place.
-/
import Derived.Test.YtemnlcfabaocbaaAsk
namespace Go.Proofs.Ytemnlcfabaocbaa
open Go.RowKit Gf
set_option linter.unusedVariables false

structure Slab (w : World) (lo hi G cap : Nat) (V : List Value) (rs : List (List E)) : Prop where
  ol : OwnList w lo G cap V rs
  up : ∀ (i : Nat) (v : Value) (g : Nat), V[i]? = some v → v.ownBlock = some g → g < hi
  gup : G < hi
theorem Slab.of {w' : World} {B G cap : Nat} {V : List Value} {rs : List (List E)} (h : OwnList w' B G cap V rs) : Slab w' B w'.heap.size G cap V rs :=
  ⟨h, fun i v g hi hg => ((h.rows i v hi).lt g hg).2, by obtain ⟨_, cs, hb, _⟩ := h.list.blk; exact hb.lt⟩
theorem Slab.ext {w w' : World} {lo hi G cap : Nat} {V : List Value} {rs : List (List E)} (h : Slab w lo hi G cap V rs) (hx : Ext w w') : Slab w' lo hi G cap V rs := ⟨h.ol.ext hx, h.up, h.gup⟩
theorem Slab.lo {w : World} {lo hi G cap : Nat} {V : List Value} {rs : List (List E)} (h : Slab w lo hi G cap V rs) : lo ≤ G := by obtain ⟨hb, _⟩ := h.ol.list.blk; exact hb
theorem Slab.touch {S : Nat → Prop} {w w' : World} {lo hi G cap : Nat} {V : List Value} {rs : List (List E)} (h : Slab w lo hi G cap V rs) (ht : Touch S w w') (hS : ∀ k, lo ≤ k → k < hi → ¬ S k) : Slab w' lo hi G cap V rs :=
  ⟨⟨h.ol.list.touch ht fun g hg => by injection hg with hg; subst hg; exact hS G h.lo h.gup, h.ol.len, fun i v hi => (h.ol.rows i v hi).touch ht fun g hg => hS g ((h.ol.rows i v hi).lt g hg).1 (h.up i v g hi hg), h.ol.far⟩, h.up, h.gup⟩
theorem Slab.rd {w : World} {lo hi G cap : Nat} {V : List Value} {rs : List (List E)} (h : Slab w lo hi G cap V rs) : RdRows w (some ⟨G, 0, none⟩) rs := h.ol.rd
theorem Rd.over {S : Nat → Prop} {w0 w w' : World} {A : Option Addr} {xs : List Value} (h : Rd w0 A xs) (hx : Ext w0 w) (ht : Touch S w w') (hS : ∀ k, k < w0.heap.size → ¬ S k) : Rd w' A xs := fun hn => by
  obtain ⟨ad, e, hlt⟩ := h.lt hn
  exact (h.ext hx).touch ht (fun ad' e' => by rw [e] at e'; injection e' with e'; subst e'; exact hS _ hlt) hn
theorem Ext.touched {S : Nat → Prop} {w w1 w2 : World} (h : Ext w w1) (ht : Touch S w1 w2) (hS : ∀ k, S k → w.heap.size ≤ k) : Ext w w2 :=
  Below.trans h (ht.below (fun k _ hk => hS k hk) h.le)
theorem Blk.ext {w w' : World} {g : Nat} {t : TypeId} {cs : Array Value} (h : Blk w g t cs) (hx : Ext w w') : Blk w' g t cs := h.below hx h.lt
/-- The front of a list that is lent. -/
theorem Own.front {w : World} {B : Nat} {T : TypeId} {g n c : Nat} {xs ys : List E} (h : Own w B T (.slice (some ⟨g, 0, none⟩) n c) (bs (xs ++ ys))) : Rd w (some ⟨g, 0, none⟩) (bs xs) := by
  have := h.rd.take (bs xs).length
  rwa [bs_append, List.take_left] at this
/-- Lists one behind the other are far apart. -/
theorem FarApart.append {V U : List Value} {n : Nat} (h : FarApart V) (k : FarApart U) (hV : ∀ (i : Nat) (v : Value) (g : Nat), V[i]? = some v → v.ownBlock = some g → g < n) (hU : ∀ (i : Nat) (v : Value) (g : Nat), U[i]? = some v → v.ownBlock = some g → n ≤ g) : FarApart (V ++ U) := by
  intro i j vi vj hi hj hne
  have far : ∀ {a b : Value} {i j : Nat}, V[i]? = some a → U[j]? = some b → (a.ownBlock = none ∨ a.ownBlock ≠ b.ownBlock) ∧ (b.ownBlock = none ∨ b.ownBlock ≠ a.ownBlock) := fun {a b i j} ha hb => by
    have ne : ∀ g, a.ownBlock = some g → b.ownBlock ≠ some g := fun g e e' => by have := hV i a g ha e; have := hU j b g hb e'; omega
    constructor
    · cases e : a.ownBlock with
      | none => exact .inl rfl
      | some g => exact .inr fun e' => ne g e e'.symm
    · cases e : b.ownBlock with
      | none => exact .inl rfl
      | some g => exact .inr fun e' => ne g e'.symm e
  rcases Nat.lt_or_ge i V.length with h1 | h1 <;> rcases Nat.lt_or_ge j V.length with h2 | h2
  · rw [List.getElem?_append_left h1] at hi
    rw [List.getElem?_append_left h2] at hj
    exact h i j vi vj hi hj hne
  · rw [List.getElem?_append_left h1] at hi
    rw [List.getElem?_append_right h2] at hj
    exact (far hi hj).1
  · rw [List.getElem?_append_right h1] at hi
    rw [List.getElem?_append_left h2] at hj
    exact (far hj hi).2
  · rw [List.getElem?_append_right h1] at hi
    rw [List.getElem?_append_right h2] at hj
    exact k _ _ vi vj hi hj (by omega)
/-- Rows one behind the other, with what bounds their blocks. -/
structure Pile (w : World) (lo hi : Nat) (V : List Value) (rs : List (List E)) : Prop where
  len : V.length = rs.length
  rows : ∀ (i : Nat) (v : Value), V[i]? = some v → Own w lo 34 v (bs (rs.getD i []))
  up : ∀ (i : Nat) (v : Value) (g : Nat), V[i]? = some v → v.ownBlock = some g → g < hi
  far : FarApart V
theorem Pile.of {w : World} {lo hi G cap : Nat} {V : List Value} {rs : List (List E)} (h : Slab w lo hi G cap V rs) : Pile w lo hi V rs := ⟨h.ol.len, h.ol.rows, h.up, h.ol.far⟩
theorem Pile.append {w : World} {lo m m' hi : Nat} {V U : List Value} {rs ss : List (List E)} (h : Pile w lo m V rs) (k : Pile w m' hi U ss) (hm : m ≤ m') (hlo : lo ≤ m') (hhi : m ≤ hi) : Pile w lo hi (V ++ U) (rs ++ ss) := by
  refine ⟨by simp [h.len, k.len], fun i v hi => ?_, fun i v g hi hg => ?_, h.far.append (n := m) k.far h.up fun i v g hi hg => Nat.le_trans hm ((k.rows i v hi).lt g hg).1⟩
  · rcases Nat.lt_or_ge i V.length with h1 | h1
    · rw [List.getElem?_append_left h1] at hi
      rw [List.getD_eq_getElem?_getD, List.getElem?_append_left (by rw [← h.len]; exact h1), ← List.getD_eq_getElem?_getD]
      exact h.rows i v hi
    · rw [List.getElem?_append_right h1] at hi
      rw [List.getD_eq_getElem?_getD, List.getElem?_append_right (by rw [← h.len]; exact h1), ← List.getD_eq_getElem?_getD, ← h.len]
      exact (k.rows _ v hi).mono hlo
  · rcases Nat.lt_or_ge i V.length with h1 | h1
    · rw [List.getElem?_append_left h1] at hi
      have := h.up i v g hi hg
      omega
    · rw [List.getElem?_append_right h1] at hi
      exact k.up _ v g hi hg
theorem Pile.ext {w w' : World} {lo hi : Nat} {V : List Value} {rs : List (List E)} (h : Pile w lo hi V rs) (hx : Ext w w') : Pile w' lo hi V rs := ⟨h.len, fun i v hi => (h.rows i v hi).ext hx, h.up, h.far⟩
theorem Pile.ones {w : World} {lo hi : Nat} {V : List Value} {rs : List (List E)} (h : Pile w lo hi V rs) : ∀ u ∈ V, u.oneCell' = true := fun u hu => by
  obtain ⟨i, hi⟩ := List.mem_iff_getElem?.1 hu
  exact (h.rows i u hi).oneCell

theorem Pile.touch {S : Nat → Prop} {w w' : World} {lo hi : Nat} {V : List Value} {rs : List (List E)} (h : Pile w lo hi V rs) (ht : Touch S w w') (hS : ∀ k, lo ≤ k → k < hi → ¬ S k) : Pile w' lo hi V rs :=
  ⟨h.len, fun i v hi => (h.rows i v hi).touch ht fun g hg => hS g ((h.rows i v hi).lt g hg).1 (h.up i v g hi hg), h.up, h.far⟩
theorem Pile.within {w : World} {lo hi : Nat} {V : List Value} {rs : List (List E)} (h : Pile w lo hi V rs) {k : Nat} (hk : InRows V k) : lo ≤ k ∧ k < hi := by
  obtain ⟨i, v, hi, hg⟩ := hk
  exact ⟨((h.rows i v hi).lt k hg).1, h.up i v k hi hg⟩
theorem InRows.append {V U : List Value} {k : Nat} (h : InRows (V ++ U) k) : InRows V k ∨ InRows U k := by
  obtain ⟨i, v, hi, hg⟩ := h
  rcases Nat.lt_or_ge i V.length with h1 | h1
  · rw [List.getElem?_append_left h1] at hi; exact .inl ⟨i, v, hi, hg⟩
  · rw [List.getElem?_append_right h1] at hi; exact .inr ⟨_, v, hi, hg⟩
theorem getD_len {rs : List (List E)} {n : Nat} (h : ∀ r ∈ rs, r.length ≤ n) (i : Nat) : (rs.getD i []).length ≤ n := by
  rw [List.getD_eq_getElem?_getD]
  cases e : rs[i]? with
  | none => simp
  | some r => exact h r (List.mem_of_getElem? e)
/-- The same answers. -/
theorem Slab.congr {w : World} {lo hi G cap : Nat} {V : List Value} {rs ss : List (List E)} (h : Slab w lo hi G cap V rs) (e : rs = ss) : Slab w lo hi G cap V ss := e ▸ h

/-- A list whose first k elements have been turned. -/
def turned (f : E → E) (l : List E) (k : Nat) : List E := (l.take k).map f ++ l.drop k
theorem turned_zero (f : E → E) (l : List E) : turned f l 0 = l := by simp [turned]
theorem turned_all (f : E → E) (l : List E) : turned f l l.length = l.map f := by simp [turned]
theorem turned_length (f : E → E) (l : List E) (k : Nat) : (turned f l k).length = l.length := by simp [turned]; omega
theorem turned_get (f : E → E) (l r : List E) (k : Nat) (h : k < l.length) : (bs (turned f l k ++ r))[k]? = some (.int .u8 ((l[k]).val : Int)) := by
  have h1 : (turned f l k ++ r)[k]? = some l[k] := by
    rw [List.getElem?_append_left (by rw [turned_length]; exact h), turned, List.getElem?_append_right (by simp; omega), List.getElem?_drop]
    simp [h, Nat.min_eq_left (Nat.le_of_lt h)]
  rw [bs, List.getElem?_map, h1]; rfl
theorem turned_set (f : E → E) (l r : List E) (k : Nat) (h : k < l.length) : (bs (turned f l k ++ r)).set k (.int .u8 ((f l[k]).val : Int)) = bs (turned f l (k + 1) ++ r) := by
  have h1 : (turned f l k ++ r).set k (f l[k]) = turned f l (k + 1) ++ r := by
    have e : l.drop k = l[k] :: l.drop (k + 1) := List.drop_eq_getElem_cons h
    rw [turned, turned, take_snoc' l k h, e, List.map_append, List.append_assoc, List.append_assoc, List.append_assoc]
    rw [List.set_append_right _ _ (by simp; omega)]
    simp [Nat.min_eq_left (Nat.le_of_lt h)]
    rw [e]; rfl
  rw [← h1, bs, bs, List.map_set]; rfl
def incBy (d : Nat) (x : E) : E := E.of (x.val + d)
theorem incBy_val (d : Nat) (x : E) : IntKind.u8.wrap ((x.val : Int) + (d : Int)) = ((incBy d x).val : Int) := by
  rw [IntKind.wrap_u8]
  show _ = (((x.val + d) % 256 : Nat) : Int)
  omega
/-- A list that is being turned in its place. -/
structure Turning (w0 w : World) (B g n c : Nat) (T : TypeId) (f : E → E) (xs r : List E) (k : Nat) : Prop where
  touch : Touch (· = g) w0 w
  own : Own w B T (.slice (some ⟨g, 0, none⟩) n c) (bs (turned f xs k ++ r))
theorem Turning.step {w0 w : World} {B g n c : Nat} {T : TypeId} {f : E → E} {xs r : List E} {k : Nat} (h : Turning w0 w B g n c T f xs r k) (hk : k < xs.length) :
    Turning w0 (w.setCell ⟨g, k, none⟩ (.int .u8 ((f xs[k]).val : Int))) B g n c T f xs r (k + 1) :=
  ⟨h.touch.trans (touch_set w ⟨g, k, none⟩ _ rfl), by have := h.own.set k (.int .u8 ((f xs[k]).val : Int)); rwa [turned_set f xs r k hk] at this⟩
end Go.Proofs.Ytemnlcfabaocbaa
