/-
  Texts of mine, merged: Fam2 Span Law7 Turn Apart5 App4.
-/
import Derived.Test.YtemnlcfabaocbaaG6
import Derived.Test.YtemnlcfabaocbaaG7
import Derived.Test.YtemnlcfabaocbaaG9
import Derived.Test.YtemnlcfabaocbaaG10
import Derived.Test.YtemnlcfabaocbaaG15
/-
  Families of rows of values of any kind: each written full with its mark, then grown by marks of its own.
-/
namespace Go.Proofs.Ytemnlcfabaocbaa
open Go.RowKit Gf
set_option linter.unusedVariables false

/-- Rows in a list, each of the call's own: the values V, what they hold. -/
structure OwnVs (w : World) (B : Nat) (T : TypeId) (V : List Value) (R : Nat → List Value) : Prop where
  own : ∀ i v, V[i]? = some v → Own w B T v (R i)
def kinV (V : List Value) (R : Nat → List Value) (s : Kin) : Prop := V[s.lab]? = some s.val ∧ s.xs = R s.lab
theorem fam_vs {w : World} {B : Nat} {T : TypeId} {V : List Value} {R : Nat → List Value} (h : OwnVs w B T V R) (hf : FarApart V) : Fam w B T (kinV V R) :=
  ⟨fun s ⟨h1, h2⟩ => by rw [h2]; exact h.own _ _ h1, fun s t ⟨h1, _⟩ ⟨h2, _⟩ hl => hf _ _ _ _ h1 h2 hl⟩
def updV (R : Nat → List Value) (i : Nat) (l : List Value) : Nat → List Value := fun k => if k = i then l else R k
theorem updV_same (R : Nat → List Value) (i : Nat) (l : List Value) : updV R i l i = l := if_pos rfl
theorem updV_other (R : Nat → List Value) (i : Nat) (l : List Value) {k : Nat} (h : k ≠ i) : updV R i l k = R k := if_neg h
/-- One place of one row is written. -/
theorem OwnVs.set {w : World} {B : Nat} {T : TypeId} {V : List Value} {R : Nat → List Value} (h : OwnVs w B T V R) (hf : FarApart V) {i g n cap : Nat} (hi : V[i]? = some (.slice (some ⟨g, 0, none⟩) n cap)) (j : Nat) (x : Value) :
    OwnVs (w.setCell ⟨g, j, none⟩ x) B T V (updV R i ((R i).set j x)) := ⟨fun k v hk => by
  by_cases e : k = i
  · subst e
    rw [hi] at hk
    injection hk with hk
    subst hk
    rw [updV_same]
    exact (h.own _ _ hi).set j x
  · rw [updV_other _ _ _ e]
    refine (h.own _ _ hk).far (p := ⟨g, j, none⟩) (fun e' => ?_) _
    rcases hf k i _ _ hk hi e with h1 | h1
    · rw [h1] at e'; cases e'
    · exact h1 e'⟩
theorem OwnVs.ext {w w' : World} {B : Nat} {T : TypeId} {V : List Value} {R : Nat → List Value} (h : OwnVs w B T V R) (hx : Ext w w') : OwnVs w' B T V R := ⟨fun i v hi => (h.own i v hi).ext hx⟩
theorem OwnVs.at_ {w : World} {B : Nat} {T : TypeId} {V : List Value} {R : Nat → List Value} (h : OwnVs w B T V R) {i : Nat} {v : Value} (hi : V[i]? = some v) :
    ∃ A c, v = .slice A (R i).length c ∧ Rd w A (R i) ∧ (R i).length ≤ c ∧ c ≤ maxLen ∧ (0 < (R i).length → ∃ g, A = some ⟨g, 0, none⟩) := by
  rcases (h.own i v hi).form with ⟨hv, hn⟩ | ⟨g, cap, hv, hb, hlt, hn, hm⟩
  · have : (R i).length = 0 := by rw [hn]; rfl
    exact ⟨none, 0, by rw [hv, this], by rw [hn]; exact Rd.nil _ _, by omega, Nat.zero_le _, fun h => by omega⟩
  · subst hv
    exact ⟨_, cap, rfl, (h.own i _ hi).rd, hn, hm, fun _ => ⟨g, rfl⟩⟩

/-! ### Marking: each row is written full with its own mark. -/
/-- The rows below i are full of their marks, row i up to j. -/
structure MarkV (w0 w : World) (B BG : Nat) (T TR : TypeId) (G N cap : Nat) (V : List Value) (R : Nat → List Value) (mk : Nat → Value) (i j : Nat) : Prop where
  touch : Touch (InRows V) w0 w
  own : Own w BG TR (.slice (some ⟨G, 0, none⟩) N cap) V
  rows : ∃ R' : Nat → List Value, OwnVs w B T V R' ∧ (∀ r, (R' r).length = (R r).length) ∧ (∀ r, r < i → R' r = List.replicate (R r).length (mk r)) ∧ (R' i).take j = List.replicate j (mk i)
section
variable {w0 w : World} {B BG : Nat} {T TR : TypeId} {G N cap : Nat} {V : List Value} {R : Nat → List Value} {mk : Nat → Value} {i j : Nat}
theorem MarkV.start (ho : Own w BG TR (.slice (some ⟨G, 0, none⟩) N cap) V) (hr : OwnVs w B T V R) : MarkV w w B BG T TR G N cap V R mk 0 0 :=
  ⟨Touch.refl _, ho, R, hr, fun _ => rfl, fun r h => absurd h (Nat.not_lt_zero _), rfl⟩
theorem MarkV.at_ (h : MarkV w0 w B BG T TR G N cap V R mk i j) {k : Nat} {v : Value} (hk : V[k]? = some v) :
    ∃ A c, v = .slice A (R k).length c ∧ w.cell? ⟨G, k, none⟩ = some (.slice A (R k).length c) ∧ (R k).length ≤ c ∧ c ≤ maxLen ∧ (0 < (R k).length → ∃ g, A = some ⟨g, 0, none⟩) := by
  obtain ⟨R', hr, hl, _⟩ := h.rows
  have hc := h.own.cell hk
  obtain ⟨A, c, hv, _, h2, h3, h4⟩ := hr.at_ hk
  rw [hl] at hv h2 h4
  exact ⟨A, c, hv, by rw [hc, hv], h2, h3, h4⟩
theorem MarkV.frozen (h : MarkV w0 w B BG T TR G N cap V R mk i j) {k g n c : Nat} (hk : V[k]? = some (.slice (some ⟨g, 0, none⟩) n c)) (q : Nat) : w.frozen? ⟨g, q, none⟩ = false := by
  obtain ⟨R', hr, _⟩ := h.rows
  exact (hr.own k _ hk).frozen q
theorem MarkV.old (h : MarkV w0 w B BG T TR G N cap V R mk i j) {k g n c q : Nat} (hk : V[k]? = some (.slice (some ⟨g, 0, none⟩) n c)) (hq : q < (R k).length) : ∃ x : Value, w.cell? ⟨g, q, none⟩ = some x := by
  obtain ⟨R', hr, hl, _⟩ := h.rows
  exact ⟨_, (hr.own k _ hk).cell (List.getElem?_eq_getElem (by rw [hl]; exact hq))⟩
theorem MarkV.step (h : MarkV w0 w B BG T TR G N cap V R mk i j) (hf : FarApart V) (hT : T ≠ TR) {g n c : Nat} (hi : V[i]? = some (.slice (some ⟨g, 0, none⟩) n c)) (hj : j < (R i).length) :
    MarkV w0 (w.setCell ⟨g, j, none⟩ (mk i)) B BG T TR G N cap V R mk i (j + 1) := by
  obtain ⟨R', hr, hl, hd, ht⟩ := h.rows
  have hin : InRows V g := ⟨i, _, hi, rfl⟩
  refine ⟨h.touch.trans (touch_set w ⟨g, j, none⟩ _ hin), h.own.far (p := ⟨g, j, none⟩) (fun e => ?_) _, updV R' i ((R' i).set j (mk i)), hr.set hf hi j (mk i), fun r => ?_, fun r hlt => ?_, ?_⟩
  · rcases (hr.own i _ hi).types h.own hT with h1 | h1
    · cases h1
    · exact h1 e.symm
  · by_cases e : r = i
    · subst e; rw [updV_same, List.length_set, hl]
    · rw [updV_other _ _ _ e, hl]
  · rw [updV_other _ _ _ (by omega)]; exact hd r hlt
  · rw [updV_same, List.take_succ_eq_append_getElem (by rw [List.length_set, hl]; exact hj), List.take_set, ht, List.getElem_set_self, List.set_eq_of_length_le (by simp), List.replicate_succ']
theorem MarkV.next (h : MarkV w0 w B BG T TR G N cap V R mk i (R i).length) : MarkV w0 w B BG T TR G N cap V R mk (i + 1) 0 := by
  obtain ⟨R', hr, hl, hd, ht⟩ := h.rows
  refine ⟨h.touch, h.own, R', hr, hl, fun r hlt => ?_, rfl⟩
  rcases Nat.lt_succ_iff_lt_or_eq.1 hlt with e | rfl
  · exact hd r e
  · rw [← ht, List.take_of_length_le (by rw [hl]; exact Nat.le_refl _)]
theorem MarkV.done (h : MarkV w0 w B BG T TR G N cap V R mk N 0) (hN : V.length = N) : OwnVs w B T V (fun r => List.replicate (R r).length (mk r)) := by
  obtain ⟨R', hr, hl, hd, _⟩ := h.rows
  refine ⟨fun k v hk => ?_⟩
  have := hr.own k v hk
  rwa [hd k (by rw [← hN]; exact (List.getElem?_eq_some_iff.1 hk).1)] at this
end

/-! ### Growing: each row is grown by marks, one by one; all that is grown is kept. -/
structure GrowV (w0 w : World) (B BG : Nat) (T TR : TypeId) (G N cap : Nat) (V : List Value) (R : Nat → List Value) (cur : Kin) (vl : Value) (L : List Kin) : Prop where
  touch : Touch (Old w0 V) w0 w
  own : Own w BG TR (.slice (some ⟨G, 0, none⟩) N cap) V
  fam : Fam w B T (fun s => kinV V R s ∨ s ∈ L ∨ s = cur)
  vl : Own w w0.heap.size TR vl (L.map Kin.val)
  curB : ∀ g, cur.val.ownBlock = some g → Old w0 V g
  lt : G < w0.heap.size
section
variable {w0 w w1 : World} {B BG : Nat} {T TR : TypeId} {G N cap : Nat} {V : List Value} {R : Nat → List Value} {cur : Kin} {vl : Value} {L : List Kin}
theorem GrowV.start (ht : Touch (InRows V) w0 w) (ho : Own w BG TR (.slice (some ⟨G, 0, none⟩) N cap) V) (hr : OwnVs w B T V R) (hf : FarApart V) (hG : G < w0.heap.size) (cur : Kin) (hc : kinV V R cur) :
    GrowV w0 w B BG T TR G N cap V R cur (.slice none 0 0) [] :=
  ⟨ht.mono (fun _ _ h => .inr h), ho, (fam_vs hr hf).sub fun s h => by
    rcases h with h | h | rfl
    · exact h
    · cases h
    · exact hc, Own.nil _ _ _, fun g hg => .inr ⟨_, _, hc.1, hg⟩, hG⟩
/-- The next row. -/
theorem GrowV.next (h : GrowV w0 w B BG T TR G N cap V R cur vl L) (c2 : Kin) (hc : kinV V R c2) : GrowV w0 w B BG T TR G N cap V R c2 vl L :=
  ⟨h.touch, h.own, h.fam.sub fun s k => by
    rcases k with k | k | rfl
    · exact .inl k
    · exact .inr (.inl k)
    · exact .inl hc, h.vl, fun g hg => .inr ⟨_, _, hc.1, hg⟩, h.lt⟩
theorem GrowV.cur_ (h : GrowV w0 w B BG T TR G N cap V R cur vl L) (hR : T ≠ TR) (hlong : ∀ s, s ∈ L → s.lab = cur.lab → s.xs.length ≤ cur.xs.length) (hbase : (R cur.lab).length ≤ cur.xs.length)
    {box : Obj} {v' : Value} {ys : List Value} (h1 : Own w1 B T v' ys) (h2 : Moved (w.alloc box) w1 cur.val v') (h3 : Own w1 B T cur.val cur.xs) :
    GrowV w0 w1 B BG T TR G N cap V R ⟨cur.lab, v', ys⟩ vl L := by
  have hx : Ext w (w.alloc box) := (Ext.refl w).alloc box
  have hcur : Own (w.alloc box) B T cur.val cur.xs := (h.fam.own cur (.inr (.inr rfl))).ext hx
  have keep : ∀ {B' : Nat} {T' : TypeId} {v : Value} {zs : List Value}, Own w B' T' v zs → T ≠ T' → Own w1 B' T' v zs := fun {B' T' v zs} ho hne => by
    refine (ho.ext hx).kept h2.grown ?_
    rcases (ho.ext hx).types hcur (Ne.symm hne) with e | e
    · exact .inl e
    · exact .inr e
  have hsz : w0.heap.size ≤ w.heap.size := h.touch.size
  refine ⟨h.touch.trans (hx.touch.trans (touch_grown h2.grown fun k hk hlt => h.curB k hk)), keep h.own hR, ?_, keep h.vl hR, ?_, h.lt⟩
  · refine ((h.fam.ext hx).push (s := cur) (.inr (.inr rfl)) ?_ h1 h2 h3).sub ?_
    · intro t ht hl
      rcases ht with ht | ht | rfl
      · rw [ht.2, hl]; exact hbase
      · exact hlong t ht hl
      · exact Nat.le_refl _
    · intro s hs
      rcases hs with hs | hs | rfl
      · exact .inr (.inl hs)
      · exact .inr (.inr (.inl hs))
      · exact .inl rfl
  · intro g hg
    rcases h2 with ⟨e, _⟩ | ⟨e, _⟩
    · exact h.curB g (e ▸ hg)
    · rw [e] at hg
      injection hg with hg
      subst hg
      left
      simp; omega
/-- What was grown is kept. -/
theorem GrowV.long_ (h : GrowV w0 w B BG T TR G N cap V R cur vl L) (hR : T ≠ TR)
    {box : Obj} {v' : Value} (h1 : Own w1 w0.heap.size TR v' (L.map Kin.val ++ [cur.val])) (h2 : Moved (w.alloc box) w1 vl v') :
    GrowV w0 w1 B BG T TR G N cap V R cur v' (L ++ [cur]) := by
  have hx : Ext w (w.alloc box) := (Ext.refl w).alloc box
  have hvl := h.vl.ext hx
  have hsz : w0.heap.size ≤ w.heap.size := h.touch.size
  refine ⟨h.touch.trans (hx.touch.trans (touch_grown h2.grown fun k hk hlt => .inl (hvl.lt k hk).1)), (h.own.ext hx).kept h2.grown (.inr fun e => ?_), ?_, by rw [List.map_append]; exact h1, h.curB, h.lt⟩
  · have := (hvl.lt G e.symm).1
    have := h.lt
    omega
  · refine ((h.fam.ext hx).other hvl hR h2).sub fun s hs => ?_
    rcases hs with hs | hs | rfl
    · exact .inl hs
    · rcases List.mem_append.1 hs with hs | hs
      · exact .inr (.inl hs)
      · exact .inr (.inr (by simpa using hs))
    · exact .inr (.inr rfl)
theorem GrowV.fin (h : GrowV w0 w B BG T TR G N cap V R cur vl L) : Touch (InRows V) w0 w := h.touch.mono fun k hk e => e.elim (fun h => absurd h (by omega)) id
end
/-- What a row of the list is, by its label, in the growing phase. -/
structure HistV (R : Nat → List Value) (mk : Nat → Value) (N M i k : Nat) (s : Kin) : Prop where
  lt : s.lab < N
  le : s.lab ≤ i
  xs : ∃ m, m ≤ M ∧ (s.lab = i → m ≤ k) ∧ s.xs = R s.lab ++ List.replicate m (mk s.lab)
section
variable {R : Nat → List Value} {mk : Nat → Value} {N M i k : Nat} {s : Kin}
theorem HistV.more (h : HistV R mk N M i k s) : HistV R mk N M i (k + 1) s := by
  obtain ⟨m, h1, h2, h3⟩ := h.xs
  exact ⟨h.lt, h.le, m, h1, fun e => Nat.le_succ_of_le (h2 e), h3⟩
theorem HistV.next (h : HistV R mk N M i k s) : HistV R mk N M (i + 1) 0 s := by
  obtain ⟨m, h1, h2, h3⟩ := h.xs
  exact ⟨h.lt, Nat.le_succ_of_le h.le, m, h1, fun e => by have := h.le; omega, h3⟩
theorem HistV.len (h : HistV R mk N M i k s) (hl : s.lab = i) : s.xs.length ≤ (R i).length + k := by
  obtain ⟨m, h1, h2, h3⟩ := h.xs
  have := h2 hl
  rw [h3, List.length_append, List.length_replicate, hl]
  omega
theorem HistV.kin (h : HistV R mk N M i k s) : ∃ m, m ≤ M ∧ s.xs = R s.lab ++ List.replicate m (mk s.lab) := by
  obtain ⟨m, h1, _, h3⟩ := h.xs
  exact ⟨m, h1, h3⟩
end
/-- The labels of a list of rows of which each was grown M times. -/
def Labs (M : Nat) (L : List Kin) : Prop := ∀ k s, L[k]? = some s → s.lab = k / M
theorem Labs.snoc {M : Nat} {L : List Kin} (h : Labs M L) {s : Kin} (hs : s.lab = L.length / M) : Labs M (L ++ [s]) := fun k t ht => by
  rcases Nat.lt_trichotomy k L.length with h1 | h1 | h1
  · rw [List.getElem?_append_left h1] at ht; exact h k t ht
  · subst h1
    rw [List.getElem?_append_right (Nat.le_refl _)] at ht
    simp at ht
    subst ht
    exact hs
  · rw [List.getElem?_eq_none (by simp; omega)] at ht; cases ht
end Go.Proofs.Ytemnlcfabaocbaa
/-
  Rows that were answered one after the other: each lies in new memory between two sizes of the world, so no two share a block.
-/
namespace Go.Proofs.Ytemnlcfabaocbaa
open Go.RowKit Gf
set_option linter.unusedVariables false

/-- A row of the call's own that lies between two sizes of the world. -/
structure Span (w : World) (lo hi : Nat) (T : TypeId) (v : Value) (xs : List Value) : Prop where
  own : Own w lo T v xs
  up : ∀ g, v.ownBlock = some g → g < hi
section
variable {w w' : World} {lo hi : Nat} {T : TypeId} {v : Value} {xs : List Value}
theorem Span.of {B : Nat} (h : Own w' B T v xs) : Span w' B w'.heap.size T v xs := ⟨h, fun g hg => (h.lt g hg).2⟩
theorem Span.ext (h : Span w lo hi T v xs) (hx : Ext w w') : Span w' lo hi T v xs := ⟨h.own.ext hx, h.up⟩
theorem Span.touch {S : Nat → Prop} (h : Span w lo hi T v xs) (ht : Touch S w w') (hS : ∀ k, lo ≤ k → k < hi → ¬ S k) : Span w' lo hi T v xs :=
  ⟨h.own.touch ht fun g hg => hS g (h.own.lt g hg).1 (h.up g hg), h.up⟩
theorem Span.rd {A : Option Addr} {n c : Nat} (h : Span w lo hi T (.slice A n c) xs) : Rd w A xs := h.own.rd
theorem Span.slice (h : Span w lo hi T v xs) : ∃ A c, v = .slice A xs.length c ∧ xs.length ≤ c ∧ c ≤ maxLen := by
  obtain ⟨A, c, h1, h2, h3, h4, _⟩ := h.own.slice
  exact ⟨A, c, h1, h3, h4⟩
end
/-- Rows one behind the other, with what bounds their blocks. -/
structure PileV (w : World) (lo hi : Nat) (T : TypeId) (V : List Value) (rs : List (List Value)) : Prop where
  len : V.length = rs.length
  rows : ∀ (i : Nat) (v : Value), V[i]? = some v → Own w lo T v (rs.getD i [])
  up : ∀ (i : Nat) (v : Value) (g : Nat), V[i]? = some v → v.ownBlock = some g → g < hi
  far : FarApart V
section
variable {w w' : World} {lo hi : Nat} {T : TypeId} {V : List Value} {rs : List (List Value)}
theorem PileV.one {v : Value} {xs : List Value} (h : Span w lo hi T v xs) : PileV w lo hi T [v] [xs] := by
  refine ⟨rfl, fun i u hu => ?_, fun i u g hu hg => ?_, fun i j vi vj hi hj hne => ?_⟩
  · cases i with
    | zero => simp at hu; subst hu; exact h.own
    | succ i => simp at hu
  · cases i with
    | zero => simp at hu; subst hu; exact h.up g hg
    | succ i => simp at hu
  · have : i = 0 := by
      have := (List.getElem?_eq_some_iff.1 hi).1
      simp at this; exact this
    have : j = 0 := by
      have := (List.getElem?_eq_some_iff.1 hj).1
      simp at this; exact this
    omega
theorem PileV.append {m m' : Nat} {U : List Value} {ss : List (List Value)} (h : PileV w lo m T V rs) (k : PileV w m' hi T U ss) (hm : m ≤ m') (hlo : lo ≤ m') (hhi : m ≤ hi) : PileV w lo hi T (V ++ U) (rs ++ ss) := by
  refine ⟨by simp [h.len, k.len], fun i v hi => ?_, fun i v g hi hg => ?_, h.far.append (n := m) k.far h.up fun i v g hi hg => Nat.le_trans hm ((k.rows i v hi).lt g hg).1⟩
  · rcases Nat.lt_or_ge i V.length with h1 | h1
    · rw [List.getElem?_append_left h1] at hi
      rw [List.getD_eq_getElem?_getD, List.getElem?_append_left (by rw [← h.len]; exact h1), ← List.getD_eq_getElem?_getD]
      exact h.rows i v hi
    · rw [List.getElem?_append_right h1] at hi
      rw [List.getD_eq_getElem?_getD, List.getElem?_append_right (by rw [← h.len]; exact h1), ← List.getD_eq_getElem?_getD, ← h.len]
      exact (k.rows _ v hi).mono hlo
  · rcases Nat.lt_or_ge i V.length with h1 | h1
    · rw [List.getElem?_append_left h1] at hi
      have := h.up i v g hi hg
      omega
    · rw [List.getElem?_append_right h1] at hi
      exact k.up _ v g hi hg
theorem PileV.snoc {m m' : Nat} {v : Value} {xs : List Value} (h : PileV w lo m T V rs) (k : Span w m' hi T v xs) (hm : m ≤ m') (hlo : lo ≤ m') (hhi : m ≤ hi) : PileV w lo hi T (V ++ [v]) (rs ++ [xs]) := h.append (PileV.one k) hm hlo hhi
theorem PileV.ext (h : PileV w lo hi T V rs) (hx : Ext w w') : PileV w' lo hi T V rs := ⟨h.len, fun i v hi => (h.rows i v hi).ext hx, h.up, h.far⟩
theorem PileV.within (h : PileV w lo hi T V rs) {k : Nat} (hk : InRows V k) : lo ≤ k ∧ k < hi := by
  obtain ⟨i, v, hi, hg⟩ := hk
  exact ⟨((h.rows i v hi).lt k hg).1, h.up i v k hi hg⟩
theorem PileV.vs (h : PileV w lo hi T V rs) : OwnVs w lo T V (fun i => rs.getD i []) := ⟨h.rows⟩
theorem PileV.touch {S : Nat → Prop} (h : PileV w lo hi T V rs) (ht : Touch S w w') (hS : ∀ k, lo ≤ k → k < hi → ¬ S k) : PileV w' lo hi T V rs :=
  ⟨h.len, fun i v hi => (h.rows i v hi).touch ht fun g hg => hS g ((h.rows i v hi).lt g hg).1 (h.up i v g hi hg), h.up, h.far⟩
theorem PileV.ones (h : PileV w lo hi T V rs) : ∀ u ∈ V, u.oneCell' = true := fun u hu => by
  obtain ⟨i, hi⟩ := List.mem_iff_getElem?.1 hu
  exact (h.rows i u hi).oneCell
end
theorem getDV_len {rs : List (List Value)} {n : Nat} (h : ∀ r ∈ rs, r.length ≤ n) (i : Nat) : (rs.getD i []).length ≤ n := by
  rw [List.getD_eq_getElem?_getD]
  cases e : rs[i]? with
  | none => simp
  | some r => exact h r (List.mem_of_getElem? e)
end Go.Proofs.Ytemnlcfabaocbaa
/-
  The walks of the laws' own helpers elems and sameElems of chapter 5.
-/
namespace Go.Proofs.Ytemnlcfabaocbaa
open Go.RowKit Gf
set_option maxRecDepth 20000
set_option linter.unusedVariables false

theorem elems5_n (A : Option Addr) (n : Nat) (xs : List E) (cap : Nat) (w : World) (hn : xs.length = n) (hr : Rd w A (bs xs)) (hlen : n ≤ 140737488355228) :
    Calls Try.prog 75 #[.slice A n cap] w fun e w' => ∃ v, e = .returned v ∧ Own w' w.heap.size 34 v (bs xs) ∧ Ext w w' := by
  have HN := Lib.hid hn
  clear hn
  go_enter Try.func75, Try.ntmps75
  go_wp2_with fail
  go_loopw [3, 4] (fun v i wr => ∃ (k : Nat) (V : Value), V = v ∧ k ≤ n ∧ i = .int .i64 k ∧ Ext w wr ∧ Own wr w.heap.size 34 V (bs (xs.take k))) (fun _ i _ => n - (intOf i).toNat)
  case atStart => exact ⟨0, _, rfl, by omega, rfl, Ext.refl _, Own.nil _ _ _⟩
  case round =>
    obtain ⟨k, V, rfl, hk, rfl, hx, ho⟩ := hrel
    by_cases hlt : k < n
    · have hkt : k < xs.length := by rw [HN.out]; exact hlt
      obtain ⟨ad, rfl, hck⟩ := (hr.ext hx).byte hkt
      have hle := hx.le
      have hbd : ((bs (xs.take k)).length + 1) * 1 ≤ 140737488355328 := by have := bs_len_le xs k; have := HN.out; omega
      have hsn := bs_snoc xs k hkt
      have hkl := (xs[k]).lt
      go_wp2_with (at_builtin; refine wpList_push wr eltEl rfl _ _ (by rfl) w.heap.size V _ (by rfl) (by exact ho) (.int .u8 (xs[k]).val) (by rfl) rfl hbd hle ?_; intro v' w' ho' _ hb' _)
      go_roundw
      case rel => exact ⟨k + 1, _, rfl, by omega, by go_num, Below.trans hx hb', by rw [hsn]; exact ho'⟩
      case measure => simp [intOf]; omega
    · obtain rfl : k = n := by omega
      have hta : xs.take k = xs := List.take_of_length_le (by rw [HN.out]; exact Nat.le_refl _)
      rw [hta] at ho
      go_wp2
      go_ret
      exact ⟨_, rfl, ho, hx⟩
theorem sameElems_n (A B : Option Addr) (n m : Nat) (xs : List E) (ca cb : Nat) (w : World) (hn : xs.length = n) (hm : xs.length = m) (hr : Rd w A (bs xs)) (hs : Rd w B (bs xs)) (hlen : n ≤ 9000000000000000000) :
    Calls Try.prog 76 #[.slice A n ca, .slice B m cb] w fun e w' => e = .returned (.bool true) ∧ Ext w w' := by
  subst hn
  subst hm
  go_enter Try.func76, Try.ntmps76
  go_wp2_with fail
  go_loopw [5] (fun i wr => ∃ k : Nat, k ≤ xs.length ∧ i = .int .i64 k ∧ Ext w wr) (fun i _ => xs.length - (intOf i).toNat)
  case atStart => exact ⟨0, by omega, rfl, Ext.refl _⟩
  case round =>
    obtain ⟨k, hk, rfl, hbel⟩ := hrel
    by_cases hlt : k < xs.length
    · obtain ⟨ad, rfl, hc1⟩ := (hr.ext hbel).byte hlt
      obtain ⟨bd, rfl, hc2⟩ := (hs.ext hbel).byte hlt
      have hl0 : (0 : Int) ≤ (k : Int) := by omega
      have hl1 : (k : Int) < (xs.length : Int) := by omega
      have hv := (xs[k]).lt
      go_wp2_with fail
      go_quiet (fail)
      go_wp2
      go_roundw
      case rel => exact ⟨k + 1, by omega, by go_num, hbel.drewN _⟩
      case measure => simp [intOf]; omega
    · obtain rfl : k = xs.length := by omega
      go_wp2
      go_ret
      exact ⟨rfl, hbel⟩
end Go.Proofs.Ytemnlcfabaocbaa
/-
  A list of the call's own whose elements are turned one by one in their place.
-/
namespace Go.Proofs.Ytemnlcfabaocbaa
open Go.RowKit Gf
set_option linter.unusedVariables false

def turnedV (f : Value → Value) (l : List Value) (k : Nat) : List Value := (l.take k).map f ++ l.drop k
theorem turnedV_zero (f : Value → Value) (l : List Value) : turnedV f l 0 = l := by simp [turnedV]
theorem turnedV_all (f : Value → Value) (l : List Value) : turnedV f l l.length = l.map f := by simp [turnedV]
theorem turnedV_length (f : Value → Value) (l : List Value) (k : Nat) : (turnedV f l k).length = l.length := by simp [turnedV]; omega
theorem turnedV_get {f : Value → Value} {l : List Value} {k : Nat} {x : Value} (h : l[k]? = some x) : (turnedV f l k)[k]? = some x := by
  obtain ⟨hk, hx⟩ := List.getElem?_eq_some_iff.1 h
  rw [turnedV, List.getElem?_append_right (by simp; omega), List.getElem?_drop]
  simp only [List.length_map, List.length_take]
  rw [show k + (k - min k l.length) = k by omega, h]
theorem turnedV_set {f : Value → Value} {l : List Value} {k : Nat} {x y : Value} (h : l[k]? = some x) (hy : f x = y) : (turnedV f l k).set k y = turnedV f l (k + 1) := by
  obtain ⟨hk, hx⟩ := List.getElem?_eq_some_iff.1 h
  have e : l.drop k = x :: l.drop (k + 1) := by rw [← hx]; exact List.drop_eq_getElem_cons hk
  have e2 : l.take (k + 1) = l.take k ++ [x] := by rw [← hx]; exact take_snoc' l k hk
  rw [turnedV, turnedV, e2, e, List.map_append, List.append_assoc, List.set_append_right _ _ (by simp; omega)]
  simp [Nat.min_eq_left (Nat.le_of_lt hk), hy]
structure TurnV (w0 w : World) (B : Nat) (T : TypeId) (v : Value) (f : Value → Value) (xs : List Value) (k : Nat) : Prop where
  touch : Touch (fun b => v.ownBlock = some b) w0 w
  own : Own w B T v (turnedV f xs k)
section
variable {w0 w : World} {B : Nat} {T : TypeId} {v : Value} {f : Value → Value} {xs : List Value} {k : Nat}
theorem TurnV.start (h : Own w B T v xs) : TurnV w w B T v f xs 0 := ⟨Touch.refl _, by rw [turnedV_zero]; exact h⟩
theorem TurnV.cell {g n c : Nat} (h : TurnV w0 w B T (.slice (some ⟨g, 0, none⟩) n c) f xs k) {x : Value} (hx : xs[k]? = some x) : w.cell? ⟨g, k, none⟩ = some x := h.own.cell (turnedV_get hx)
theorem TurnV.step {g n c : Nat} (h : TurnV w0 w B T (.slice (some ⟨g, 0, none⟩) n c) f xs k) {x y : Value} (hx : xs[k]? = some x) (hy : f x = y) : TurnV w0 (w.setCell ⟨g, k, none⟩ y) B T (.slice (some ⟨g, 0, none⟩) n c) f xs (k + 1) :=
  ⟨h.touch.trans (touch_set w ⟨g, k, none⟩ _ rfl), by have := h.own.set k y; rwa [turnedV_set hx hy] at this⟩
end
/-- One more, of a byte. -/
def incV (v : Value) : Value := match v with | .int k z => .int k (IntKind.u8.wrap (z + 1)) | v => v
theorem incV_bs (l : List E) : (bs l).map incV = bs (l.map (incBy 1)) := by
  simp only [bs, List.map_map]
  apply List.map_congr_left
  intro x _
  show Value.int .u8 (IntKind.u8.wrap ((x.val : Int) + 1)) = .int .u8 _
  have := incBy_val 1 x
  rw [← this]; rfl
def notV (v : Value) : Value := match v with | .bool b => .bool (!b) | v => v
theorem notV_bools (l : List Bool) : (bools l).map notV = bools (l.map not) := by
  simp only [bools, List.map_map]
  rfl
theorem InRows.mem {V : List Value} {k : Nat} (h : InRows V k) : ∃ v ∈ V, v.ownBlock = some k := by
  obtain ⟨i, v, hi, hg⟩ := h
  exact ⟨v, List.mem_of_getElem? hi, hg⟩
theorem Span.in_ {w : World} {lo hi : Nat} {T : TypeId} {v : Value} {xs : List Value} (h : Span w lo hi T v xs) {k : Nat} (hk : v.ownBlock = some k) : lo ≤ k ∧ k < hi := ⟨(h.own.lt k hk).1, h.up k hk⟩
theorem Own.opened {w : World} {B : Nat} {T : TypeId} {v : Value} {xs : List Value} (h : Own w B T v xs) :
    ∃ A c, v = .slice A xs.length c ∧ Rd w A xs ∧ xs.length ≤ c ∧ c ≤ maxLen ∧ (0 < xs.length → ∃ g, A = some ⟨g, 0, none⟩) := by
  rcases h.form with ⟨hv, hn⟩ | ⟨g, cap, hv, hb, hlt, hn, hm⟩
  · have h0 : xs.length = 0 := by rw [hn]; rfl
    exact ⟨none, 0, by rw [hv, h0], by rw [hn]; exact Rd.nil _ _, by omega, Nat.zero_le _, fun h => by omega⟩
  · subst hv
    exact ⟨_, cap, rfl, h.rd, hn, hm, fun _ => ⟨g, rfl⟩⟩
theorem inRows_append {V U : List Value} {k : Nat} (h : InRows (V ++ U) k) : InRows V k ∨ InRows U k := by
  obtain ⟨i, v, hi, hg⟩ := h
  rcases Nat.lt_or_ge i V.length with h1 | h1
  · rw [List.getElem?_append_left h1] at hi; exact .inl ⟨i, v, hi, hg⟩
  · rw [List.getElem?_append_right h1] at hi; exact .inr ⟨_, v, hi, hg⟩
theorem Span.others {w w' : World} {lo hi B : Nat} {T T' : TypeId} {v : Value} {xs : List Value} {V : List Value} {R : Nat → List Value} (h : Span w lo hi T v xs) (hv : OwnVs w B T' V R) (hne : T ≠ T') (ht : Touch (InRows V) w w') : Span w' lo hi T v xs :=
  ⟨h.own.touch ht fun g hg ⟨i, u, hi, hu⟩ => by
    rcases h.own.types (hv.own i u hi) hne with e | e
    · rw [e] at hg; cases hg
    · exact e (hg.trans hu.symm), h.up⟩
end Go.Proofs.Ytemnlcfabaocbaa
/-
  The walks of the laws' own helpers apartElems and apartInts of chapter 5: rows of the call's own, no two of which share a block, are found apart.
-/
namespace Go.Proofs.Ytemnlcfabaocbaa
open Go.RowKit Gf
set_option maxRecDepth 20000
set_option linter.unusedVariables false

theorem infoRowInt : (Try.prog.info? 70).map (fun i => (i.zero, i.size, i.bytes)) = some (some (.slice none 0 0), 1, 24) := by kernel_rfl
theorem eltRowInt : Elt Try.prog 90 70 (.slice none 0 0) 24 := ⟨by kernel_rfl, info_parts infoRowInt, rfl, by decide⟩
def mkE1 (i : Nat) : Value := .int .u8 (100 + (i : Int))
def mkE2 (i : Nat) : Value := .int .u8 (200 + (i : Int))
def mkI1 (i : Nat) : Value := .int .i64 (-200 - (i : Int))
def mkI2 (i : Nat) : Value := .int .i64 (1000 + (i : Int))
theorem kin_cell {w : World} {A : Option Addr} {n m : Nat} {a b : Value} (h : Rd w A (List.replicate n a ++ List.replicate m b)) {k : Nat} (hk : k < n + m) : ∃ ad, A = some ad ∧ w.cell? (ad.add k) = some (if k < n then a else b) := by
  obtain ⟨ad, hA, hc⟩ := h (by simp; omega)
  refine ⟨ad, hA, hc k _ ?_⟩
  by_cases hkn : k < n
  · rw [List.getElem?_append_left (by simpa using hkn), if_pos hkn, List.getElem?_replicate, if_pos hkn]
  · rw [List.getElem?_append_right (by simp; omega), if_neg hkn, List.length_replicate, List.getElem?_replicate, if_pos (by omega)]
theorem rep_cell {w : World} {A : Option Addr} {n : Nat} {a : Value} (h : Rd w A (List.replicate n a)) {k : Nat} (hk : k < n) : ∃ ad, A = some ad ∧ w.cell? (ad.add k) = some a := by
  obtain ⟨ad, hA, hc⟩ := h (by simp; omega)
  exact ⟨ad, hA, hc k _ (by rw [List.getElem?_replicate, if_pos hk])⟩
set_option maxHeartbeats 4000000 in
theorem apartElems_n (G cap N : Nat) (V : List Value) (R : Nat → List Value) (B BG : Nat) (w : World) (hVN : V.length = N) (hown : Own w BG 26 (.slice (some ⟨G, 0, none⟩) N cap) V)
    (hrows : OwnVs w B 34 V R) (hfar : FarApart V) (hN : N ≤ 6) (hlen : ∀ i, (R i).length ≤ 1000000000) (hB : B ≤ w.heap.size) (hN0 : 0 < N) :
    Calls Try.prog 77 #[.slice (some ⟨G, 0, none⟩) N cap] w fun e w' => e = .returned (.bool true) ∧ Touch (InRows V) w w' := by
  have HVN := Lib.hid hVN
  have HFAR := Lib.hid hfar
  have HLEN := Lib.hid hlen
  have hGlt : G < w.heap.size := by obtain ⟨_, cs, hb, _⟩ := hown.blk; exact hb.lt
  have HGL := Lib.hid hGlt
  have hT : 34 ≠ 26 := by decide
  clear hVN hfar hlen hGlt
  go_enter Try.func77, Try.ntmps77
  go_wp2_with fail
  go_loopw [3] (fun i wr => ∃ k : Nat, k ≤ N ∧ i = .int .i64 k ∧ MarkV w wr B BG 34 26 G N cap V R mkE1 k 0) (fun i _ => N - (intOf i).toNat)
  case atStart => exact ⟨0, by omega, rfl, MarkV.start hown hrows⟩
  case round =>
    obtain ⟨i, hi, rfl, hM⟩ := hrel
    by_cases hlt : i < N
    · obtain ⟨v, hv⟩ : ∃ v, V[i]? = some v := ⟨_, List.getElem?_eq_getElem (by rw [HVN.out]; exact hlt)⟩
      obtain ⟨A, c, rfl, hc, hlc, hcm, hsome⟩ := hM.at_ hv
      have hlb := HLEN.out i
      have HV := Lib.hid hv
      have HM := Lib.hid hM
      clear hv hcm hM hc
      go_wp2_with fail
      go_loopw [4] (fun jj wr => ∃ j : Nat, j ≤ (R i).length ∧ jj = .int .i64 j ∧ MarkV w wr B BG 34 26 G N cap V R mkE1 i j) (fun jj _ => (R i).length - (intOf jj).toNat)
      case atStart => exact ⟨0, by omega, rfl, HM.out⟩
      case round =>
        obtain ⟨j, hj, rfl, hM⟩ := hrel
        obtain ⟨_, _, e, hc, -⟩ := hM.at_ HV.out
        injection e with e1 e2 e3
        subst e1 e3
        clear e2 HM
        by_cases hlt2 : j < (R i).length
        · obtain ⟨g, rfl⟩ := hsome (by omega)
          obtain ⟨x, hx⟩ := hM.old HV.out hlt2
          have hfr := hM.frozen HV.out j
          have HM : Hid (MarkV w (wr.setCell ⟨g, j, none⟩ (.int .u8 (100 + (i : Int)))) B BG 34 26 G N cap V R mkE1 i (j + 1)) := Lib.hid (hM.step HFAR.out hT HV.out hlt2)
          clear hM
          go_wp2_with fail
          go_roundw
          case rel => exact ⟨j + 1, by omega, by go_num, HM.out⟩
          case measure => simp [intOf]; omega
        · obtain rfl : j = (R i).length := by omega
          have HM := Lib.hid hM.next
          clear hM
          go_wp2_with fail
          go_roundw
          case rel => exact ⟨i + 1, by omega, by go_num, HM.out⟩
          case measure => simp [intOf]; omega
    · obtain rfl : N = i := by omega
      have hR2 := hM.done HVN.out
      have hT1 := hM.touch
      have hO1 := hM.own
      obtain ⟨R2, hR2e⟩ : ∃ R2 : Nat → List Value, R2 = fun r => List.replicate (R r).length (mkE1 r) := ⟨_, rfl⟩
      have HR2 := Lib.hid (show ∀ r, R2 r = List.replicate (R r).length (mkE1 r) by rw [hR2e]; exact fun _ => rfl)
      have HR2L := Lib.hid (show ∀ r, (R2 r).length ≤ 1000000000 from fun r => by rw [hR2e]; show (List.replicate _ _).length ≤ _; rw [List.length_replicate]; exact HLEN.out r)
      rw [← hR2e] at hR2
      have HG0 : Hid (∃ cur : Kin, GrowV w wr B BG 34 26 G N cap V R2 cur (.slice none 0 0) []) := by
        obtain ⟨v, hv⟩ : ∃ v, V[0]? = some v := ⟨_, List.getElem?_eq_getElem (by rw [HVN.out]; exact hN0)⟩
        exact Lib.hid ⟨⟨0, v, R2 0⟩, GrowV.start hT1 hO1 hR2 HFAR.out HGL.out _ ⟨hv, rfl⟩⟩
      have hwr : w.heap.size ≤ wr.heap.size := hT1.size
      clear hM hR2e hR2 hT1 hO1 hown hrows
      go_wp2_with fail
      go_loopw [5, 6] (fun vl i wr => ∃ (k : Nat) (cur : Kin) (VL : Value) (L : List Kin), VL = vl ∧ k ≤ N ∧ i = .int .i64 k ∧ GrowV w wr B BG 34 26 G N cap V R2 cur VL L ∧ L.length = 66 * k ∧ (∀ s, s ∈ L → HistV R2 mkE2 N 66 k 0 s) ∧ Labs 66 L) (fun _ i _ => N - (intOf i).toNat)
      case atStart => obtain ⟨cur, h⟩ := HG0.out; exact ⟨0, cur, _, [], rfl, by omega, rfl, h, rfl, (fun s hs => by cases hs), (fun k s hk => by simp at hk)⟩
      case round =>
        obtain ⟨i, cur, VL, L, rfl, hi, rfl, hG, hLl, hH, hLb⟩ := hrel
        clear HG0
        by_cases hlt : i < N
        · obtain ⟨v, hv⟩ : ∃ v, V[i]? = some v := ⟨_, List.getElem?_eq_getElem (by rw [HVN.out]; exact hlt)⟩
          have hc := hG.own.cell hv
          have HST : Hid (GrowV w wr B BG 34 26 G N cap V R2 ⟨i, v, R2 i ++ List.replicate 0 (mkE2 i)⟩ VL L) := Lib.hid (hG.next ⟨i, v, _⟩ ⟨hv, by simp⟩)
          have HH : Hid ((∀ s, s ∈ L → HistV R2 mkE2 N 66 i 0 s) ∧ Labs 66 L) := Lib.hid ⟨hH, hLb⟩
          have HLL := Lib.hid hLl
          have hiN := hlt
          clear hG hv hH hLl hLb
          go_wp2_with fail
          clear hc
          go_loopw [5, 7, 8] (fun vl g k wr => ∃ (j : Nat) (v VL : Value) (L : List Kin), v = g ∧ VL = vl ∧ j ≤ 66 ∧ k = .int .i64 j ∧ GrowV w wr B BG 34 26 G N cap V R2 ⟨i, v, R2 i ++ List.replicate j (mkE2 i)⟩ VL L ∧ L.length = 66 * i + j ∧ (∀ s, s ∈ L → HistV R2 mkE2 N 66 i j s) ∧ Labs 66 L) (fun _ _ k _ => 66 - (intOf k).toNat)
          case atStart => exact ⟨0, v, VL, L, rfl, rfl, by omega, rfl, HST.out, HLL.out, HH.out.1, HH.out.2⟩
          case round =>
            obtain ⟨j, v, VL, L, rfl, rfl, hj, rfl, hG, hLl, hH, hLb⟩ := hrel
            clear HST HH HLL
            by_cases hlt2 : j < 66
            · have HG := Lib.hid hG
              have HH : Hid ((∀ s, s ∈ L → HistV R2 mkE2 N 66 i j s) ∧ Labs 66 L) := Lib.hid ⟨hH, hLb⟩
              have HLL := Lib.hid hLl
              have hrl := HR2L.out i
              have hcur : Own wr B 34 v (R2 i ++ List.replicate j (mkE2 i)) := hG.fam.own _ (.inr (.inr rfl))
              have hle : B ≤ wr.heap.size := Nat.le_trans hB hG.touch.size
              have hbd : ((R2 i ++ List.replicate j (mkE2 i)).length + 1) * 1 ≤ 140737488355328 := by rw [List.length_append, List.length_replicate]; omega
              have HCUR := Lib.hid hcur
              clear hG hH hLl hcur hLb
              go_wp2_with (at_builtin; refine wpList_push2 wr eltEl rfl _ _ (by rfl) B v _ (by rfl) (by exact HCUR.out) (.int .u8 (200 + (i : Int))) wr.heap.size rfl (by rfl) rfl hbd hle ?_)
              intro v1 w1 h1 h2 h3 h4
              obtain ⟨A1, n1, c1, rfl⟩ : ∃ A n c, v1 = Value.slice A n c := by obtain ⟨A, c, h⟩ := h1.anySlice; exact ⟨_, _, _, h⟩
              have h1' : Own w1 B 34 (.slice A1 n1 c1) (R2 i ++ List.replicate (j + 1) (mkE2 i)) := by
                rw [List.replicate_succ']
                exact h1
              have HG1 := Lib.hid (HG.out.cur_ hT (fun s hs hl => by show s.xs.length ≤ (R2 i ++ List.replicate j (mkE2 i)).length; rw [List.length_append, List.length_replicate]; exact (HH.out.1 s hs).len hl) (by show (R2 i).length ≤ (R2 i ++ List.replicate j (mkE2 i)).length; rw [List.length_append]; exact Nat.le_add_right _ _) h1' h2 h4)
              have hle1 : w.heap.size ≤ w1.heap.size := HG1.out.touch.size
              have hbd1 : ((L.map Kin.val).length + 1) * 24 ≤ 140737488355328 := by rw [List.length_map]; have := HLL.out; omega
              clear h1 h1' h2 h3 h4 hle hbd
              go_wp2_with (at_builtin; refine wpList_push2 w1 eltRowEl rfl _ _ (by rfl) w.heap.size VL _ (by rfl) (by exact HG1.out.vl) (.slice A1 n1 c1) w1.heap.size rfl (by rfl) rfl hbd1 hle1 ?_)
              intro vl2 w2 h1 h2 h3 h4
              have HG2 := Lib.hid (HG1.out.long_ hT h1 h2)
              have HH3 : Hid ((∀ s, s ∈ L ++ [⟨i, .slice A1 n1 c1, R2 i ++ List.replicate (j + 1) (mkE2 i)⟩] → HistV R2 mkE2 N 66 i (j + 1) s) ∧ Labs 66 (L ++ [⟨i, .slice A1 n1 c1, R2 i ++ List.replicate (j + 1) (mkE2 i)⟩])) := Lib.hid ⟨fun s hs => by
                rcases List.mem_append.1 hs with hs | hs
                · exact (HH.out.1 s hs).more
                · obtain rfl : s = ⟨i, .slice A1 n1 c1, R2 i ++ List.replicate (j + 1) (mkE2 i)⟩ := by simpa using hs
                  exact ⟨hiN, Nat.le_refl _, j + 1, by omega, fun _ => Nat.le_refl _, rfl⟩, HH.out.2.snoc (by rw [HLL.out]; show i = _; omega)⟩
              clear h1 h2 h3 h4 hle1 hbd1
              go_wp2_with fail
              go_roundw
              case rel => exact ⟨j + 1, .slice A1 n1 c1, vl2, _, rfl, rfl, by omega, by go_num, HG2.out, by rw [List.length_append, HLL.out]; simp; omega, HH3.out.1, HH3.out.2⟩
              case measure => simp [intOf]; omega
            · obtain rfl : j = 66 := by omega
              have HG := Lib.hid hG
              have HH : Hid ((∀ s, s ∈ L → HistV R2 mkE2 N 66 (i + 1) 0 s) ∧ Labs 66 L) := Lib.hid ⟨fun s hs => (hH s hs).next, hLb⟩
              have HLL := Lib.hid hLl
              clear hG hH hLl hLb
              go_wp2_with fail
              go_roundw
              case rel => exact ⟨i + 1, _, VL, L, rfl, by omega, by go_num, HG.out, by rw [HLL.out]; omega, HH.out.1, HH.out.2⟩
              case measure => simp [intOf]; omega
        · obtain rfl : N = i := by omega
          have hne : L.map Kin.val ≠ [] := fun e => by have := congrArg List.length e; rw [List.length_map, hLl, List.length_nil] at this; omega
          obtain ⟨gl, cl, rfl, -, -, hl1, hl2⟩ := hG.vl.some_ hne
          rw [List.length_map, hLl] at hG hl1 ⊢
          obtain ⟨M, hM⟩ : ∃ M, 66 * N = M := ⟨_, rfl⟩
          have hMN : M ≤ 6534 := by omega
          have hMN2 : M ≤ 66 * N := by omega
          rw [hM] at hG hl1 hLl ⊢
          have HG := Lib.hid hG
          have HH : Hid (∀ s, s ∈ L → HistV R2 mkE2 N 66 N 0 s) := Lib.hid hH
          have HLB := Lib.hid hLb
          have HLL := Lib.hid hLl
          clear hG hH hLl hne hM hLb
          go_wp2_with fail
          go_loop [9] (fun i => ∃ k : Nat, k ≤ M ∧ i = .int .i64 k) (fun i => M - (intOf i).toNat)
          case atStart => exact ⟨0, by omega, rfl⟩
          case round =>
            obtain ⟨k, hk, rfl⟩ := hrel
            by_cases hlt3 : k < M
            · have hkL : k < L.length := by rw [HLL.out]; exact hlt3
              obtain ⟨s, hs⟩ : ∃ s, L[k]? = some s := ⟨_, List.getElem?_eq_getElem hkL⟩
              have hsm : s ∈ L := List.mem_of_getElem? hs
              obtain ⟨m, hm, hxs⟩ := (HH.out s hsm).kin
              have hlab := (HH.out s hsm).lt
              have hlb2 := HLB.out k s hs
              have hcl : wr.cell? ⟨gl, k, none⟩ = some s.val := HG.out.vl.cell (by rw [List.getElem?_map, hs]; rfl)
              obtain ⟨A, c, hsv, hrd, hlc, hcm, -⟩ := (HG.out.fam.own s (.inr (.inl hsm))).slice
              rw [hsv] at hcl
              rw [hxs] at hcl hrd
              obtain ⟨i, hi⟩ : ∃ i, s.lab = i := ⟨_, rfl⟩
              rw [hi] at hcl hrd hlab hlb2
              have hdv : Int.tdiv (k : Int) 66 = (i : Int) := by rw [Int.tdiv_eq_ediv_of_nonneg (by omega)]; omega
              have hdv2 : (k : Int) / 66 = (i : Int) := by omega
              clear hlb2
              obtain ⟨v0, hv0⟩ : ∃ v, V[i]? = some v := ⟨_, List.getElem?_eq_getElem (by rw [HVN.out]; exact hlab)⟩
              obtain ⟨A0, c0, rfl, hrd0, -, -, -⟩ := (OwnVs.mk (fun i v h => HG.out.fam.own ⟨i, v, _⟩ (.inl ⟨h, rfl⟩)) : OwnVs wr B 34 V R2).at_ hv0
              have hc0 := HG.out.own.cell hv0
              obtain ⟨n, hn⟩ : ∃ n, (R2 i).length = n := ⟨_, rfl⟩
              have hnb : n ≤ 1000000000 := by rw [← hn]; exact HR2L.out i
              have hR2i : R2 i = List.replicate n (mkE1 i) := by rw [← hn, HR2.out]; simp
              rw [List.length_append, List.length_replicate, hn] at hcl
              rw [hn] at hc0
              rw [hR2i] at hrd hrd0
              have HRD := Lib.hid hrd
              have HRD0 := Lib.hid hrd0
              have hib : i < 6 := by omega
              clear hs hsm hxs hsv hrd hlc hcm hi hv0 hrd0 hn hR2i
              go_wp2_with fail
              go_loop [11] (fun jj => ∃ j : Nat, j ≤ n + m ∧ jj = .int .i64 j) (fun jj => n + m - (intOf jj).toNat)
              case atStart => exact ⟨0, by omega, rfl⟩
              case round =>
                obtain ⟨j, hj, rfl⟩ := hrel
                by_cases hlt4 : j < n + m
                · obtain ⟨ad, rfl, hb⟩ := kin_cell HRD.out hlt4
                  by_cases hjn : j < n
                  · obtain ⟨ad0, rfl, hb0⟩ := rep_cell HRD0.out hjn
                    rw [if_pos hjn] at hb
                    rw [mkE1] at hb hb0
                    go_wp2_with fail
                    go_round
                    case rel => exact ⟨j + 1, by omega, by go_num⟩
                    case measure => simp [intOf]; omega
                  · rw [if_neg hjn] at hb
                    rw [mkE2] at hb
                    go_wp2_with fail
                    go_round
                    case rel => exact ⟨j + 1, by omega, by go_num⟩
                    case measure => simp [intOf]; omega
                · obtain rfl : j = n + m := by omega
                  go_wp2_with fail
                  go_round
                  case rel => exact ⟨k + 1, by omega, by go_num⟩
                  case measure => simp [intOf]; omega
            · obtain rfl : M = k := by omega
              go_wp2
              go_ret
              exact ⟨rfl, HG.out.fin⟩
set_option maxHeartbeats 4000000 in
theorem apartInts_n (G cap N : Nat) (V : List Value) (R : Nat → List Value) (B BG : Nat) (w : World) (hVN : V.length = N) (hown : Own w BG 70 (.slice (some ⟨G, 0, none⟩) N cap) V)
    (hrows : OwnVs w B 3 V R) (hfar : FarApart V) (hN : N ≤ 6) (hlen : ∀ i, (R i).length ≤ 1000000000) (hB : B ≤ w.heap.size) (hN0 : 0 < N) :
    Calls Try.prog 74 #[.slice (some ⟨G, 0, none⟩) N cap] w fun e w' => e = .returned (.bool true) ∧ Touch (InRows V) w w' := by
  have HVN := Lib.hid hVN
  have HFAR := Lib.hid hfar
  have HLEN := Lib.hid hlen
  have hGlt : G < w.heap.size := by obtain ⟨_, cs, hb, _⟩ := hown.blk; exact hb.lt
  have HGL := Lib.hid hGlt
  have hT : 3 ≠ 70 := by decide
  clear hVN hfar hlen hGlt
  go_enter Try.func74, Try.ntmps74
  go_wp2_with fail
  go_loopw [3] (fun i wr => ∃ k : Nat, k ≤ N ∧ i = .int .i64 k ∧ MarkV w wr B BG 3 70 G N cap V R mkI1 k 0) (fun i _ => N - (intOf i).toNat)
  case atStart => exact ⟨0, by omega, rfl, MarkV.start hown hrows⟩
  case round =>
    obtain ⟨i, hi, rfl, hM⟩ := hrel
    by_cases hlt : i < N
    · obtain ⟨v, hv⟩ : ∃ v, V[i]? = some v := ⟨_, List.getElem?_eq_getElem (by rw [HVN.out]; exact hlt)⟩
      obtain ⟨A, c, rfl, hc, hlc, hcm, hsome⟩ := hM.at_ hv
      have hlb := HLEN.out i
      have HV := Lib.hid hv
      have HM := Lib.hid hM
      clear hv hcm hM hc
      go_wp2_with fail
      go_loopw [4] (fun jj wr => ∃ j : Nat, j ≤ (R i).length ∧ jj = .int .i64 j ∧ MarkV w wr B BG 3 70 G N cap V R mkI1 i j) (fun jj _ => (R i).length - (intOf jj).toNat)
      case atStart => exact ⟨0, by omega, rfl, HM.out⟩
      case round =>
        obtain ⟨j, hj, rfl, hM⟩ := hrel
        obtain ⟨_, _, e, hc, -⟩ := hM.at_ HV.out
        injection e with e1 e2 e3
        subst e1 e3
        clear e2 HM
        by_cases hlt2 : j < (R i).length
        · obtain ⟨g, rfl⟩ := hsome (by omega)
          obtain ⟨x, hx⟩ := hM.old HV.out hlt2
          have hfr := hM.frozen HV.out j
          have HM : Hid (MarkV w (wr.setCell ⟨g, j, none⟩ (.int .i64 (-200 - (i : Int)))) B BG 3 70 G N cap V R mkI1 i (j + 1)) := Lib.hid (hM.step HFAR.out hT HV.out hlt2)
          clear hM
          go_wp2_with fail
          go_roundw
          case rel => exact ⟨j + 1, by omega, by go_num, HM.out⟩
          case measure => simp [intOf]; omega
        · obtain rfl : j = (R i).length := by omega
          have HM := Lib.hid hM.next
          clear hM
          go_wp2_with fail
          go_roundw
          case rel => exact ⟨i + 1, by omega, by go_num, HM.out⟩
          case measure => simp [intOf]; omega
    · obtain rfl : N = i := by omega
      have hR2 := hM.done HVN.out
      have hT1 := hM.touch
      have hO1 := hM.own
      obtain ⟨R2, hR2e⟩ : ∃ R2 : Nat → List Value, R2 = fun r => List.replicate (R r).length (mkI1 r) := ⟨_, rfl⟩
      have HR2 := Lib.hid (show ∀ r, R2 r = List.replicate (R r).length (mkI1 r) by rw [hR2e]; exact fun _ => rfl)
      have HR2L := Lib.hid (show ∀ r, (R2 r).length ≤ 1000000000 from fun r => by rw [hR2e]; show (List.replicate _ _).length ≤ _; rw [List.length_replicate]; exact HLEN.out r)
      rw [← hR2e] at hR2
      have HG0 : Hid (∃ cur : Kin, GrowV w wr B BG 3 70 G N cap V R2 cur (.slice none 0 0) []) := by
        obtain ⟨v, hv⟩ : ∃ v, V[0]? = some v := ⟨_, List.getElem?_eq_getElem (by rw [HVN.out]; exact hN0)⟩
        exact Lib.hid ⟨⟨0, v, R2 0⟩, GrowV.start hT1 hO1 hR2 HFAR.out HGL.out _ ⟨hv, rfl⟩⟩
      have hwr : w.heap.size ≤ wr.heap.size := hT1.size
      clear hM hR2e hR2 hT1 hO1 hown hrows
      go_wp2_with fail
      go_loopw [5, 6] (fun vl i wr => ∃ (k : Nat) (cur : Kin) (VL : Value) (L : List Kin), VL = vl ∧ k ≤ N ∧ i = .int .i64 k ∧ GrowV w wr B BG 3 70 G N cap V R2 cur VL L ∧ L.length = 66 * k ∧ (∀ s, s ∈ L → HistV R2 mkI2 N 66 k 0 s) ∧ Labs 66 L) (fun _ i _ => N - (intOf i).toNat)
      case atStart => obtain ⟨cur, h⟩ := HG0.out; exact ⟨0, cur, _, [], rfl, by omega, rfl, h, rfl, (fun s hs => by cases hs), (fun k s hk => by simp at hk)⟩
      case round =>
        obtain ⟨i, cur, VL, L, rfl, hi, rfl, hG, hLl, hH, hLb⟩ := hrel
        clear HG0
        by_cases hlt : i < N
        · obtain ⟨v, hv⟩ : ∃ v, V[i]? = some v := ⟨_, List.getElem?_eq_getElem (by rw [HVN.out]; exact hlt)⟩
          have hc := hG.own.cell hv
          have HST : Hid (GrowV w wr B BG 3 70 G N cap V R2 ⟨i, v, R2 i ++ List.replicate 0 (mkI2 i)⟩ VL L) := Lib.hid (hG.next ⟨i, v, _⟩ ⟨hv, by simp⟩)
          have HH : Hid ((∀ s, s ∈ L → HistV R2 mkI2 N 66 i 0 s) ∧ Labs 66 L) := Lib.hid ⟨hH, hLb⟩
          have HLL := Lib.hid hLl
          have hiN := hlt
          clear hG hv hH hLl hLb
          go_wp2_with fail
          clear hc
          go_loopw [5, 7, 8] (fun vl g k wr => ∃ (j : Nat) (v VL : Value) (L : List Kin), v = g ∧ VL = vl ∧ j ≤ 66 ∧ k = .int .i64 j ∧ GrowV w wr B BG 3 70 G N cap V R2 ⟨i, v, R2 i ++ List.replicate j (mkI2 i)⟩ VL L ∧ L.length = 66 * i + j ∧ (∀ s, s ∈ L → HistV R2 mkI2 N 66 i j s) ∧ Labs 66 L) (fun _ _ k _ => 66 - (intOf k).toNat)
          case atStart => exact ⟨0, v, VL, L, rfl, rfl, by omega, rfl, HST.out, HLL.out, HH.out.1, HH.out.2⟩
          case round =>
            obtain ⟨j, v, VL, L, rfl, rfl, hj, rfl, hG, hLl, hH, hLb⟩ := hrel
            clear HST HH HLL
            by_cases hlt2 : j < 66
            · have HG := Lib.hid hG
              have HH : Hid ((∀ s, s ∈ L → HistV R2 mkI2 N 66 i j s) ∧ Labs 66 L) := Lib.hid ⟨hH, hLb⟩
              have HLL := Lib.hid hLl
              have hrl := HR2L.out i
              have hcur : Own wr B 3 v (R2 i ++ List.replicate j (mkI2 i)) := hG.fam.own _ (.inr (.inr rfl))
              have hle : B ≤ wr.heap.size := Nat.le_trans hB hG.touch.size
              have hbd : ((R2 i ++ List.replicate j (mkI2 i)).length + 1) * 8 ≤ 140737488355328 := by rw [List.length_append, List.length_replicate]; omega
              have HCUR := Lib.hid hcur
              clear hG hH hLl hcur hLb
              go_wp2_with (at_builtin; refine wpList_push2 wr eltInt rfl _ _ (by rfl) B v _ (by rfl) (by exact HCUR.out) (.int .i64 (1000 + (i : Int))) wr.heap.size rfl (by rfl) rfl hbd hle ?_)
              intro v1 w1 h1 h2 h3 h4
              obtain ⟨A1, n1, c1, rfl⟩ : ∃ A n c, v1 = Value.slice A n c := by obtain ⟨A, c, h⟩ := h1.anySlice; exact ⟨_, _, _, h⟩
              have h1' : Own w1 B 3 (.slice A1 n1 c1) (R2 i ++ List.replicate (j + 1) (mkI2 i)) := by
                rw [List.replicate_succ']
                exact h1
              have HG1 := Lib.hid (HG.out.cur_ hT (fun s hs hl => by show s.xs.length ≤ (R2 i ++ List.replicate j (mkI2 i)).length; rw [List.length_append, List.length_replicate]; exact (HH.out.1 s hs).len hl) (by show (R2 i).length ≤ (R2 i ++ List.replicate j (mkI2 i)).length; rw [List.length_append]; exact Nat.le_add_right _ _) h1' h2 h4)
              have hle1 : w.heap.size ≤ w1.heap.size := HG1.out.touch.size
              have hbd1 : ((L.map Kin.val).length + 1) * 24 ≤ 140737488355328 := by rw [List.length_map]; have := HLL.out; omega
              clear h1 h1' h2 h3 h4 hle hbd
              go_wp2_with (at_builtin; refine wpList_push2 w1 eltRowInt rfl _ _ (by rfl) w.heap.size VL _ (by rfl) (by exact HG1.out.vl) (.slice A1 n1 c1) w1.heap.size rfl (by rfl) rfl hbd1 hle1 ?_)
              intro vl2 w2 h1 h2 h3 h4
              have HG2 := Lib.hid (HG1.out.long_ hT h1 h2)
              have HH3 : Hid ((∀ s, s ∈ L ++ [⟨i, .slice A1 n1 c1, R2 i ++ List.replicate (j + 1) (mkI2 i)⟩] → HistV R2 mkI2 N 66 i (j + 1) s) ∧ Labs 66 (L ++ [⟨i, .slice A1 n1 c1, R2 i ++ List.replicate (j + 1) (mkI2 i)⟩])) := Lib.hid ⟨fun s hs => by
                rcases List.mem_append.1 hs with hs | hs
                · exact (HH.out.1 s hs).more
                · obtain rfl : s = ⟨i, .slice A1 n1 c1, R2 i ++ List.replicate (j + 1) (mkI2 i)⟩ := by simpa using hs
                  exact ⟨hiN, Nat.le_refl _, j + 1, by omega, fun _ => Nat.le_refl _, rfl⟩, HH.out.2.snoc (by rw [HLL.out]; show i = _; omega)⟩
              clear h1 h2 h3 h4 hle1 hbd1
              go_wp2_with fail
              go_roundw
              case rel => exact ⟨j + 1, .slice A1 n1 c1, vl2, _, rfl, rfl, by omega, by go_num, HG2.out, by rw [List.length_append, HLL.out]; simp; omega, HH3.out.1, HH3.out.2⟩
              case measure => simp [intOf]; omega
            · obtain rfl : j = 66 := by omega
              have HG := Lib.hid hG
              have HH : Hid ((∀ s, s ∈ L → HistV R2 mkI2 N 66 (i + 1) 0 s) ∧ Labs 66 L) := Lib.hid ⟨fun s hs => (hH s hs).next, hLb⟩
              have HLL := Lib.hid hLl
              clear hG hH hLl hLb
              go_wp2_with fail
              go_roundw
              case rel => exact ⟨i + 1, _, VL, L, rfl, by omega, by go_num, HG.out, by rw [HLL.out]; omega, HH.out.1, HH.out.2⟩
              case measure => simp [intOf]; omega
        · obtain rfl : N = i := by omega
          have hne : L.map Kin.val ≠ [] := fun e => by have := congrArg List.length e; rw [List.length_map, hLl, List.length_nil] at this; omega
          obtain ⟨gl, cl, rfl, -, -, hl1, hl2⟩ := hG.vl.some_ hne
          rw [List.length_map, hLl] at hG hl1 ⊢
          obtain ⟨M, hM⟩ : ∃ M, 66 * N = M := ⟨_, rfl⟩
          have hMN : M ≤ 6534 := by omega
          have hMN2 : M ≤ 66 * N := by omega
          rw [hM] at hG hl1 hLl ⊢
          have HG := Lib.hid hG
          have HH : Hid (∀ s, s ∈ L → HistV R2 mkI2 N 66 N 0 s) := Lib.hid hH
          have HLB := Lib.hid hLb
          have HLL := Lib.hid hLl
          clear hG hH hLl hne hM hLb
          go_wp2_with fail
          go_loop [9] (fun i => ∃ k : Nat, k ≤ M ∧ i = .int .i64 k) (fun i => M - (intOf i).toNat)
          case atStart => exact ⟨0, by omega, rfl⟩
          case round =>
            obtain ⟨k, hk, rfl⟩ := hrel
            by_cases hlt3 : k < M
            · have hkL : k < L.length := by rw [HLL.out]; exact hlt3
              obtain ⟨s, hs⟩ : ∃ s, L[k]? = some s := ⟨_, List.getElem?_eq_getElem hkL⟩
              have hsm : s ∈ L := List.mem_of_getElem? hs
              obtain ⟨m, hm, hxs⟩ := (HH.out s hsm).kin
              have hlab := (HH.out s hsm).lt
              have hlb2 := HLB.out k s hs
              have hcl : wr.cell? ⟨gl, k, none⟩ = some s.val := HG.out.vl.cell (by rw [List.getElem?_map, hs]; rfl)
              obtain ⟨A, c, hsv, hrd, hlc, hcm, -⟩ := (HG.out.fam.own s (.inr (.inl hsm))).slice
              rw [hsv] at hcl
              rw [hxs] at hcl hrd
              obtain ⟨i, hi⟩ : ∃ i, s.lab = i := ⟨_, rfl⟩
              rw [hi] at hcl hrd hlab hlb2
              have hdv : Int.tdiv (k : Int) 66 = (i : Int) := by rw [Int.tdiv_eq_ediv_of_nonneg (by omega)]; omega
              have hdv2 : (k : Int) / 66 = (i : Int) := by omega
              clear hlb2
              obtain ⟨v0, hv0⟩ : ∃ v, V[i]? = some v := ⟨_, List.getElem?_eq_getElem (by rw [HVN.out]; exact hlab)⟩
              obtain ⟨A0, c0, rfl, hrd0, -, -, -⟩ := (OwnVs.mk (fun i v h => HG.out.fam.own ⟨i, v, _⟩ (.inl ⟨h, rfl⟩)) : OwnVs wr B 3 V R2).at_ hv0
              have hc0 := HG.out.own.cell hv0
              obtain ⟨n, hn⟩ : ∃ n, (R2 i).length = n := ⟨_, rfl⟩
              have hnb : n ≤ 1000000000 := by rw [← hn]; exact HR2L.out i
              have hR2i : R2 i = List.replicate n (mkI1 i) := by rw [← hn, HR2.out]; simp
              rw [List.length_append, List.length_replicate, hn] at hcl
              rw [hn] at hc0
              rw [hR2i] at hrd hrd0
              have HRD := Lib.hid hrd
              have HRD0 := Lib.hid hrd0
              have hib : i < 6 := by omega
              clear hs hsm hxs hsv hrd hlc hcm hi hv0 hrd0 hn hR2i
              go_wp2_with fail
              go_loop [11] (fun jj => ∃ j : Nat, j ≤ n + m ∧ jj = .int .i64 j) (fun jj => n + m - (intOf jj).toNat)
              case atStart => exact ⟨0, by omega, rfl⟩
              case round =>
                obtain ⟨j, hj, rfl⟩ := hrel
                by_cases hlt4 : j < n + m
                · obtain ⟨ad, rfl, hb⟩ := kin_cell HRD.out hlt4
                  by_cases hjn : j < n
                  · obtain ⟨ad0, rfl, hb0⟩ := rep_cell HRD0.out hjn
                    rw [if_pos hjn] at hb
                    rw [mkI1] at hb hb0
                    go_wp2_with fail
                    go_round
                    case rel => exact ⟨j + 1, by omega, by go_num⟩
                    case measure => simp [intOf]; omega
                  · rw [if_neg hjn] at hb
                    rw [mkI2] at hb
                    go_wp2_with fail
                    go_round
                    case rel => exact ⟨j + 1, by omega, by go_num⟩
                    case measure => simp [intOf]; omega
                · obtain rfl : j = n + m := by omega
                  go_wp2_with fail
                  go_round
                  case rel => exact ⟨k + 1, by omega, by go_num⟩
                  case measure => simp [intOf]; omega
            · obtain rfl : M = k := by omega
              go_wp2
              go_ret
              exact ⟨rfl, HG.out.fin⟩
end Go.Proofs.Ytemnlcfabaocbaa
/-
  append onto a new slice without room (`append([]T{}, s...)`): what was there is only read.
-/
namespace Go.Proofs.Ytemnlcfabaocbaa
open Go.RowKit Gf
set_option linter.unusedVariables false

section
variable {P : Program} (w : World)
theorem run_app0 {t e : TypeId} {z : Value} {bytes : Nat} (E : Elt P t e z bytes) (ty : TypeId) (g : Nat)
    (A : Option Addr) (m c : Nat) (news : List Value) (hr : Rd w A news) (hm : news.length = m) (hbytes : m * bytes ≤ 140737488355328) :
    ∃ A' c' w', (Builtin.append_ #[t, t] ty #[.slice (some ⟨g, 0, none⟩) 0 0, .slice A m c]).run P w = .ok (.slice A' m c') w' ∧ Rd w' A' news ∧ m ≤ c' ∧ c' ≤ maxLen ∧ Ext w w' := by
  rcases Nat.eq_zero_or_pos m with h0 | h0
  · subst h0
    obtain rfl : news = [] := List.eq_nil_of_length_eq_zero hm
    obtain ⟨i, hi, hz, hsz, hby⟩ := E.info
    refine ⟨some ⟨g, 0, none⟩, 0, w, ?_, Rd.nil _ _, Nat.le_refl _, Nat.zero_le _, Ext.refl _⟩
    rcases A with _ | ad <;> simp [Builtin.append_, run_underlying E.ty, sizeOf, typeInfo, hi, Builtin.lenOf, Builtin.firstCells, loadCells, loadCellsFrom, storeCells]
  · obtain ⟨ad, rfl, _⟩ := hr (by omega)
    obtain ⟨v', w', hrun, h2, h3⟩ := run_appFull (P := P) w E ty (some ⟨g, 0, none⟩) 0 [] (Rd.nil _ _) rfl (fun e => by cases e) ad m c news hr hm h0 (by rw [Nat.zero_add]; exact hbytes)
    obtain ⟨A', c', rfl, k1, k2, k3, -⟩ := h2.slice
    rw [List.nil_append, hm] at hrun k2
    exact ⟨A', c', w', hrun, k1, k2, k3, h3⟩
theorem step_app0 {t e : TypeId} {z : Value} {bytes : Nat} (E : Elt P t e z bytes) {ops : Array Oper} {o : Oper} {a : Act} {K : Act → World → Prop} {Q : Exit → Act → World → Prop} {F : Prop} (hgd : o.guard = none) (s x : Operand)
    (ho : o.op = .call { callee := .builtin .append, args := #[s, x], argTypes := #[t, t] })
    (g : Nat) (hs : a.eval s = .slice (some ⟨g, 0, none⟩) 0 0)
    (A : Option Addr) (m c : Nat) (news : List Value) (hx : a.eval x = .slice A m c) (hr : Rd w A news) (hm : news.length = m) (hbytes : m * bytes ≤ 140737488355328)
    (h : ∀ A' c' w', Rd w' A' news → m ≤ c' → c' ≤ maxLen → Ext w w' → K (a.put o.dst (.slice A' m c')) w') :
    if Region.wanted o (yielded ops a.tmps) = true then Oper.wp P o a w K Q else F := by
  have hw : Region.wanted o (yielded ops a.tmps) = true := by simp [Region.wanted, hgd]
  rw [if_pos hw]
  obtain ⟨A', c', w', hrun, h2, h3, h4, h5⟩ := run_app0 (P := P) w E o.type g A m c news hr hm hbytes
  unfold Oper.wp execOp
  simp only [ho, resolve, invoke, builtin, Sem.run_bind, Sem.run_pure, Result.andThen_ok, List.map_toArray, List.map_cons, List.map_nil, hs, hx, hrun]
  exact h A' c' w' h2 h3 h4 h5
end
end Go.Proofs.Ytemnlcfabaocbaa
