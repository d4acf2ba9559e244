/-
  Texts of mine, merged: Fam Apart RowsL Near Col0 Mend1.
-/
import Derived.Test.YtemnlcfabaocbaaG3
import Derived.Test.YtemnlcfabaocbaaG4
import Derived.Test.YtemnlcfabaocbaaG5
/-
  Families of rows of the call's own: rows of one label may share a block, rows of two labels never do; what an append onto the longest of a label does to all of them.
-/
namespace Go.Proofs.Ytemnlcfabaocbaa
open Go.RowKit Gf
set_option linter.unusedVariables false

/-- Of what was there, blocks with S alone may have been written. -/
structure Touch (S : Nat → Prop) (w w' : World) : Prop where
  os : w'.os = w.os
  tape : w'.tape = w.tape
  output : w'.output = w.output
  size : w.heap.size ≤ w'.heap.size
  block : ∀ k, k < w.heap.size → ¬ S k → w'.heap[k]? = w.heap[k]?
section
variable {S S' : Nat → Prop} {w w' w'' : World}
theorem Touch.refl (w : World) : Touch S w w := ⟨rfl, rfl, rfl, Nat.le_refl _, fun _ _ _ => rfl⟩
theorem Touch.trans (h : Touch S w w') (k : Touch S w' w'') : Touch S w w'' :=
  ⟨k.os.trans h.os, k.tape.trans h.tape, k.output.trans h.output, Nat.le_trans h.size k.size, fun i hi hn => (k.block i (Nat.lt_of_lt_of_le hi h.size) hn).trans (h.block i hi hn)⟩
theorem Touch.mono (h : Touch S w w') (hs : ∀ k, k < w.heap.size → S k → S' k) : Touch S' w w' := ⟨h.os, h.tape, h.output, h.size, fun i hi hn => h.block i hi fun e => hn (hs i hi e)⟩
theorem Ext.touch (h : Ext w w') : Touch S w w' := ⟨h.os, h.tape, h.output, h.size, fun i hi _ => h.block i hi⟩
theorem Touch.ext (h : Touch S w w') (k : Ext w' w'') : Touch S w w'' := h.trans k.touch
theorem Touch.below {B : Nat} (h : Touch S w w') (hS : ∀ k, k < w.heap.size → S k → B ≤ k) (hB : B ≤ w.heap.size) : Below B w w' :=
  ⟨h.os, h.tape, h.output, h.size, fun k hk => h.block k (by omega) fun e => by have := hS k (by omega) e; omega⟩
theorem touch_grown {row : Option Nat} (h : w.grownBy w' row) (hr : ∀ k, row = some k → k < w.heap.size → S k) : Touch S w w' :=
  ⟨h.os, h.tape, h.output, h.size, fun k hk hn => h.block k hk fun e => hn (hr k e.symm hk)⟩
theorem touch_set (w : World) (p : Addr) (u : Value) (hp : S p.block) : Touch S w (w.setCell p u) :=
  ⟨rfl, rfl, rfl, by simp, fun k hk hn => Below.heap_setCell w p u k fun e => hn (e ▸ hp)⟩
theorem Touch.lt (h : Touch S w w') {k : Nat} (hk : k < w.heap.size) : k < w'.heap.size := Nat.lt_of_lt_of_le hk h.size
theorem Rd.touch {A : Option Addr} {xs : List Value} (h : Rd w A xs) (ht : Touch S w w') (hA : ∀ ad, A = some ad → ¬ S ad.block) : Rd w' A xs :=
  h.keep fun p hp hq => World.cell?_of_block (ht.block p.block hp (by
    cases A with
    | none => cases hq
    | some ad => have := hA ad rfl; simp at hq; rwa [hq] at this))
theorem Own.touch {B : Nat} {T : TypeId} {v : Value} {xs : List Value} (h : Own w B T v xs) (ht : Touch S w w') (hA : ∀ g, v.ownBlock = some g → ¬ S g) : Own w' B T v xs :=
  h.keepBlock fun g hg => ht.block g (h.lt g hg).2 (hA g hg)
theorem Blk.touch {g : Nat} {t : TypeId} {cs : Array Value} (h : Blk w g t cs) (ht : Touch S w w') (hg : ¬ S g) : Blk w' g t cs := (ht.block g h.lt hg).trans h
end

section
variable {w w' : World} {B B' : Nat} {T T' : TypeId} {v v' : Value} {xs ys : List Value}
theorem Own.cellsAt (h : Own w B T v xs) {g : Nat} (hg : v.ownBlock = some g) : ∃ cap cur, v = .slice (some ⟨g, 0, none⟩) xs.length cap ∧ w.heap[g]? = some (.cells cur T (0, 0)) ∧ xs.length ≤ cap ∧ cap ≤ maxLen ∧ cur.size = cap ∧ cur.toList.take xs.length = xs := by
  rcases h.2 with ⟨hv, _⟩ | ⟨g', cap, cur, hv, hb, hh, hn, hm, hs, ht⟩
  · rw [hv] at hg; cases hg
  · rw [hv] at hg
    simp only [Value.ownBlock, Option.some.injEq] at hg
    subst hg
    rw [Nat.mul_one] at hs ht
    exact ⟨cap, cur, hv, hh, hn, hm, hs, ht⟩
theorem Own.isNil (h : Own w B T v xs) (hg : v.ownBlock = none) : v = .slice none 0 0 ∧ xs = [] := by
  rcases h.form with h' | ⟨g, cap, hv, _⟩
  · exact h'
  · rw [hv] at hg; cases hg
theorem Own.types (h : Own w B T v xs) (h' : Own w B' T' v' ys) (hT : T ≠ T') : v.ownBlock = none ∨ v.ownBlock ≠ v'.ownBlock := by
  cases e : v.ownBlock with
  | none => exact .inl rfl
  | some g =>
    refine .inr fun e' => ?_
    obtain ⟨_, cur, _, hh, _⟩ := h.cellsAt e
    obtain ⟨_, cur', _, hh', _⟩ := h'.cellsAt e'.symm
    rw [hh] at hh'
    injection hh' with hh'
    injection hh' with _ e2
    exact hT e2
theorem Own.notBlk {g : Nat} {cs : Array Value} (h : Own w B T v xs) (hb : Blk w g T' cs) (hT : T ≠ T') : v.ownBlock ≠ some g := fun e => by
  obtain ⟨_, cur, _, hh, _⟩ := h.cellsAt e
  rw [show w.heap[g]? = _ from hb] at hh
  injection hh with hh
  injection hh with _ e2
  exact hT e2.symm
/-- An elder row of the same block, that is not longer, stays. -/
theorem Own.elder (h : Own w B T v xs) (h' : Own w' B T v xs) (h0 : Own w B' T' v' ys) (he : v'.ownBlock = v.ownBlock) (hl : ys.length ≤ xs.length) : Own w' B' T' v' ys := by
  cases e : v'.ownBlock with
  | none =>
    obtain ⟨rfl, rfl⟩ := h0.isNil e
    exact Own.nil _ _ _
  | some g =>
    rw [e] at he
    obtain ⟨c0, cur0, hv0, hh0, hn0, hm0, hs0, ht0⟩ := h0.cellsAt e
    obtain ⟨c1, cur1, hv1, hh1, hn1, hm1, hs1, ht1⟩ := h.cellsAt he.symm
    obtain ⟨c2, cur2, hv2, hh2, hn2, hm2, hs2, ht2⟩ := h'.cellsAt he.symm
    rw [hh1] at hh0
    injection hh0 with hh0
    injection hh0 with e1 e2
    subst e1 e2
    rw [hv1] at hv2
    injection hv2 with _ _ e3
    subst e3
    refine ⟨by omega, .inr ⟨g, c0, cur2, hv0, (h0.lt g e).1, hh2, hn0, hm0, by omega, ?_⟩⟩
    rw [Nat.mul_one]
    have k1 : cur1.toList.take ys.length = xs.take ys.length := by rw [← ht1, List.take_take, Nat.min_eq_left hl]
    have k2 : cur2.toList.take ys.length = xs.take ys.length := by rw [← ht2, List.take_take, Nat.min_eq_left hl]
    rw [k2, ← k1, ht0]
end

/-- A row of a family: its label, where it lies, what it holds. -/
structure Kin where
  lab : Nat
  val : Value
  xs : List Value
structure Fam (w : World) (B : Nat) (T : TypeId) (S : Kin → Prop) : Prop where
  own : ∀ s, S s → Own w B T s.val s.xs
  far : ∀ s t, S s → S t → s.lab ≠ t.lab → s.val.ownBlock = none ∨ s.val.ownBlock ≠ t.val.ownBlock
section
variable {w w' : World} {B : Nat} {T : TypeId} {S S' : Kin → Prop}
theorem Fam.sub (h : Fam w B T S) (hs : ∀ s, S' s → S s) : Fam w B T S' := ⟨fun s k => h.own s (hs s k), fun s t k l => h.far s t (hs s k) (hs t l)⟩
theorem Fam.keep (h : Fam w B T S) (hk : ∀ s, S s → ∀ g, s.val.ownBlock = some g → w'.heap[g]? = w.heap[g]?) : Fam w' B T S := ⟨fun s k => (h.own s k).keepBlock (hk s k), h.far⟩
theorem Fam.ext (h : Fam w B T S) (hx : Ext w w') : Fam w' B T S := h.keep fun s k g hg => hx.block g ((h.own s k).lt g hg).2
theorem Fam.alloc (h : Fam w B T S) (o : Obj) : Fam (w.alloc o) B T S := h.ext ((Ext.refl w).alloc o)
theorem Fam.drewN (h : Fam w B T S) (n : Nat) : Fam (w.drewN n) B T S := h.ext ((Ext.refl w).drewN n)
theorem Fam.grown {row : Option Nat} (h : Fam w B T S) (hg : w.grownBy w' row) (hr : ∀ s, S s → s.val.ownBlock = none ∨ s.val.ownBlock ≠ row) : Fam w' B T S :=
  h.keep fun s k g e => hg.block g ((h.own s k).lt g e).2 fun e' => by
    rcases hr s k with h1 | h1
    · rw [e] at h1; cases h1
    · exact h1 (e.trans e')
/-- Another kind of row has grown. -/
theorem Fam.other {B' : Nat} {T' : TypeId} {v v' : Value} {ys : List Value} (h : Fam w B T S) (ho : Own w B' T' v ys) (hT : T ≠ T') (hm : Moved w w' v v') : Fam w' B T S :=
  h.grown hm.grown fun s k => (h.own s k).types ho hT
/-- One of the longest of its label has grown. -/
theorem Fam.push (h : Fam w B T S) {s : Kin} (hs : S s) (hlong : ∀ t, S t → t.lab = s.lab → t.xs.length ≤ s.xs.length) {v' : Value} {ys : List Value}
    (hn : Own w' B T v' ys) (hm : Moved w w' s.val v') (ho : Own w' B T s.val s.xs) : Fam w' B T (fun k => k = ⟨s.lab, v', ys⟩ ∨ S k) := by
  have old : ∀ t, S t → Own w' B T t.val t.xs := fun t ht => by
    by_cases e : t.val.ownBlock = s.val.ownBlock
    · by_cases hl : t.lab = s.lab
      · exact (h.own s hs).elder ho (h.own t ht) e (hlong t ht hl)
      · rcases h.far t s ht hs hl with h1 | h1
        · obtain ⟨e1, e2⟩ := (h.own t ht).isNil h1
          rw [e1, e2]; exact Own.nil _ _ _
        · exact absurd e h1
    · exact (h.own t ht).kept hm.grown (.inr e)
  have new : ∀ t, S t → t.lab ≠ s.lab → (v'.ownBlock = none ∨ v'.ownBlock ≠ t.val.ownBlock) ∧ (t.val.ownBlock = none ∨ t.val.ownBlock ≠ v'.ownBlock) := fun t ht hl => by
    rcases hm with ⟨e, _⟩ | ⟨e, _⟩
    · rw [e]; exact ⟨h.far s t hs ht (Ne.symm hl), h.far t s ht hs hl⟩
    · have hne : t.val.ownBlock ≠ v'.ownBlock := fun e' => by
        rw [e] at e'
        exact Nat.lt_irrefl _ ((h.own t ht).lt _ e').2
      exact ⟨.inr (Ne.symm hne), .inr hne⟩
  refine ⟨?_, ?_⟩
  · rintro t (rfl | ht)
    · exact hn
    · exact old t ht
  · rintro t u (rfl | ht) (rfl | hu) hl
    · exact absurd rfl hl
    · exact (new u hu (Ne.symm hl)).1
    · exact (new t ht hl).2
    · exact h.far t u ht hu hl
end

/-- Rows in a list, each of the call's own: the values V, what they hold. -/
structure OwnRows (w : World) (B : Nat) (T : TypeId) (V : List Value) (R : Nat → List E) : Prop where
  own : ∀ i v, V[i]? = some v → Own w B T v (bs (R i))
/-- No two of them share a block. -/
def FarApart (V : List Value) : Prop := ∀ (i j : Nat) (vi vj : Value), V[i]? = some vi → V[j]? = some vj → i ≠ j → vi.ownBlock = none ∨ vi.ownBlock ≠ vj.ownBlock
/-- The blocks of rows. -/
def InRows (V : List Value) (k : Nat) : Prop := ∃ (i : Nat) (v : Value), V[i]? = some v ∧ v.ownBlock = some k
def kinOf (V : List Value) (R : Nat → List E) (s : Kin) : Prop := V[s.lab]? = some s.val ∧ s.xs = bs (R s.lab)
theorem fam_rows {w : World} {B : Nat} {T : TypeId} {V : List Value} {R : Nat → List E} (h : OwnRows w B T V R) (hf : FarApart V) : Fam w B T (kinOf V R) :=
  ⟨fun s ⟨h1, h2⟩ => by rw [h2]; exact h.own _ _ h1, fun s t ⟨h1, _⟩ ⟨h2, _⟩ hl => hf _ _ _ _ h1 h2 hl⟩
def updR (R : Nat → List E) (i : Nat) (l : List E) : Nat → List E := fun k => if k = i then l else R k
theorem updR_same (R : Nat → List E) (i : Nat) (l : List E) : updR R i l i = l := if_pos rfl
theorem updR_other (R : Nat → List E) (i : Nat) (l : List E) {k : Nat} (h : k ≠ i) : updR R i l k = R k := if_neg h
/-- One place of one row is written. -/
theorem OwnRows.set {w : World} {B : Nat} {T : TypeId} {V : List Value} {R : Nat → List E} (h : OwnRows w B T V R) (hf : FarApart V) {i g n cap : Nat} (hi : V[i]? = some (.slice (some ⟨g, 0, none⟩) n cap)) (j : Nat) (x : E) :
    OwnRows (w.setCell ⟨g, j, none⟩ (bv x)) B T V (updR R i ((R i).set j x)) := ⟨fun k v hk => by
  by_cases e : k = i
  · subst e
    rw [hi] at hk
    injection hk with hk
    subst hk
    rw [updR_same, bs, List.map_set]
    exact (h.own _ _ hi).set j (bv x)
  · rw [updR_other _ _ _ e]
    refine (h.own _ _ hk).far (p := ⟨g, j, none⟩) (fun e' => ?_) _
    rcases hf k i _ _ hk hi e with h1 | h1
    · rw [h1] at e'; cases e'
    · exact h1 e'⟩
theorem OwnRows.ext {w w' : World} {B : Nat} {T : TypeId} {V : List Value} {R : Nat → List E} (h : OwnRows w B T V R) (hx : Ext w w') : OwnRows w' B T V R := ⟨fun i v hi => (h.own i v hi).ext hx⟩

/-! ### Marking: each row is written full with its own mark. -/
/-- The rows below i are full of their marks, row i up to j. -/
structure Marking (w0 w : World) (B BG : Nat) (T TR : TypeId) (G N cap : Nat) (V : List Value) (R : Nat → List E) (mk : Nat → E) (i j : Nat) : Prop where
  touch : Touch (InRows V) w0 w
  own : Own w BG TR (.slice (some ⟨G, 0, none⟩) N cap) V
  rows : ∃ R' : Nat → List E, OwnRows w B T V R' ∧ (∀ r, (R' r).length = (R r).length) ∧ (∀ r, r < i → R' r = List.replicate (R r).length (mk r)) ∧ (R' i).take j = List.replicate j (mk i)
section
variable {w0 w : World} {B BG : Nat} {T TR : TypeId} {G N cap : Nat} {V : List Value} {R : Nat → List E} {mk : Nat → E} {i j : Nat}
theorem Marking.start (ho : Own w BG TR (.slice (some ⟨G, 0, none⟩) N cap) V) (hr : OwnRows w B T V R) : Marking w w B BG T TR G N cap V R mk 0 0 :=
  ⟨Touch.refl _, ho, R, hr, fun _ => rfl, fun r h => absurd h (Nat.not_lt_zero _), rfl⟩
theorem Marking.at_ (h : Marking w0 w B BG T TR G N cap V R mk i j) {k : Nat} {v : Value} (hk : V[k]? = some v) :
    ∃ A c, v = .slice A (R k).length c ∧ w.cell? ⟨G, k, none⟩ = some (.slice A (R k).length c) ∧ (R k).length ≤ c ∧ c ≤ maxLen ∧ (0 < (R k).length → ∃ g, A = some ⟨g, 0, none⟩) := by
  obtain ⟨R', hr, hl, _⟩ := h.rows
  have hc := h.own.cell hk
  rcases (hr.own k v hk).form with ⟨hv, hn⟩ | ⟨g, c, hv, hb, hlt, hn, hm⟩
  · have : (R k).length = 0 := by rw [← hl, ← bs_length, hn]; rfl
    subst hv
    exact ⟨none, 0, by rw [this], by rw [hc, this], by omega, Nat.zero_le _, fun h => by omega⟩
  · rw [bs_length, hl] at hv hn
    subst hv
    exact ⟨_, c, rfl, hc, hn, hm, fun _ => ⟨g, rfl⟩⟩
theorem Marking.frozen (h : Marking w0 w B BG T TR G N cap V R mk i j) {k g n c : Nat} (hk : V[k]? = some (.slice (some ⟨g, 0, none⟩) n c)) (q : Nat) : w.frozen? ⟨g, q, none⟩ = false := by
  obtain ⟨R', hr, _⟩ := h.rows
  exact (hr.own k _ hk).frozen q
theorem Marking.old (h : Marking w0 w B BG T TR G N cap V R mk i j) {k g n c q : Nat} (hk : V[k]? = some (.slice (some ⟨g, 0, none⟩) n c)) (hq : q < (R k).length) : ∃ x : E, w.cell? ⟨g, q, none⟩ = some (.int .u8 (x.val : Int)) := by
  obtain ⟨R', hr, hl, _⟩ := h.rows
  exact ⟨_, (hr.own k _ hk).cell (bs_get (R' k) q (by rw [hl]; exact hq))⟩
theorem Marking.step (h : Marking w0 w B BG T TR G N cap V R mk i j) (hf : FarApart V) (hT : T ≠ TR) {g n c : Nat} (hi : V[i]? = some (.slice (some ⟨g, 0, none⟩) n c)) (hj : j < (R i).length) :
    Marking w0 (w.setCell ⟨g, j, none⟩ (bv (mk i))) B BG T TR G N cap V R mk i (j + 1) := by
  obtain ⟨R', hr, hl, hd, ht⟩ := h.rows
  have hin : InRows V g := ⟨i, _, hi, rfl⟩
  refine ⟨h.touch.trans (touch_set w ⟨g, j, none⟩ _ hin), h.own.far (p := ⟨g, j, none⟩) (fun e => ?_) _, updR R' i ((R' i).set j (mk i)), hr.set hf hi j (mk i), fun r => ?_, fun r hlt => ?_, ?_⟩
  · rcases (hr.own i _ hi).types h.own hT with h1 | h1
    · cases h1
    · exact h1 e.symm
  · by_cases e : r = i
    · subst e; rw [updR_same, List.length_set, hl]
    · rw [updR_other _ _ _ e, hl]
  · rw [updR_other _ _ _ (by omega)]; exact hd r hlt
  · rw [updR_same, List.take_succ_eq_append_getElem (by rw [List.length_set, hl]; exact hj), List.take_set, ht, List.getElem_set_self, List.set_eq_of_length_le (by simp), List.replicate_succ']
theorem Marking.next (h : Marking w0 w B BG T TR G N cap V R mk i (R i).length) : Marking w0 w B BG T TR G N cap V R mk (i + 1) 0 := by
  obtain ⟨R', hr, hl, hd, ht⟩ := h.rows
  refine ⟨h.touch, h.own, R', hr, hl, fun r hlt => ?_, rfl⟩
  rcases Nat.lt_succ_iff_lt_or_eq.1 hlt with e | rfl
  · exact hd r e
  · rw [← ht, List.take_of_length_le (by rw [hl]; exact Nat.le_refl _)]
theorem Marking.done (h : Marking w0 w B BG T TR G N cap V R mk N 0) (hN : V.length = N) : OwnRows w B T V (fun r => List.replicate (R r).length (mk r)) := by
  obtain ⟨R', hr, hl, hd, _⟩ := h.rows
  refine ⟨fun k v hk => ?_⟩
  have := hr.own k v hk
  rwa [hd k (by rw [← hN]; exact (List.getElem?_eq_some_iff.1 hk).1)] at this
end

/-! ### Growing: each row is grown by marks, one by one; all that is grown is kept. -/
/-- Of what was there, the rows' blocks alone may have been written. -/
def Old (w0 : World) (V : List Value) (k : Nat) : Prop := w0.heap.size ≤ k ∨ InRows V k
structure Grow (w0 w : World) (B BG : Nat) (T TR TI : TypeId) (G N cap : Nat) (V : List Value) (R : Nat → List E) (cur : Kin) (vl vw : Value) (L W : List Kin) : Prop where
  touch : Touch (Old w0 V) w0 w
  own : Own w BG TR (.slice (some ⟨G, 0, none⟩) N cap) V
  fam : Fam w B T (fun s => kinOf V R s ∨ s ∈ L ∨ s = cur)
  vl : Own w w0.heap.size TR vl (L.map Kin.val)
  vw : Own w w0.heap.size TI vw (W.map fun s => .int .i64 (s.lab : Int))
  curB : ∀ g, cur.val.ownBlock = some g → Old w0 V g
  lt : G < w0.heap.size
section
variable {w0 w w1 : World} {B BG : Nat} {T TR TI : TypeId} {G N cap : Nat} {V : List Value} {R : Nat → List E} {cur : Kin} {vl vw : Value} {L W : List Kin}
theorem Grow.start (ht : Touch (InRows V) w0 w) (ho : Own w BG TR (.slice (some ⟨G, 0, none⟩) N cap) V) (hr : OwnRows w B T V R) (hf : FarApart V) (hG : G < w0.heap.size) (cur : Kin) (hc : kinOf V R cur) :
    Grow w0 w B BG T TR TI G N cap V R cur (.slice none 0 0) (.slice none 0 0) [] [] :=
  ⟨ht.mono (fun _ _ h => .inr h), ho, (fam_rows hr hf).sub fun s h => by
    rcases h with h | h | rfl
    · exact h
    · cases h
    · exact hc, Own.nil _ _ _, Own.nil _ _ _, fun g hg => .inr ⟨_, _, hc.1, hg⟩, hG⟩
/-- The next row. -/
theorem Grow.next (h : Grow w0 w B BG T TR TI G N cap V R cur vl vw L W) (c2 : Kin) (hc : kinOf V R c2) : Grow w0 w B BG T TR TI G N cap V R c2 vl vw L W :=
  ⟨h.touch, h.own, h.fam.sub fun s k => by
    rcases k with k | k | rfl
    · exact .inl k
    · exact .inr (.inl k)
    · exact .inl hc, h.vl, h.vw, fun g hg => .inr ⟨_, _, hc.1, hg⟩, h.lt⟩
theorem Grow.cur_ (h : Grow w0 w B BG T TR TI G N cap V R cur vl vw L W) (hR : T ≠ TR) (hI : T ≠ TI) (hlong : ∀ s, s ∈ L → s.lab = cur.lab → s.xs.length ≤ cur.xs.length) (hbase : (R cur.lab).length ≤ cur.xs.length)
    {box : Obj} {v' : Value} {ys : List Value} (h1 : Own w1 B T v' ys) (h2 : Moved (w.alloc box) w1 cur.val v') (h3 : Own w1 B T cur.val cur.xs) :
    Grow w0 w1 B BG T TR TI G N cap V R ⟨cur.lab, v', ys⟩ vl vw L W := by
  have hx : Ext w (w.alloc box) := (Ext.refl w).alloc box
  have hcur : Own (w.alloc box) B T cur.val cur.xs := (h.fam.own cur (.inr (.inr rfl))).ext hx
  have keep : ∀ {B' : Nat} {T' : TypeId} {v : Value} {zs : List Value}, Own w B' T' v zs → T ≠ T' → Own w1 B' T' v zs := fun {B' T' v zs} ho hne => by
    refine (ho.ext hx).kept h2.grown ?_
    rcases (ho.ext hx).types hcur (Ne.symm hne) with e | e
    · exact .inl e
    · exact .inr e
  have hsz : w0.heap.size ≤ w.heap.size := h.touch.size
  refine ⟨h.touch.trans (hx.touch.trans (touch_grown h2.grown fun k hk hlt => h.curB k hk)), keep h.own hR, ?_, keep h.vl hR, keep h.vw hI, ?_, h.lt⟩
  · refine ((h.fam.ext hx).push (s := cur) (.inr (.inr rfl)) ?_ h1 h2 h3).sub ?_
    · intro t ht hl
      rcases ht with ht | ht | rfl
      · rw [ht.2, bs_length, hl]; exact hbase
      · exact hlong t ht hl
      · exact Nat.le_refl _
    · intro s hs
      rcases hs with hs | hs | rfl
      · exact .inr (.inl hs)
      · exact .inr (.inr (.inl hs))
      · exact .inl rfl
  · intro g hg
    rcases h2 with ⟨e, _⟩ | ⟨e, _⟩
    · exact h.curB g (e ▸ hg)
    · rw [e] at hg
      injection hg with hg
      subst hg
      left
      simp; omega
/-- What was grown is kept. -/
theorem Grow.long_ (h : Grow w0 w B BG T TR TI G N cap V R cur vl vw L W) (hR : T ≠ TR) (hRI : TR ≠ TI)
    {box : Obj} {v' : Value} (h1 : Own w1 w0.heap.size TR v' (L.map Kin.val ++ [cur.val])) (h2 : Moved (w.alloc box) w1 vl v') :
    Grow w0 w1 B BG T TR TI G N cap V R cur v' vw (L ++ [cur]) W := by
  have hx : Ext w (w.alloc box) := (Ext.refl w).alloc box
  have hvl := h.vl.ext hx
  have hsz : w0.heap.size ≤ w.heap.size := h.touch.size
  refine ⟨h.touch.trans (hx.touch.trans (touch_grown h2.grown fun k hk hlt => .inl (hvl.lt k hk).1)), (h.own.ext hx).kept h2.grown (.inr fun e => ?_), ?_, by rw [List.map_append]; exact h1, (h.vw.ext hx).kept h2.grown ?_, h.curB, h.lt⟩
  · have := (hvl.lt G e.symm).1
    have := h.lt
    omega
  · refine ((h.fam.ext hx).other hvl hR h2).sub fun s hs => ?_
    rcases hs with hs | hs | rfl
    · exact .inl hs
    · rcases List.mem_append.1 hs with hs | hs
      · exact .inr (.inl hs)
      · exact .inr (.inr (by simpa using hs))
    · exact .inr (.inr rfl)
  · rcases (h.vw.ext hx).types hvl (Ne.symm hRI) with e | e
    · exact .inl e
    · exact .inr e
/-- Whose it is is kept. -/
theorem Grow.whose_ (h : Grow w0 w B BG T TR TI G N cap V R cur vl vw L W) (hI : T ≠ TI) (hRI : TR ≠ TI)
    {box : Obj} {v' : Value} (h1 : Own w1 w0.heap.size TI v' ((W.map fun s => .int .i64 (s.lab : Int)) ++ [.int .i64 (cur.lab : Int)])) (h2 : Moved (w.alloc box) w1 vw v') :
    Grow w0 w1 B BG T TR TI G N cap V R cur vl v' L (W ++ [cur]) := by
  have hx : Ext w (w.alloc box) := (Ext.refl w).alloc box
  have hvw := h.vw.ext hx
  have hsz : w0.heap.size ≤ w.heap.size := h.touch.size
  refine ⟨h.touch.trans (hx.touch.trans (touch_grown h2.grown fun k hk hlt => .inl (hvw.lt k hk).1)), (h.own.ext hx).kept h2.grown (.inr fun e => ?_), (h.fam.ext hx).other hvw hI h2, (h.vl.ext hx).kept h2.grown ?_, by rw [List.map_append]; exact h1, h.curB, h.lt⟩
  · have := (hvw.lt G e.symm).1
    have := h.lt
    omega
  · rcases (h.vl.ext hx).types hvw hRI with e | e
    · exact .inl e
    · exact .inr e
theorem Grow.fin (h : Grow w0 w B BG T TR TI G N cap V R cur vl vw L W) : Touch (InRows V) w0 w := h.touch.mono fun k hk e => e.elim (fun h => absurd h (by omega)) id
end
/-- What a row of the list is, by its label, in the growing phase. -/
structure Hist (R : Nat → List E) (mk : Nat → E) (N M i k : Nat) (s : Kin) : Prop where
  lt : s.lab < N
  le : s.lab ≤ i
  xs : ∃ m, m ≤ M ∧ (s.lab = i → m ≤ k) ∧ s.xs = bs (R s.lab ++ List.replicate m (mk s.lab))
theorem Hist.more {R : Nat → List E} {mk : Nat → E} {N M i k : Nat} {s : Kin} (h : Hist R mk N M i k s) : Hist R mk N M i (k + 1) s := by
  obtain ⟨m, h1, h2, h3⟩ := h.xs
  exact ⟨h.lt, h.le, m, h1, fun e => Nat.le_succ_of_le (h2 e), h3⟩
theorem Hist.next {R : Nat → List E} {mk : Nat → E} {N M i k : Nat} {s : Kin} (h : Hist R mk N M i k s) : Hist R mk N M (i + 1) 0 s := by
  obtain ⟨m, h1, h2, h3⟩ := h.xs
  exact ⟨h.lt, Nat.le_succ_of_le h.le, m, h1, fun e => by have := h.le; omega, h3⟩
theorem Hist.len {R : Nat → List E} {mk : Nat → E} {N M i k : Nat} {s : Kin} (h : Hist R mk N M i k s) (hl : s.lab = i) : s.xs.length ≤ (R i).length + k := by
  obtain ⟨m, h1, h2, h3⟩ := h.xs
  have := h2 hl
  rw [h3, bs_length, List.length_append, List.length_replicate, hl]
  omega
end Go.Proofs.Ytemnlcfabaocbaa
/-
  The walk of the laws' own helper apart of chapter 2: rows of the call's own, no two of which share a block, are found apart.
-/
namespace Go.Proofs.Ytemnlcfabaocbaa
open Go.RowKit Gf
set_option maxRecDepth 20000
set_option linter.unusedVariables false

theorem infoRowEl : (Try.prog.info? 26).map (fun i => (i.zero, i.size, i.bytes)) = some (some (.slice none 0 0), 1, 24) := by kernel_rfl
theorem eltRowEl : Elt Try.prog 93 26 (.slice none 0 0) 24 := ⟨by kernel_rfl, info_parts infoRowEl, rfl, by decide⟩
theorem infoInt : (Try.prog.info? 3).map (fun i => (i.zero, i.size, i.bytes)) = some (some (.int .i64 0), 1, 8) := by kernel_rfl
theorem eltInt : Elt Try.prog 70 3 (.int .i64 0) 8 := ⟨by kernel_rfl, info_parts infoInt, rfl, by decide⟩

theorem OwnRows.at_ {w : World} {B : Nat} {T : TypeId} {V : List Value} {R : Nat → List E} (h : OwnRows w B T V R) {i : Nat} {v : Value} (hi : V[i]? = some v) :
    ∃ A c, v = .slice A (R i).length c ∧ Rd w A (bs (R i)) ∧ (R i).length ≤ c ∧ c ≤ maxLen ∧ (0 < (R i).length → ∃ g, A = some ⟨g, 0, none⟩) := by
  rcases (h.own i v hi).form with ⟨hv, hn⟩ | ⟨g, cap, hv, hb, hlt, hn, hm⟩
  · have : (R i).length = 0 := by rw [← bs_length, hn]; rfl
    exact ⟨none, 0, by rw [hv, this], by rw [hn]; exact Rd.nil _ _, by omega, Nat.zero_le _, fun h => by omega⟩
  · rw [bs_length] at hv hn
    subst hv
    exact ⟨_, cap, rfl, (h.own i _ hi).rd, hn, hm, fun _ => ⟨g, rfl⟩⟩
theorem ofVal (n : Nat) (h : n < 256) : Value.int .u8 (n : Int) = bv (E.of n) := by
  rw [bv, E.val_of h]

/-- The mark that a row is written full with. -/
def mk1 (i : Nat) : E := E.of (100 + i)
/-- The mark that a row is grown by. -/
def mk2 (i : Nat) : E := E.of (i + 1)
theorem mk1_val {i : Nat} (h : i < 100) : bv (mk1 i) = .int .u8 (100 + (i : Int)) := by rw [bv, mk1, E.val_of (by omega)]; norm_cast
theorem mk2_val {i : Nat} (h : i < 100) : bv (mk2 i) = .int .u8 ((i : Int) + 1) := by rw [bv, mk2, E.val_of (by omega)]; norm_cast
theorem kin_len {R : Nat → List E} {mk : Nat → E} {N M i k : Nat} {s : Kin} (h : Hist R mk N M i k s) : ∃ m, m ≤ M ∧ s.xs = bs (R s.lab ++ List.replicate m (mk s.lab)) := by
  obtain ⟨m, h1, _, h3⟩ := h.xs
  exact ⟨m, h1, h3⟩
theorem Own.oneCell {w : World} {B : Nat} {T : TypeId} {v : Value} {xs : List Value} (h : Own w B T v xs) : v.oneCell' = true := by
  rcases h.form with ⟨rfl, _⟩ | ⟨g, cap, rfl, _⟩ <;> rfl
theorem Own.anySlice {w : World} {B : Nat} {T : TypeId} {v : Value} {xs : List Value} (h : Own w B T v xs) : ∃ A c, v = .slice A xs.length c := by
  rcases h.form with ⟨rfl, rfl⟩ | ⟨g, cap, rfl, _⟩
  · exact ⟨_, _, rfl⟩
  · exact ⟨_, _, rfl⟩
set_option maxHeartbeats 4000000 in
theorem apart_n (G cap N : Nat) (V : List Value) (R : Nat → List E) (B BG : Nat) (w : World) (hVN : V.length = N) (hown : Own w BG 26 (.slice (some ⟨G, 0, none⟩) N cap) V)
    (hrows : OwnRows w B 34 V R) (hfar : FarApart V) (hN : N ≤ 99) (hlen : ∀ i, (R i).length ≤ 100000000000000) (hB : B ≤ w.heap.size) (hN0 : 0 < N) :
    Calls Try.prog 101 #[.slice (some ⟨G, 0, none⟩) N cap] w fun e w' => e = .returned (.bool true) ∧ Touch (InRows V) w w' := by
  have HVN := Lib.hid hVN
  have HFAR := Lib.hid hfar
  have HLEN := Lib.hid hlen
  have hGlt : G < w.heap.size := by obtain ⟨_, cs, hb, _⟩ := hown.blk; exact hb.lt
  have HGL := Lib.hid hGlt
  have hT : 34 ≠ 26 := by decide
  clear hVN hfar hlen hGlt
  go_enter Try.func101, Try.ntmps101
  go_wp2_with fail
  go_loopw [3] (fun i wr => ∃ k : Nat, k ≤ N ∧ i = .int .i64 k ∧ Marking w wr B BG 34 26 G N cap V R mk1 k 0) (fun i _ => N - (intOf i).toNat)
  case atStart => exact ⟨0, by omega, rfl, Marking.start hown hrows⟩
  case round =>
    obtain ⟨i, hi, rfl, hM⟩ := hrel
    by_cases hlt : i < N
    · obtain ⟨v, hv⟩ : ∃ v, V[i]? = some v := ⟨_, List.getElem?_eq_getElem (by rw [HVN.out]; exact hlt)⟩
      obtain ⟨A, c, rfl, hc, hlc, hcm, hsome⟩ := hM.at_ hv
      have hlb := HLEN.out i
      have HV := Lib.hid hv
      have HM := Lib.hid hM
      clear hv hcm hM hc
      go_wp2_with fail
      go_loopw [4] (fun jj wr => ∃ j : Nat, j ≤ (R i).length ∧ jj = .int .i64 j ∧ Marking w wr B BG 34 26 G N cap V R mk1 i j) (fun jj _ => (R i).length - (intOf jj).toNat)
      case atStart => exact ⟨0, by omega, rfl, HM.out⟩
      case round =>
        obtain ⟨j, hj, rfl, hM⟩ := hrel
        obtain ⟨_, _, e, hc, -⟩ := hM.at_ HV.out
        injection e with e1 e2 e3
        subst e1 e3
        clear e2 HM
        by_cases hlt2 : j < (R i).length
        · obtain ⟨g, rfl⟩ := hsome (by omega)
          obtain ⟨x, hx⟩ := hM.old HV.out hlt2
          have hfr := hM.frozen HV.out j
          have HM := Lib.hid (hM.step HFAR.out hT HV.out hlt2)
          rw [mk1_val (by omega)] at HM
          clear hM
          go_wp2_with fail
          go_roundw
          case rel => exact ⟨j + 1, by omega, by go_num, HM.out⟩
          case measure => simp [intOf]; omega
        · obtain rfl : j = (R i).length := by omega
          have HM := Lib.hid hM.next
          clear hM
          go_wp2_with fail
          go_roundw
          case rel => exact ⟨i + 1, by omega, by go_num, HM.out⟩
          case measure => simp [intOf]; omega
    · obtain rfl : N = i := by omega
      have hR2 := hM.done HVN.out
      have hT1 := hM.touch
      have hO1 := hM.own
      obtain ⟨R2, hR2e⟩ : ∃ R2 : Nat → List E, R2 = fun r => List.replicate (R r).length (mk1 r) := ⟨_, rfl⟩
      have HR2 := Lib.hid (show ∀ r, R2 r = List.replicate (R r).length (mk1 r) by rw [hR2e]; exact fun _ => rfl)
      have HR2L := Lib.hid (show ∀ r, (R2 r).length ≤ 100000000000000 by rw [hR2e]; simpa using HLEN.out)
      rw [← hR2e] at hR2
      have HG0 : Hid (∃ cur : Kin, Grow w wr B BG 34 26 3 G N cap V R2 cur (.slice none 0 0) (.slice none 0 0) [] []) := by
        obtain ⟨v, hv⟩ : ∃ v, V[0]? = some v := ⟨_, List.getElem?_eq_getElem (by rw [HVN.out]; exact hN0)⟩
        exact Lib.hid ⟨⟨0, v, bs (R2 0)⟩, Grow.start hT1 hO1 hR2 HFAR.out HGL.out _ ⟨hv, rfl⟩⟩
      have hwr : w.heap.size ≤ wr.heap.size := hT1.size
      clear hM hR2e hR2 hT1 hO1 hown hrows
      go_wp2_with fail
      go_loopw [5, 6, 7] (fun vl vw i wr => ∃ (k : Nat) (cur : Kin) (VL VW : Value) (L : List Kin), VL = vl ∧ VW = vw ∧ k ≤ N ∧ i = .int .i64 k ∧ Grow w wr B BG 34 26 3 G N cap V R2 cur VL VW L L ∧ L.length = 66 * k ∧ (∀ s, s ∈ L → Hist R2 mk2 N 66 k 0 s)) (fun _ _ i _ => N - (intOf i).toNat)
      case atStart => obtain ⟨cur, h⟩ := HG0.out; exact ⟨0, cur, _, _, [], rfl, rfl, by omega, rfl, h, rfl, fun s hs => by cases hs⟩
      case round =>
        obtain ⟨i, cur, VL, VW, L, rfl, rfl, hi, rfl, hG, hLl, hH⟩ := hrel
        clear HG0
        by_cases hlt : i < N
        · obtain ⟨v, hv⟩ : ∃ v, V[i]? = some v := ⟨_, List.getElem?_eq_getElem (by rw [HVN.out]; exact hlt)⟩
          have hc := hG.own.cell hv
          have HST : Hid (Grow w wr B BG 34 26 3 G N cap V R2 ⟨i, v, bs (R2 i ++ List.replicate 0 (mk2 i))⟩ VL VW L L) := Lib.hid (hG.next ⟨i, v, _⟩ ⟨hv, by simp⟩)
          have HH : Hid (∀ s, s ∈ L → Hist R2 mk2 N 66 i 0 s) := Lib.hid hH
          have HLL := Lib.hid hLl
          have hiN := hlt
          clear hG hv hH hLl
          go_wp2_with fail
          clear hc
          go_loopw [5, 6, 8, 9] (fun vl vw g k wr => ∃ (j : Nat) (v VL VW : Value) (L : List Kin), v = g ∧ VL = vl ∧ VW = vw ∧ j ≤ 66 ∧ k = .int .i64 j ∧ Grow w wr B BG 34 26 3 G N cap V R2 ⟨i, v, bs (R2 i ++ List.replicate j (mk2 i))⟩ VL VW L L ∧ L.length = 66 * i + j ∧ (∀ s, s ∈ L → Hist R2 mk2 N 66 i j s)) (fun _ _ _ k _ => 66 - (intOf k).toNat)
          case atStart => exact ⟨0, v, VL, VW, L, rfl, rfl, rfl, by omega, rfl, HST.out, HLL.out, HH.out⟩
          case round =>
            obtain ⟨j, v, VL, VW, L, rfl, rfl, rfl, hj, rfl, hG, hLl, hH⟩ := hrel
            clear HST HH HLL
            by_cases hlt2 : j < 66
            · have HG := Lib.hid hG
              have HH : Hid (∀ s, s ∈ L → Hist R2 mk2 N 66 i j s) := Lib.hid hH
              have HLL := Lib.hid hLl
              have hrl := HR2L.out i
              have hcur : Own wr B 34 v (bs (R2 i ++ List.replicate j (mk2 i))) := hG.fam.own _ (.inr (.inr rfl))
              have hle : B ≤ wr.heap.size := Nat.le_trans hB hG.touch.size
              have hbd : ((bs (R2 i ++ List.replicate j (mk2 i))).length + 1) * 1 ≤ 140737488355328 := by rw [bs_length, List.length_append, List.length_replicate]; omega
              have HCUR := Lib.hid hcur
              clear hG hH hLl hcur
              go_wp2_with (at_builtin; refine wpList_push2 wr eltEl rfl _ _ (by rfl) B v _ (by rfl) (by exact HCUR.out) (.int .u8 ((i : Int) + 1)) wr.heap.size rfl (by rfl) rfl hbd hle ?_)
              intro v1 w1 h1 h2 h3 h4
              obtain ⟨A1, n1, c1, rfl⟩ : ∃ A n c, v1 = Value.slice A n c := by obtain ⟨A, c, h⟩ := h1.anySlice; exact ⟨_, _, _, h⟩
              have h1' : Own w1 B 34 (.slice A1 n1 c1) (bs (R2 i ++ List.replicate (j + 1) (mk2 i))) := by
                rw [List.replicate_succ', ← List.append_assoc, bs_append]
                have := mk2_val (i := i) (by omega)
                rw [← this] at h1
                exact h1
              have HG1 := Lib.hid (HG.out.cur_ hT (by decide) (fun s hs hl => by rw [bs_length, List.length_append, List.length_replicate]; exact (HH.out s hs).len hl) (by show (R2 i).length ≤ (bs _).length; rw [bs_length, List.length_append]; exact Nat.le_add_right _ _) h1' h2 h4)
              have hle1 : w.heap.size ≤ w1.heap.size := HG1.out.touch.size
              have hbd1 : ((L.map Kin.val).length + 1) * 24 ≤ 140737488355328 := by rw [List.length_map]; have := HLL.out; omega
              clear h1 h1' h2 h3 h4 hle hbd
              go_wp2_with (at_builtin; refine wpList_push2 w1 eltRowEl rfl _ _ (by rfl) w.heap.size VL _ (by rfl) (by exact HG1.out.vl) (.slice A1 n1 c1) w1.heap.size rfl (by rfl) rfl hbd1 hle1 ?_)
              intro vl2 w2 h1 h2 h3 h4
              have HG2 := Lib.hid (HG1.out.long_ hT (by decide) h1 h2)
              have hle2 : w.heap.size ≤ w2.heap.size := HG2.out.touch.size
              have hbd2 : ((L.map fun s => Value.int .i64 (s.lab : Int)).length + 1) * 8 ≤ 140737488355328 := by rw [List.length_map]; have := HLL.out; omega
              clear h1 h2 h3 h4 hle1 hbd1
              go_wp2_with (at_builtin; refine wpList_push2 w2 eltInt rfl _ _ (by rfl) w.heap.size VW _ (by rfl) (by exact HG2.out.vw) (.int .i64 (i : Int)) w2.heap.size rfl (by rfl) rfl hbd2 hle2 ?_)
              intro vw3 w3 h1 h2 h3 h4
              have HG3 := Lib.hid (HG2.out.whose_ (by decide) (by decide) h1 h2)
              have HH3 : Hid (∀ s, s ∈ L ++ [⟨i, .slice A1 n1 c1, bs (R2 i ++ List.replicate (j + 1) (mk2 i))⟩] → Hist R2 mk2 N 66 i (j + 1) s) := Lib.hid fun s hs => by
                rcases List.mem_append.1 hs with hs | hs
                · exact (HH.out s hs).more
                · obtain rfl : s = ⟨i, .slice A1 n1 c1, bs (R2 i ++ List.replicate (j + 1) (mk2 i))⟩ := by simpa using hs
                  exact ⟨hiN, Nat.le_refl _, j + 1, by omega, fun _ => Nat.le_refl _, rfl⟩
              clear h1 h2 h3 h4 hle2 hbd2
              go_wp2_with fail
              go_roundw
              case rel => exact ⟨j + 1, .slice A1 n1 c1, vl2, vw3, _, rfl, rfl, rfl, by omega, by go_num, HG3.out, by rw [List.length_append, HLL.out]; simp; omega, HH3.out⟩
              case measure => simp [intOf]; omega
            · obtain rfl : j = 66 := by omega
              have HG := Lib.hid hG
              have HH : Hid (∀ s, s ∈ L → Hist R2 mk2 N 66 (i + 1) 0 s) := Lib.hid fun s hs => (hH s hs).next
              have HLL := Lib.hid hLl
              clear hG hH hLl
              go_wp2_with fail
              go_roundw
              case rel => exact ⟨i + 1, _, VL, VW, L, rfl, rfl, by omega, by go_num, HG.out, by rw [HLL.out]; omega, HH.out⟩
              case measure => simp [intOf]; omega
        · obtain rfl : N = i := by omega
          have hne : L.map Kin.val ≠ [] := fun e => by have := congrArg List.length e; rw [List.length_map, hLl, List.length_nil] at this; omega
          have hne2 : (L.map fun s => Value.int .i64 (s.lab : Int)) ≠ [] := fun e => by have := congrArg List.length e; rw [List.length_map, hLl, List.length_nil] at this; omega
          obtain ⟨gl, cl, rfl, -, -, hl1, hl2⟩ := hG.vl.some_ hne
          obtain ⟨gw, cw, rfl, -, -, hw1, hw2⟩ := hG.vw.some_ hne2
          rw [List.length_map, hLl] at hG hl1 hw1 ⊢
          rw [List.length_map] at hG ⊢
          rw [hLl] at hG ⊢
          obtain ⟨M, hM⟩ : ∃ M, 66 * N = M := ⟨_, rfl⟩
          have hMN : M ≤ 6534 := by omega
          rw [hM] at hG hl1 hw1 hLl ⊢
          have HG := Lib.hid hG
          have HH : Hid (∀ s, s ∈ L → Hist R2 mk2 N 66 N 0 s) := Lib.hid hH
          have HLL := Lib.hid hLl
          clear hG hH hLl hne hne2 hM
          go_wp2_with fail
          go_loop [10] (fun i => ∃ k : Nat, k ≤ M ∧ i = .int .i64 k) (fun i => M - (intOf i).toNat)
          case atStart => exact ⟨0, by omega, rfl⟩
          case round =>
            obtain ⟨k, hk, rfl⟩ := hrel
            by_cases hlt3 : k < M
            · have hkL : k < L.length := by rw [HLL.out]; exact hlt3
              obtain ⟨s, hs⟩ : ∃ s, L[k]? = some s := ⟨_, List.getElem?_eq_getElem hkL⟩
              have hsm : s ∈ L := List.mem_of_getElem? hs
              obtain ⟨m, hm, hxs⟩ := kin_len (HH.out s hsm)
              have hlab := (HH.out s hsm).lt
              have hcl : wr.cell? ⟨gl, k, none⟩ = some s.val := HG.out.vl.cell (by rw [List.getElem?_map, hs]; rfl)
              have hcw : wr.cell? ⟨gw, k, none⟩ = some (.int .i64 (s.lab : Int)) := HG.out.vw.cell (by rw [List.getElem?_map, hs]; rfl)
              obtain ⟨A, c, hsv, hrd, hlc, hcm, -⟩ := (HG.out.fam.own s (.inr (.inl hsm))).slice
              rw [hsv] at hcl
              rw [hxs] at hcl hrd
              obtain ⟨i, hi⟩ : ∃ i, s.lab = i := ⟨_, rfl⟩
              rw [hi] at hcl hcw hrd hlab
              obtain ⟨v0, hv0⟩ : ∃ v, V[i]? = some v := ⟨_, List.getElem?_eq_getElem (by rw [HVN.out]; exact hlab)⟩
              obtain ⟨A0, c0, rfl, hrd0, -, -, -⟩ := (OwnRows.mk (fun i v h => HG.out.fam.own ⟨i, v, _⟩ (.inl ⟨h, rfl⟩)) : OwnRows wr B 34 V R2).at_ hv0
              have hc0 := HG.out.own.cell hv0
              obtain ⟨n, hn⟩ : ∃ n, (R2 i).length = n := ⟨_, rfl⟩
              have hnb : n ≤ 100000000000000 := by rw [← hn]; exact HR2L.out i
              have hR2i : R2 i = List.replicate n (mk1 i) := by rw [← hn, HR2.out]; simp
              rw [bs_length, List.length_append, List.length_replicate, hn] at hcl
              rw [hn] at hc0
              rw [hR2i] at hrd hrd0
              have HRD := Lib.hid hrd
              have HRD0 := Lib.hid hrd0
              have hib : i < 99 := by omega
              clear hs hsm hxs hsv hrd hlc hcm hi hv0 hrd0 hn hR2i
              go_wp2_with fail
              go_loop [12] (fun jj => ∃ j : Nat, j ≤ n + m ∧ jj = .int .i64 j) (fun jj => n + m - (intOf jj).toNat)
              case atStart => exact ⟨0, by omega, rfl⟩
              case round =>
                obtain ⟨j, hj, rfl⟩ := hrel
                by_cases hlt4 : j < n + m
                · obtain ⟨ad, rfl, hb⟩ := HRD.out.byte (k := j) (by simp; omega)
                  by_cases hjn : j < n
                  · obtain ⟨ad0, rfl, hb0⟩ := HRD0.out.byte (k := j) (by simp; omega)
                    rw [List.getElem_append_left (by simp; omega), List.getElem_replicate] at hb
                    rw [List.getElem_replicate] at hb0
                    have e1 := mk1_val (i := i) (by omega)
                    rw [bv] at e1
                    rw [e1] at hb hb0
                    clear e1
                    go_wp2_with fail
                    go_round
                    case rel => exact ⟨j + 1, by omega, by go_num⟩
                    case measure => simp [intOf]; omega
                  · rw [List.getElem_append_right (by simp; omega), List.getElem_replicate] at hb
                    have e1 := mk2_val (i := i) (by omega)
                    rw [bv] at e1
                    rw [e1] at hb
                    clear e1
                    go_wp2_with fail
                    go_round
                    case rel => exact ⟨j + 1, by omega, by go_num⟩
                    case measure => simp [intOf]; omega
                · obtain rfl : j = n + m := by omega
                  go_wp2_with fail
                  go_round
                  case rel => exact ⟨k + 1, by omega, by go_num⟩
                  case measure => simp [intOf]; omega
            · obtain rfl : M = k := by omega
              go_wp2
              go_ret
              exact ⟨rfl, HG.out.fin⟩
end Go.Proofs.Ytemnlcfabaocbaa
/-
  Lists of lists of elements: what they read; copies, alike.
-/
namespace Go.Proofs.Ytemnlcfabaocbaa
open Go.RowKit Gf
set_option maxRecDepth 20000
set_option linter.unusedVariables false

/-- A list of lists that read as these. -/
def RdRows (w : World) (A : Option Addr) (rs : List (List E)) : Prop := ∃ V : List Value, V.length = rs.length ∧ Rd w A V ∧ ∀ (i : Nat) (r : List E), rs[i]? = some r → ∃ B c, V[i]? = some (.slice B r.length c) ∧ Rd w B (bs r) ∧ r.length ≤ c ∧ c ≤ maxLen
theorem RdRows.ext {w w' : World} {A : Option Addr} {rs : List (List E)} (h : RdRows w A rs) (hx : Ext w w') : RdRows w' A rs := by
  obtain ⟨V, h1, h2, h3⟩ := h
  exact ⟨V, h1, h2.ext hx, fun i r hi => by obtain ⟨B, c, k1, k2, k3⟩ := h3 i r hi; exact ⟨B, c, k1, k2.ext hx, k3⟩⟩
theorem RdRows.at_ {w : World} {A : Option Addr} {rs : List (List E)} (h : RdRows w A rs) {i : Nat} (hi : i < rs.length) : ∃ ad B c, A = some ad ∧ w.cell? (ad.add i) = some (.slice B rs[i].length c) ∧ Rd w B (bs rs[i]) ∧ rs[i].length ≤ c ∧ c ≤ maxLen := by
  obtain ⟨V, h1, h2, h3⟩ := h
  obtain ⟨B, c, k1, k2, k3⟩ := h3 i rs[i] (List.getElem?_eq_getElem hi)
  obtain ⟨ad, e, hc⟩ := h2.at_ k1
  exact ⟨ad, B, c, e, hc, k2, k3⟩
/-- The very rows, each of the call's own, no two of which share a block, in a list of the call's own. -/
structure OwnList (w : World) (B : Nat) (G cap : Nat) (V : List Value) (rs : List (List E)) : Prop where
  list : Own w B 26 (.slice (some ⟨G, 0, none⟩) V.length cap) V
  len : V.length = rs.length
  rows : ∀ (i : Nat) (v : Value), V[i]? = some v → Own w B 34 v (bs (rs.getD i []))
  far : FarApart V
theorem OwnList.ext {w w' : World} {B G cap : Nat} {V : List Value} {rs : List (List E)} (h : OwnList w B G cap V rs) (hx : Ext w w') : OwnList w' B G cap V rs :=
  ⟨h.list.ext hx, h.len, fun i v hi => (h.rows i v hi).ext hx, h.far⟩
theorem OwnList.mono {w : World} {B B' G cap : Nat} {V : List Value} {rs : List (List E)} (h : OwnList w B G cap V rs) (hB : B' ≤ B) : OwnList w B' G cap V rs :=
  ⟨h.list.mono hB, h.len, fun i v hi => (h.rows i v hi).mono hB, h.far⟩
theorem OwnList.rd {w : World} {B G cap : Nat} {V : List Value} {rs : List (List E)} (h : OwnList w B G cap V rs) : RdRows w (some ⟨G, 0, none⟩) rs := by
  refine ⟨V, h.len, h.list.rd, fun i r hi => ?_⟩
  have hl : i < V.length := by rw [h.len]; exact (List.getElem?_eq_some_iff.1 hi).1
  have hr := h.rows i V[i] (List.getElem?_eq_getElem hl)
  rw [List.getD_eq_getElem?_getD, hi, Option.getD_some] at hr
  obtain ⟨A, c, hv, h1, h2, h3, _⟩ := hr.slice
  rw [bs_length] at hv h2
  exact ⟨A, c, by rw [List.getElem?_eq_getElem hl, hv], h1, h2, h3⟩
set_option maxHeartbeats 1000000 in
theorem alike_n (A C : Option Addr) (N M ca cb : Nat) (rs : List (List E)) (w : World) (hN : rs.length = N) (hM : rs.length = M) (hr : RdRows w A rs) (hs : RdRows w C rs) (hlen : N ≤ 1000000) (hl : ∀ r ∈ rs, r.length ≤ 9000000000000000000) :
    Calls Try.prog 100 #[.slice A N ca, .slice C M cb] w fun e w' => e = .returned (.bool true) ∧ Ext w w' := by
  subst hN
  subst hM
  have HL := Lib.hid hl
  have hmo : Try.prog.follows Departure.mixedOrders = true := by kernel_rfl
  have hwd : Fence.wide.depth = none := rfl
  have hwf : ∀ f, Fence.wide.fn f := fun _ => trivial
  clear hl
  go_enter Try.func100, Try.ntmps100
  go_wp2_with fail
  go_loopw [5] (fun i wr => ∃ k : Nat, k ≤ rs.length ∧ i = .int .i64 k ∧ Ext w wr) (fun i _ => rs.length - (intOf i).toNat)
  case atStart => exact ⟨0, by omega, rfl, Ext.refl _⟩
  case round =>
    obtain ⟨k, hk, rfl, hx⟩ := hrel
    by_cases hlt : k < rs.length
    · obtain ⟨ad, B1, c1, rfl, hc1, hr1, -, -⟩ := (hr.ext hx).at_ hlt
      obtain ⟨bd, B2, c2, rfl, hc2, hr2, -, -⟩ := (hs.ext hx).at_ hlt
      have hlk := HL.out rs[k] (List.getElem_mem hlt)
      have f1 : ∀ u : Beyond wr, u.1.cell? (ad.add k) = some (.slice B1 rs[k].length c1) := fun u => (u.2.cell (p := ad.add k) (World.block_lt_of_cell? _ _ hc1)).trans hc1
      have f2 : ∀ u : Beyond wr, u.1.cell? (bd.add k) = some (.slice B2 rs[k].length c2) := fun u => (u.2.cell (p := bd.add k) (World.block_lt_of_cell? _ _ hc2)).trans hc2
      have HQ := Lib.hid (fun u : Beyond wr => equal_n B1 B2 _ _ rs[k] c1 c2 u.1 rfl rfl (hr1.ext u.2) (hr2.ext u.2) hlk)
      have HR := Lib.hid hr
      have HS := Lib.hid hs
      have HX := Lib.hid hx
      clear hr hs hx hr1 hr2 hc1 hc2
      go_wp2_with fail
      refine region_beyond_plain hmo (by kernel_rfl) (by kernel_rfl) ?_
      repeat (gi_big_quiet_step ((gi_at_call 55; with_reducible exact call_beyond (HQ.out _))))
      refine wpQuietIn_nil ?_
      rintro _ ⟨⟨w2, hx2⟩, rfl⟩
      clear f1 f2
      go_wp2_with fail
      go_roundw
      case rel => exact ⟨k + 1, by omega, by go_num, HX.out.trans hx2⟩
      case measure => simp [intOf]; omega
    · obtain rfl : k = rs.length := by omega
      go_wp2
      go_ret
      exact ⟨rfl, hx⟩
/-- The same lists in memory of their own. -/
theorem own_some {w : World} {B : Nat} {T : TypeId} {v : Value} {xs : List Value} (h : Own w B T v xs) (hx : 0 < xs.length) : ∃ g cap, v = .slice (some ⟨g, 0, none⟩) xs.length cap := by
  obtain ⟨g, cap, hv, _⟩ := h.some_ (fun e => by rw [e] at hx; simp at hx)
  exact ⟨g, cap, hv⟩
/-- Rows so far: of the call's own, each in a block that is newer than those before. -/
structure Copied (w0 w : World) (rs : List (List E)) (k : Nat) (v : Value) : Prop where
  ext : Ext w0 w
  ex : ∃ V : List Value, V.length = k ∧ Own w w0.heap.size 26 v V ∧ (∀ (i : Nat) (u : Value), V[i]? = some u → Own w w0.heap.size 34 u (bs (rs.getD i []))) ∧ FarApart V
theorem FarApart.nil : FarApart [] := fun i j vi vj h => by simp at h
theorem FarApart.snoc {V : List Value} {v : Value} (h : FarApart V) (hn : ∀ (i : Nat) (u : Value), V[i]? = some u → (u.ownBlock = none ∨ u.ownBlock ≠ v.ownBlock) ∧ (v.ownBlock = none ∨ v.ownBlock ≠ u.ownBlock)) : FarApart (V ++ [v]) := by
  intro i j vi vj hi hj hne
  have cs : ∀ (k : Nat) (u : Value), (V ++ [v])[k]? = some u → (k < V.length ∧ V[k]? = some u) ∨ (k = V.length ∧ u = v) := fun k u hk => by
    rcases Nat.lt_trichotomy k V.length with h1 | h1 | h1
    · rw [List.getElem?_append_left h1] at hk; exact .inl ⟨h1, hk⟩
    · subst h1; rw [List.getElem?_append_right (Nat.le_refl _)] at hk; simp at hk; exact .inr ⟨rfl, hk.symm⟩
    · rw [List.getElem?_eq_none (by simp; omega)] at hk; cases hk
  rcases cs i vi hi with ⟨h1, h2⟩ | ⟨h1, rfl⟩ <;> rcases cs j vj hj with ⟨h3, h4⟩ | ⟨h3, rfl⟩
  · exact h i j vi vj h2 h4 hne
  · exact (hn i vi h2).1
  · exact (hn j vj h4).2
  · omega
set_option maxHeartbeats 2000000 in
theorem copies_n (A : Option Addr) (N ca : Nat) (rs : List (List E)) (w : World) (hN : rs.length = N) (hN0 : 0 < N) (hr : RdRows w A rs) (hlen : N ≤ 1000000) (hl : ∀ r ∈ rs, r.length ≤ 140737488355328) :
    Calls Try.prog 99 #[.slice A N ca] w fun e w' => ∃ G cap V, e = .returned (.slice (some ⟨G, 0, none⟩) N cap) ∧ OwnList w' w.heap.size G cap V rs ∧ Ext w w' := by
  subst hN
  have HL := Lib.hid hl
  clear hl
  go_enter Try.func99, Try.ntmps99
  go_wp2_with fail
  go_loopw [3, 4] (fun v i wr => ∃ (k : Nat) (v' : Value), v' = v ∧ k ≤ rs.length ∧ i = .int .i64 k ∧ Copied w wr rs k v') (fun _ i _ => rs.length - (intOf i).toNat)
  case atStart => exact ⟨0, _, rfl, by omega, rfl, Ext.refl _, [], rfl, Own.nil _ _ _, fun i u h => by simp at h, FarApart.nil⟩
  case round =>
    obtain ⟨k, v, rfl, hk, rfl, hC⟩ := hrel
    by_cases hlt : k < rs.length
    · obtain ⟨ad, B1, c1, rfl, hc1, hr1, -, -⟩ := (hr.ext hC.ext).at_ hlt
      have hlk := HL.out rs[k] (List.getElem_mem hlt)
      obtain ⟨V, hVk, hVo, hVr, hVf⟩ := hC.ex
      have hx := hC.ext
      have hle : w.heap.size ≤ wr.heap.size := hx.le
      have h0 : Own (wr.alloc (.cells #[] 34)) wr.heap.size 34 (.slice (some ⟨wr.heap.size, 0, none⟩) 0 0) [] := (Blk.new wr 34 #[]).own (Nat.le_refl _) (Nat.le_refl _) (Nat.zero_le _) rfl
      have hbd1 : (([] : List Value).length + rs[k].length) * 1 ≤ 140737488355328 := by simp; omega
      have f1 : (wr.alloc (.cells #[] 34)).cell? (ad.add k) = some (.slice B1 rs[k].length c1) := by rw [World.cell?_alloc_lt wr _ _ (World.block_lt_of_cell? _ _ hc1)]; exact hc1
      have H1 := Lib.hid hr1
      have HC := Lib.hid (And.intro hVo (And.intro hVr hVf))
      have HX := Lib.hid hx
      have HVK := Lib.hid hVk
      have HR := Lib.hid hr
      clear hr1 hC hVo hVr hVf hx hVk hr
      go_wp2_with (at_builtin; refine wpList_app (wr.alloc (.cells #[] 34)) eltEl rfl _ _ (by rfl) wr.heap.size (.slice (some ⟨wr.heap.size, 0, none⟩) 0 0) [] (by rfl) (by exact h0) B1 rs[k].length c1 (bs rs[k]) (by rfl) (H1.out.alloc _) (bs_length _) (bs_ones _) hbd1 (by simp) ?_)
      intro u w1 ho hmv
      have hx1 : Ext wr w1 := ((Ext.refl wr).alloc _).below.trans (hmv.below (by simp) fun g hg => by simp [Value.ownBlock] at hg; omega)
      obtain ⟨A1, n1, cu, rfl⟩ : ∃ A n c, u = Value.slice A n c := by obtain ⟨A, c, h⟩ := ho.anySlice; exact ⟨_, _, _, h⟩
      have hV1 := HC.out.1.ext hx1
      have hle1 : w.heap.size ≤ w1.heap.size := (HX.out.trans hx1).le
      have hbd2 : (V.length + 1) * 24 ≤ 140737488355328 := by rw [HVK.out]; omega
      clear h0 hbd1 f1 hc1
      go_wp2_with (at_builtin; refine wpList_push2 w1 eltRowEl rfl _ _ (by rfl) w.heap.size v _ (by rfl) (by exact hV1) (.slice A1 n1 cu) w1.heap.size rfl (by rfl) rfl hbd2 hle1 ?_)
      intro v2 w2 k1 k2 k3 k4
      have hx12 : Ext w1 w2 ∨ True := .inr trivial
      have HC2 : Hid (Copied w w2 rs (k + 1) v2) := Lib.hid (by
        have hu1 : Own (w1.alloc (.cells #[.slice A1 n1 cu] 26)) wr.heap.size 34 (.slice A1 n1 cu) (bs rs[k]) := ho.alloc _
        have hV1' := hV1.alloc (.cells #[.slice A1 n1 cu] 26)
        refine ⟨(HX.out.trans hx1).below.trans k3, V ++ [.slice A1 n1 cu], by simp [HVK.out], k1, fun i u hi => ?_, HC.out.2.2.snoc fun i u hi => ?_⟩
        · rcases Nat.lt_trichotomy i V.length with h1 | h1 | h1
          · rw [List.getElem?_append_left h1] at hi
            have := ((HC.out.2.1 i u hi).ext hx1).alloc (.cells #[.slice A1 n1 cu] 26)
            exact this.kept k2.grown (this.types hV1' (by decide))
          · subst h1
            rw [List.getElem?_append_right (Nat.le_refl _)] at hi
            simp at hi
            subst hi
            rw [HVK.out, List.getD_eq_getElem?_getD, List.getElem?_eq_getElem hlt, Option.getD_some]
            exact (hu1.kept k2.grown (hu1.types hV1' (by decide))).mono hle
          · rw [List.getElem?_eq_none (by simp; omega)] at hi; cases hi
        · have hu0 := HC.out.2.1 i u hi
          have hne : ∀ g g', u.ownBlock = some g → (Value.slice A1 n1 cu).ownBlock = some g' → g ≠ g' := fun g g' e e' => by
            have := (hu0.lt g e).2
            have := (ho.lt g' e').1
            omega
          constructor
          · cases e : u.ownBlock with
            | none => exact .inl rfl
            | some g => exact .inr fun e' => hne g g e e'.symm rfl
          · cases e : (Value.slice A1 n1 cu).ownBlock with
            | none => exact .inl rfl
            | some g => exact .inr fun e' => hne g g e'.symm e rfl)
      clear k1 k2 k3 k4 hV1 ho hmv hx1 hle1 hbd2 hle
      go_wp2_with fail
      go_roundw
      case rel => exact ⟨k + 1, v2, rfl, by omega, by go_num, HC2.out⟩
      case measure => simp [intOf]; omega
    · obtain rfl : k = rs.length := by omega
      obtain ⟨V, hVk, hVo, hVr, hVf⟩ := hC.ex
      obtain ⟨G, cap, rfl⟩ := own_some hVo (by omega)
      rw [hVk]
      go_wp2
      go_ret
      exact ⟨G, cap, V, rfl, ⟨hVo, hVk, hVr, hVf⟩, hC.ext⟩
end Go.Proofs.Ytemnlcfabaocbaa
/-
  The code word that is near: it is just one; Euclid's row finds it.
-/
namespace Go.Proofs.Ytemnlcfabaocbaa
open Go.RowKit Gf
set_option linter.unusedVariables false

/-- The places where a polynomial has not the value. -/
def wrongs (p : List E) (xs ys : List E) : List E := ((xs.zip ys).filter (fun z => !decide (evL p z.1 = z.2))).map Prod.fst
def rights (p : List E) (xs ys : List E) : List E := ((xs.zip ys).filter (fun z => decide (evL p z.1 = z.2))).map Prod.fst
structure NearOK (k : Nat) (xs ys p : List E) : Prop where
  len : Gf.dg p ≤ k
  few : 2 * (wrongs p xs ys).length + k ≤ xs.length
theorem filter_split {α : Type} (f : α → Bool) (l : List α) : (l.filter f).length + (l.filter (fun x => !f x)).length = l.length := by
  induction l with
  | nil => rfl
  | cons a l ih =>
    simp only [List.filter_cons]
    cases f a <;> simp <;> omega
theorem zip_fst {xs ys : List E} (h : ys.length = xs.length) : (xs.zip ys).map Prod.fst = xs := List.map_fst_zip (by omega)
theorem wrongs_rights {p xs ys : List E} (h : ys.length = xs.length) : (rights p xs ys).length + (wrongs p xs ys).length = xs.length := by
  have := filter_split (fun z : E × E => decide (evL p z.1 = z.2)) (xs.zip ys)
  rw [List.length_zip, h, Nat.min_self] at this
  simpa [rights, wrongs] using this
theorem zip_nodup {xs ys : List E} (hn : xs.Nodup) (h : ys.length = xs.length) (f : E × E → Bool) : (((xs.zip ys).filter f).map Prod.fst).Nodup :=
  List.Nodup.sublist ((List.filter_sublist (p := f)).map Prod.fst) (by rw [zip_fst h]; exact hn)
theorem mem_wrongs {p xs ys : List E} (h : ys.length = xs.length) {x : E} : x ∈ wrongs p xs ys ↔ ∃ (i : Nat) (hi : i < xs.length), xs[i] = x ∧ evL p xs[i] ≠ ys[i] := by
  simp only [wrongs, List.mem_map, List.mem_filter]
  constructor
  · rintro ⟨⟨a, b⟩, ⟨hz, hf⟩, rfl⟩
    obtain ⟨i, hi, e⟩ := List.getElem_of_mem hz
    rw [List.length_zip, h, Nat.min_self] at hi
    rw [List.getElem_zip] at e
    injection e with e1 e2
    refine ⟨i, hi, e1, ?_⟩
    rw [e1, e2]
    simpa using hf
  · rintro ⟨i, hi, rfl, hne⟩
    refine ⟨(xs[i], ys[i]), ⟨?_, by simpa using hne⟩, rfl⟩
    have hz : i < (xs.zip ys).length := by rw [List.length_zip, h, Nat.min_self]; exact hi
    have := List.getElem_mem hz
    rwa [List.getElem_zip] at this
theorem right_of {p xs ys : List E} (h : ys.length = xs.length) {i : Nat} (hi : i < xs.length) (hw : xs[i] ∉ wrongs p xs ys) : evL p xs[i] = ys[i] := by
  rcases Decidable.em (evL p xs[i] = ys[i]) with e | e
  · exact e
  · exact absurd ((mem_wrongs h).2 ⟨i, hi, rfl, e⟩) hw
theorem wrongs_le {p xs ys : List E} (hn : xs.Nodup) (h : ys.length = xs.length) {l : List E} (hl : ∀ i (hi : i < xs.length), evL p xs[i] ≠ ys[i] → xs[i] ∈ l) : (wrongs p xs ys).length ≤ l.length :=
  nodup_len (zip_nodup hn h _) fun x hx => by
    obtain ⟨i, hi, rfl, hne⟩ := (mem_wrongs h).1 hx
    exact hl i hi hne
theorem wrongs_congr {p q xs ys : List E} (e : ∀ x, evL p x = evL q x) : wrongs p xs ys = wrongs q xs ys := by
  unfold wrongs
  simp only [e]
theorem NearOK.trim {k : Nat} {xs ys p : List E} (h : NearOK k xs ys p) : NearOK k xs ys (trim p) :=
  ⟨by rw [dg_trim]; exact h.len, by rw [wrongs_congr (fun x => evL_trim p x)]; exact h.few⟩
/-- Just one is near. -/
theorem NearOK.uniq {k : Nat} {xs ys p q : List E} (hn : xs.Nodup) (h : ys.length = xs.length) (hp : NearOK k xs ys p) (hq : NearOK k xs ys q) : ser p = ser q := by
  refine S.add_eq_zero ?_
  rw [← ser_plusL]
  let f : E × E → Bool := fun z => decide (evL p z.1 = z.2) && decide (evL q z.1 = z.2)
  refine few_roots k (plusL p q) (((xs.zip ys).filter f).map Prod.fst) ?_ (zip_nodup hn h f) ?_ ?_
  · rw [ser_plusL]
    exact ((dg_dlt p).mono hp.len).add ((dg_dlt q).mono hq.len)
  · have h1 := wrongs_rights (p := p) h
    have h2 := wrongs_rights (p := q) h
    have h3 := hp.few
    have h4 := hq.few
    have key : ∀ l : List (E × E), (l.filter f).length + (l.filter (fun z => !decide (evL p z.1 = z.2))).length + (l.filter (fun z => !decide (evL q z.1 = z.2))).length ≥ l.length := by
      intro l
      induction l with
      | nil => simp
      | cons a l ih =>
        simp only [List.filter_cons, f]
        by_cases e1 : evL p a.1 = a.2 <;> by_cases e2 : evL q a.1 = a.2 <;> simp [e1, e2] <;> simp only [f] at ih <;> omega
    have h5 := key (xs.zip ys)
    rw [List.length_zip, h, Nat.min_self] at h5
    simp only [wrongs, List.length_map] at h3 h4 ⊢
    omega
  · intro x hx
    obtain ⟨z, hz, rfl⟩ := List.mem_map.1 hx
    have := (List.mem_filter.1 hz).2
    simp only [f, Bool.and_eq_true, decide_eq_true_eq] at this
    rw [evL_plus, this.1, this.2, E.add_self]
theorem NearOK.same {k : Nat} {xs ys p q : List E} (hn : xs.Nodup) (h : ys.length = xs.length) (hp : NearOK k xs ys p) (hq : NearOK k xs ys q) (x : E) : evL p x = evL q x := evL_ser (NearOK.uniq hn h hp hq) x
/-- What goes through all of them is near. -/
theorem near_straight {k : Nat} {xs ys p : List E} (hl : Gf.dg p ≤ k) (hk : k ≤ xs.length) (h : ys.length = xs.length) (ha : ∀ i (hi : i < xs.length), evL p xs[i] = ys[i]) : NearOK k xs ys p := by
  refine ⟨hl, ?_⟩
  have : wrongs p xs ys = [] := by
    rw [List.eq_nil_iff_forall_not_mem]
    intro x hx
    obtain ⟨i, hi, -, hne⟩ := (mem_wrongs h).1 hx
    exact hne (ha i hi)
  rw [this]; simpa using hk

/-! ### Euclid's row -/
theorem dg_plus_left {p q : List E} (h : dg q < dg p) : dg (plusL p q) = dg p := by
  refine dg_eq ?_ fun hne => ?_
  · rw [ser_plusL]
    exact (dg_dlt p).add ((dg_dlt q).mono (by omega))
  · rw [ser_plusL]
    show ser p (dg p - 1) + ser q (dg p - 1) ≠ 0
    rw [dg_dlt q (dg p - 1) (by omega), E.add_zero]
    exact dg_last p hne
theorem DivOK.ds {p q s r : List E} (h : DivOK p q s r) (hpq : dg q ≤ dg p) : dg s + dg q = dg p + 1 := by
  have hq : 0 < dg q := by have := h.lt; omega
  have hr := dg_le r
  have hlt := h.lt
  have hs : 0 < dg s := by
    rcases Nat.eq_zero_or_pos (dg s) with h0 | h0
    · have h1 := dg_eq_zero.1 h0
      have h2 := h.eq
      rw [h1, S.zero_mul, S.add_zero] at h2
      have := dg_ser h2
      omega
    · exact h0
  have ht := dg_times (p := s) (q := q) (d := dg s - 1) (e := dg q - 1) (by omega) (by omega)
  have h3 : dg (plusL (timesL s q) r) = dg p := dg_ser (by rw [ser_plusL, ser_timesL, S.add_comm, h.eq])
  rw [dg_plus_left (by omega)] at h3
  omega
theorem RowN.prev {p q : List E} : ∀ (n : Nat) (r : Row), RowN p q (n + 1) r → ∃ a, RowN p q n a
  | 0, r, h => ⟨_, rfl⟩
  | n + 1, r, ⟨a, b, s, ha, hb, _⟩ => ⟨b, hb⟩
/-- The degrees of the multipliers. -/
theorem RowN.deg {p q : List E} (hpq : dg q < dg p) : ∀ (n : Nat) (a b : Row), RowN p q n a → RowN p q (n + 1) b → dg b.v + dg a.g = dg p + 1 ∧ dg a.v < dg b.v ∧ dg b.g < dg a.g
  | 0, a, b, ha, hb => by
    rw [show a = _ from ha, show b = _ from hb]
    have h1 : dg [1] = 1 := by decide +kernel
    refine ⟨?_, ?_, ?_⟩
    · show dg [1] + dg (Gf.trim p) = _
      rw [h1, dg_trim]; omega
    · show dg [] < dg [1]
      rw [h1]; exact Nat.one_pos
    · show dg (Gf.trim q) < dg (Gf.trim p)
      rw [dg_trim, dg_trim]; exact hpq
  | n + 1, b, c, hb, ⟨a, b', s, ha, hb', hd, hu, hv⟩ => by
    obtain rfl := RowN.uniq _ _ _ hb hb'
    obtain ⟨h1, h2, h3⟩ := RowN.deg hpq n a b ha hb
    have h4 := hd.ds (by omega)
    have h5 := hd.lt
    have h6 := dg_le c.g
    have hvb : dg (timesL s b.v) = dg s + dg b.v - 1 := by
      have := dg_times (p := s) (q := b.v) (d := dg s - 1) (e := dg b.v - 1) (by omega) (by omega)
      omega
    have h7 : dg c.v = dg (timesL s b.v) := by rw [hv, plusL_comm, dg_plus_left (by omega)]
    refine ⟨by omega, by omega, by omega⟩
theorem roots_bound {v l : List E} (hv : 0 < dg v) (hn : l.Nodup) (hl : ∀ x ∈ l, evL v x = 0) : l.length + 1 ≤ dg v := by
  have h1 := nodup_len hn fun x hx => (mem_roots v x).2 (hl x hx)
  have h2 := roots_few (p := v) (d := dg v - 1) (by omega)
  omega
section
variable {k K : Nat} {xs ys T s rr : List E} {r : Row} {e : Int}
/-- What is known of the row at which Euclid's algorithm is ended. -/
theorem gao_row (hk : k < xs.length) (hT : ThOK xs ys T) (hK : K = (xs.length + k + 1) / 2) (hr : PartRes (vanishL xs) T K r) :
    0 < dg r.v ∧ dg r.v + K ≤ xs.length + 1 ∧ dg r.g ≤ K ∧ ser r.g = S.add (S.mul (ser r.u) (ser (vanishL xs))) (S.mul (ser r.v) (ser T)) := by
  obtain ⟨n, h1, h2, h3⟩ := hr
  have hv := vanish_dg xs
  have hTl := hT.len
  have hdT : dg T < dg (vanishL xs) := by have := dg_le T; omega
  obtain ⟨-, -, hm⟩ := RowN.made n r h1
  have hg := dg_le r.g
  match n, h1, h3 with
  | 0, h1, _ =>
    exfalso
    rw [show r = _ from h1] at h2
    rw [show Gf.trim (vanishL xs) = vanishL xs from trimmed_vanish xs, vanish_length] at h2
    omega
  | n + 1, h1, h3 =>
    obtain ⟨a, ha⟩ := RowN.prev n r h1
    obtain ⟨g1, g2, g3⟩ := RowN.deg hdT n a r ha h1
    have h4 := h3 n (by omega) a ha
    have h5 := (RowN.tr n a ha).dg
    rw [hv] at g1
    exact ⟨by omega, by omega, by omega, hm⟩
theorem gao_ev (hT : ThOK xs ys T) (hl : ys.length = xs.length) (hm : ser r.g = S.add (S.mul (ser r.u) (ser (vanishL xs))) (S.mul (ser r.v) (ser T))) (i : Nat) (hi : i < xs.length) : evL r.g xs[i] = evL r.v xs[i] * ys[i] := by
  have h1 : ser r.g = ser (plusL (timesL r.u (vanishL xs)) (timesL r.v T)) := by rw [ser_plusL, ser_timesL, ser_timesL]; exact hm
  rw [evL_ser h1, evL_plus, evL_times, evL_times, (vanish_ev xs _).2 (List.getElem_mem hi), E.mul_zero, E.zero_add, hT.at_ i hi (by omega)]
/-- What the division answers is near. -/
theorem gao_sound (hn : xs.Nodup) (hl : ys.length = xs.length) (hk : k < xs.length) (hT : ThOK xs ys T) (hK : K = (xs.length + k + 1) / 2) (hr : PartRes (vanishL xs) T K r) (hd : DivOK r.g r.v s []) (hs : s.length ≤ k) : NearOK k xs ys s := by
  obtain ⟨h0, h1, h2, hm⟩ := gao_row hk hT hK hr
  refine ⟨Nat.le_trans (dg_le s) hs, ?_⟩
  have hw : (wrongs s xs ys).length + 1 ≤ dg r.v := roots_bound h0 (zip_nodup hn hl _) fun x hx => by
    obtain ⟨i, hi, rfl, hne⟩ := (mem_wrongs hl).1 hx
    have h3 := gao_ev hT hl hm i hi
    have h4 : evL r.g xs[i] = evL s xs[i] * evL r.v xs[i] := by
      rw [← evL_times]
      exact evL_ser (by rw [ser_timesL, ← hd.eq, ser_nil, S.zero_add]) _
    rw [h4, E.mul_comm] at h3
    have h5 : evL r.v xs[i] * (evL s xs[i] + ys[i]) = 0 := by rw [E.mul_add, h3, E.add_self]
    rcases E.mul_eq_zero.1 h5 with h6 | h6
    · exact h6
    · exact absurd (E.add_eq_zero.1 h6) hne
  omega
/-- Where one is near, the division finds it. -/
theorem gao_full (hn : xs.Nodup) (hl : ys.length = xs.length) (hk1 : 1 ≤ k) (hk : k < xs.length) (hT : ThOK xs ys T) (hK : K = (xs.length + k + 1) / 2) (hr : PartRes (vanishL xs) T K r) {p : List E} (hp : NearOK k xs ys p) : DivOK r.g r.v (Gf.trim p) [] := by
  obtain ⟨h0, h1, h2, hm⟩ := gao_row hk hT hK hr
  obtain ⟨t, ht⟩ : ∃ t, (wrongs p xs ys).length = t := ⟨_, rfl⟩
  have hfew := hp.few
  have hpl := hp.len
  rw [ht] at hfew
  let Q := vanishL (wrongs p xs ys)
  have hQ : dg Q = t + 1 := by show dg (vanishL _) = _; rw [vanish_dg, ht]
  have hF : ser (plusL (timesL (timesL r.v Q) p) (timesL Q r.g)) = S.zero := by
    refine few_roots xs.length _ xs ?_ hn (Nat.le_refl _) fun x hx => ?_
    · rw [ser_plusL, ser_timesL, ser_timesL, ser_timesL]
      refine S.Dlt.add ?_ ?_
      · have a1 := (dg_dlt r.v).mulN (show S.Dlt (ser Q) (t + 1) by rw [← hQ]; exact dg_dlt Q)
        have a2 := a1.mulN (show S.Dlt (ser p) ((k - 1) + 1) by rw [Nat.sub_add_cancel hk1]; exact (dg_dlt p).mono hpl)
        exact a2.mono (by omega)
      · rw [S.mul_comm]
        have a1 := ((dg_dlt r.g).mono h2).mulN (show S.Dlt (ser Q) (t + 1) by rw [← hQ]; exact dg_dlt Q)
        exact a1.mono (by omega)
    · obtain ⟨i, hi, rfl⟩ := List.getElem_of_mem hx
      rw [evL_plus, evL_times, evL_times, evL_times, gao_ev hT hl hm i hi]
      by_cases hw : xs[i] ∈ wrongs p xs ys
      · rw [(vanish_ev _ _).2 hw, E.mul_zero, E.zero_mul, E.zero_mul, E.add_zero]
      · rw [right_of hl hi hw]
        rw [E.mul_comm (evL r.v xs[i]), E.mul_assoc, E.add_self]
  have hE : S.mul (ser Q) (S.add (S.mul (ser r.v) (ser p)) (ser r.g)) = S.zero := by
    rw [ser_plusL, ser_timesL, ser_timesL, ser_timesL] at hF
    rw [S.mul_add, ← S.mul_assoc, S.mul_comm (ser Q) (ser r.v)]
    exact hF
  have hz : S.add (S.mul (ser r.v) (ser p)) (ser r.g) = S.zero := by
    rcases S.mul_eq_zero (dg_dlt Q) (((dlt_ser r.v).mul (dlt_ser p)).mono (Nat.le_max_left _ r.g.length) |>.add ((dlt_ser r.g).mono (Nat.le_max_right _ _))) hE with h3 | h3
    · have := dg_eq_zero.2 h3; omega
    · exact h3
  refine ⟨trimmed_trim _, trimmed_nil, ?_, h0⟩
  rw [ser_nil, S.zero_add, ser_trim, S.mul_comm]
  exact S.add_eq_zero hz
end
end Go.Proofs.Ytemnlcfabaocbaa
/-
  Chapter 5, plain: the places that are there; what is answered of a word.
-/
namespace Go.Proofs.Ytemnlcfabaocbaa
open Go.RowKit Gf
set_option linter.unusedVariables false

def bools (l : List Bool) : List Value := l.map Value.bool
def ints (l : List Nat) : List Value := l.map fun (i : Nat) => Value.int .i64 ((i : Nat) : Int)
theorem bools_length (l : List Bool) : (bools l).length = l.length := List.length_map _
theorem ints_length (l : List Nat) : (ints l).length = l.length := List.length_map _
theorem bools_get (l : List Bool) (j : Nat) (h : j < l.length) : (bools l)[j]? = some (.bool l[j]) := by simp [bools, h]
theorem ints_get (l : List Nat) (j : Nat) (h : j < l.length) : (ints l)[j]? = some (.int .i64 ((l[j] : Nat) : Int)) := by simp [ints, h]
theorem ints_snoc (l : List Nat) (i : Nat) : ints (l ++ [i]) = ints l ++ [.int .i64 (i : Int)] := by simp [ints]
theorem ints_ones (l : List Nat) : ∀ u ∈ ints l, u.oneCell' = true := by
  intro u hu
  obtain ⟨x, _, rfl⟩ := List.mem_map.1 hu
  rfl
theorem bools_ones (l : List Bool) : ∀ u ∈ bools l, u.oneCell' = true := by
  intro u hu
  obtain ⟨x, _, rfl⟩ := List.mem_map.1 hu
  rfl
/-- The places that are there, below k. -/
def thereTo (lost : List Bool) (k : Nat) : List Nat := (List.range k).filter fun i => !(lost.getD i true)
def thereL (lost : List Bool) : List Nat := thereTo lost lost.length
theorem thereTo_yes {lost : List Bool} {k : Nat} (hk : k < lost.length) (h : lost[k] = false) : thereTo lost (k + 1) = thereTo lost k ++ [k] := by
  simp [thereTo, List.range_succ, List.getD_eq_getElem?_getD, hk, h]
theorem thereTo_no {lost : List Bool} {k : Nat} (hk : k < lost.length) (h : lost[k] = true) : thereTo lost (k + 1) = thereTo lost k := by
  simp [thereTo, List.range_succ, List.getD_eq_getElem?_getD, hk, h]
theorem thereTo_le (lost : List Bool) (k : Nat) : (thereTo lost k).length ≤ k := by
  have := List.length_filter_le (fun i => !(lost.getD i true)) (List.range k)
  simpa [thereTo] using this
theorem there_le (lost : List Bool) : (thereL lost).length ≤ lost.length := thereTo_le _ _
theorem there_nodup (lost : List Bool) : (thereL lost).Nodup := List.Pairwise.filter _ List.nodup_range
theorem there_mem {lost : List Bool} {i : Nat} (h : i ∈ thereL lost) : i < lost.length := by
  have := (List.mem_filter.1 h).1
  simpa using this
theorem there_mem_iff {lost : List Bool} {i : Nat} : i ∈ thereL lost ↔ ∃ h : i < lost.length, lost[i] = false := by
  simp only [thereL, thereTo, List.mem_filter, List.mem_range, List.getD_eq_getElem?_getD]
  constructor
  · rintro ⟨h, h2⟩
    rw [List.getElem?_eq_getElem h] at h2
    exact ⟨h, by simpa using h2⟩
  · rintro ⟨h, h2⟩
    exact ⟨h, by rw [List.getElem?_eq_getElem h]; simp [h2]⟩
/-- The points and the values at places. -/
def ptsL (at_ : List Nat) : List E := at_.map E.of
def valsL (word : List E) (at_ : List Nat) : List E := at_.map fun i => word.getD i 0
theorem pts_length (l : List Nat) : (ptsL l).length = l.length := List.length_map _
theorem vals_length (word : List E) (l : List Nat) : (valsL word l).length = l.length := List.length_map _
theorem of_inj {i j : Nat} (hi : i < 256) (hj : j < 256) (h : E.of i = E.of j) : i = j := by
  have := congrArg E.val h
  rwa [E.val_of hi, E.val_of hj] at this
theorem pts_nodup {l : List Nat} (hn : l.Nodup) (hb : ∀ i ∈ l, i < 256) : (ptsL l).Nodup := by
  unfold ptsL List.Nodup
  rw [List.pairwise_map]
  exact List.Pairwise.imp_of_mem (fun {a b} ha hb' hne e => hne (of_inj (hb a ha) (hb b hb') e)) hn
/-- A word by its polynomial. -/
def colTo (p : List E) (n : Nat) : List E := (List.range n).map fun i => evL p (E.of i)
theorem colTo_length (p : List E) (n : Nat) : (colTo p n).length = n := by simp [colTo]
theorem colTo_succ (p : List E) (n : Nat) : colTo p (n + 1) = colTo p n ++ [evL p (E.of n)] := by simp [colTo, List.range_succ]
theorem colTo_get (p : List E) (n i : Nat) (h : i < (colTo p n).length) : (colTo p n)[i] = evL p (E.of i) := by simp [colTo]
theorem colTo_congr {p q : List E} (h : ∀ x, evL p x = evL q x) (n : Nat) : colTo p n = colTo q n := by simp only [colTo, h]
/-- The places that were wrong. -/
def badAt (p word : List E) (at_ : List Nat) : List Nat := at_.filter fun i => !decide (evL p (E.of i) = word.getD i 0)
theorem badAt_congr {p q : List E} (h : ∀ x, evL p x = evL q x) (word : List E) (l : List Nat) : badAt p word l = badAt q word l := by simp only [badAt, h]
theorem badAt_snoc_yes {p word : List E} {l : List Nat} {i : Nat} (h : evL p (E.of i) ≠ word.getD i 0) : badAt p word (l ++ [i]) = badAt p word l ++ [i] := by simp [badAt]; simpa using h
theorem badAt_snoc_no {p word : List E} {l : List Nat} {i : Nat} (h : evL p (E.of i) = word.getD i 0) : badAt p word (l ++ [i]) = badAt p word l := by simp [badAt, h]
theorem badAt_le (p word : List E) (l : List Nat) : (badAt p word l).length ≤ l.length := List.length_filter_le _ _

/-- Which arguments may be. -/
def GoodK (k : Int) (word : List E) (lost : List Bool) : Prop := 1 ≤ k ∧ k ≤ word.length ∧ word.length ≤ 255 ∧ lost.length = word.length
def Near (k : Nat) (word : List E) (lost : List Bool) (p : List E) : Prop := NearOK k (ptsL (thereL lost)) (valsL word (thereL lost)) p
/-- What is answered of a word. -/
def ColSpec (k : Int) (word : List E) (lost : List Bool) (out : List E) (bad : List Nat) (e : Int) : Prop :=
  (¬ GoodK k word lost ∧ out = [] ∧ bad = [] ∧ e = 2) ∨
  (GoodK k word lost ∧ ((thereL lost).length : Int) < k ∧ out = [] ∧ bad = [] ∧ e = 42) ∨
  (GoodK k word lost ∧ k ≤ (thereL lost).length ∧ (∀ p, ¬ Near k.toNat word lost p) ∧ out = [] ∧ bad = [] ∧ e = 50) ∨
  (GoodK k word lost ∧ k ≤ (thereL lost).length ∧ ∃ p, Near k.toNat word lost p ∧ out = colTo p word.length ∧ bad = badAt p word (thereL lost) ∧ e = 0)
theorem near_nodup {k : Int} {word : List E} {lost : List Bool} (h : GoodK k word lost) : (ptsL (thereL lost)).Nodup :=
  pts_nodup (there_nodup lost) fun i hi => by have := there_mem hi; have := h.2.2.1; have := h.2.2.2; omega
theorem ColSpec.uniq {k : Int} {word : List E} {lost : List Bool} {out out' : List E} {bad bad' : List Nat} {e e' : Int} (h : ColSpec k word lost out bad e) (h' : ColSpec k word lost out' bad' e') : out = out' ∧ bad = bad' ∧ e = e' := by
  rcases h with ⟨h1, rfl, rfl, rfl⟩ | ⟨h1, h2, rfl, rfl, rfl⟩ | ⟨h1, h2, h3, rfl, rfl, rfl⟩ | ⟨h1, h2, p, h3, rfl, rfl, rfl⟩ <;>
    rcases h' with ⟨k1, rfl, rfl, rfl⟩ | ⟨k1, k2, rfl, rfl, rfl⟩ | ⟨k1, k2, k3, rfl, rfl, rfl⟩ | ⟨k1, k2, q, k3, rfl, rfl, rfl⟩
  · exact ⟨rfl, rfl, rfl⟩
  · exact absurd k1 h1
  · exact absurd k1 h1
  · exact absurd k1 h1
  · exact absurd h1 k1
  · exact ⟨rfl, rfl, rfl⟩
  · omega
  · omega
  · exact absurd h1 k1
  · omega
  · exact ⟨rfl, rfl, rfl⟩
  · exact absurd k3 (h3 q)
  · exact absurd h1 k1
  · omega
  · exact absurd h3 (k3 p)
  · have e := NearOK.same (near_nodup h1) (by rw [vals_length, pts_length]) h3 k3
    exact ⟨colTo_congr e _, badAt_congr e _ _, rfl⟩
theorem ColSpec.small {k : Int} {word : List E} {lost : List Bool} {out : List E} {bad : List Nat} {e : Int} (h : ColSpec k word lost out bad e) : out.length ≤ 255 ∧ bad.length ≤ 255 ∧ (e = 0 ∨ e = 2 ∨ e = 42 ∨ e = 50) := by
  rcases h with ⟨h1, rfl, rfl, rfl⟩ | ⟨h1, h2, rfl, rfl, rfl⟩ | ⟨h1, h2, h3, rfl, rfl, rfl⟩ | ⟨h1, h2, p, h3, rfl, rfl, rfl⟩
  · simp
  · simp
  · simp
  · have := badAt_le p word (thereL lost)
    have := there_le lost
    obtain ⟨a, b, c, d⟩ := h1
    rw [colTo_length]
    exact ⟨c, by omega, .inl rfl⟩
end Go.Proofs.Ytemnlcfabaocbaa
/-
  The walks of layer 5: there, near, Column.
-/
namespace Go.Proofs.Ytemnlcfabaocbaa
open Go.RowKit Gf
set_option maxRecDepth 20000
set_option linter.unusedVariables false

theorem there_n (A : Option Addr) (n cap : Nat) (lost : List Bool) (w : World) (hn : lost.length = n) (hr : Rd w A (bools lost)) (hlen : n ≤ 1000000000000) :
    Calls Try.prog 105 #[.slice A n cap] w fun e w' => ∃ v, e = .returned v ∧ Own w' w.heap.size 3 v (ints (thereL lost)) ∧ Ext w w' := by
  have HN := Lib.hid hn
  clear hn
  go_enter Try.func105, Try.ntmps105
  go_wp2_with fail
  go_loopw [3, 8] (fun v i wr => ∃ (k : Nat) (V : Value), V = v ∧ k ≤ n ∧ i = .int .i64 k ∧ Ext w wr ∧ Own wr w.heap.size 3 V (ints (thereTo lost k))) (fun _ i _ => n - (intOf i).toNat)
  case atStart => exact ⟨0, _, rfl, by omega, rfl, Ext.refl _, Own.nil _ _ _⟩
  case round =>
    obtain ⟨k, V, rfl, hk, rfl, hx, ho⟩ := hrel
    by_cases hlt : k < n
    · have hkl : k < lost.length := by rw [HN.out]; exact hlt
      obtain ⟨ad, rfl, hc⟩ := (hr.ext hx).at_ (bools_get lost k hkl)
      have hle := hx.le
      have hbd : ((ints (thereTo lost k)).length + 1) * 8 ≤ 140737488355328 := by rw [ints_length]; have := thereTo_le lost k; omega
      cases hb : lost[k] with
      | false =>
        rw [hb] at hc
        have HT := Lib.hid (thereTo_yes hkl hb)
        clear hb
        go_wp2_with (at_builtin; refine wpList_push wr eltInt rfl _ _ (by rfl) w.heap.size V _ (by rfl) (by exact ho) (.int .i64 k) (by rfl) rfl hbd hle ?_; intro v' w' ho' _ hb' _)
        go_roundw
        case rel => exact ⟨k + 1, _, rfl, by omega, by go_num, Below.trans hx hb', by rw [HT.out, ints_snoc]; exact ho'⟩
        case measure => simp [intOf]; omega
      | true =>
        rw [hb] at hc
        have HT := Lib.hid (thereTo_no hkl hb)
        clear hb
        go_wp2_with fail
        go_roundw
        case rel => exact ⟨k + 1, _, rfl, by omega, by go_num, hx, by rw [HT.out]; exact ho⟩
        case measure => simp [intOf]; omega
    · obtain rfl : n = k := by omega
      go_wp2
      go_ret
      exact ⟨_, rfl, by rw [thereL, HN.out]; exact ho, hx⟩

/-- What near answers. -/
def NearOut (k : Nat) (xs ys : List E) (B : Nat) (e : Ending) (w' : World) : Prop :=
  (∃ v p, e = .returned (.tuple #[v, .bool true]) ∧ NearOK k xs ys p ∧ p.length ≤ k ∧ Own w' B 34 v (bs p)) ∨ (∃ v, e = .returned (.tuple #[v, .bool false]) ∧ ∀ p, ¬ NearOK k xs ys p)
/-- A row that is being filled. -/
structure Filling (w : World) (g n : Nat) (T : TypeId) (l : List E) (j : Nat) : Prop where
  blk : ∃ cs, Blk w g T cs ∧ cs.size = n ∧ cs.toList.take j = bs (l.take j)
theorem Filling.start {w : World} {g n : Nat} {T : TypeId} {cs : Array Value} (l : List E) (h : Blk w g T cs) (hs : cs.size = n) : Filling w g n T l 0 := ⟨cs, h, hs, by simp [bs]⟩
theorem Filling.frozen {w : World} {g n j : Nat} {T : TypeId} {l : List E} (h : Filling w g n T l j) (i : Nat) : w.frozen? ⟨g, i, none⟩ = false := by obtain ⟨cs, hb, _⟩ := h.blk; exact hb.frozen i
theorem Filling.some_ {w : World} {g n j : Nat} {T : TypeId} {l : List E} (h : Filling w g n T l j) {i : Nat} (hi : i < n) : ∃ u, w.cell? ⟨g, i, none⟩ = some u := by
  obtain ⟨cs, hb, hs, _⟩ := h.blk
  exact ⟨cs[i], by rw [hb.cell i]; exact Array.getElem?_eq_getElem (by omega)⟩
theorem Filling.step {w : World} {g n j : Nat} {T : TypeId} {l : List E} (h : Filling w g n T l j) (hj : j < l.length) (hn : j < n) : Filling (w.setCell ⟨g, j, none⟩ (bv l[j])) g n T l (j + 1) := by
  obtain ⟨cs, hb, hs, ht⟩ := h.blk
  refine ⟨_, hb.set_ j _, by simpa using hs, ?_⟩
  rw [set_take _ (by omega) ht, take_snoc' l j hj, bs_append]
  rfl
theorem Filling.far {w : World} {g n j : Nat} {T : TypeId} {l : List E} (h : Filling w g n T l j) {p : Addr} (hp : g ≠ p.block) (u : Value) : Filling (w.setCell p u) g n T l j := by
  obtain ⟨cs, hb, hs, ht⟩ := h.blk
  exact ⟨cs, hb.far hp u, hs, ht⟩
theorem Filling.ext {w w' : World} {g n j : Nat} {T : TypeId} {l : List E} (h : Filling w g n T l j) (hx : Ext w w') : Filling w' g n T l j := by
  obtain ⟨cs, hb, hs, ht⟩ := h.blk
  exact ⟨cs, hb.below hx hb.lt, hs, ht⟩
theorem Filling.done {w : World} {g n B : Nat} {T : TypeId} {l : List E} (h : Filling w g n T l n) (hl : l.length = n) (hB : B ≤ g) (hm : n ≤ maxLen) : Own w B T (.slice (some ⟨g, 0, none⟩) n n) (bs l) := by
  obtain ⟨cs, hb, hs, ht⟩ := h.blk
  have := hb.own (B := B) (n := n) (cap := n) hB (Nat.le_refl _) hm hs
  subst hl
  rwa [ht, List.take_length] at this
set_option maxHeartbeats 4000000 in
theorem near_n (A C : Option Addr) (n N ca cc : Nat) (k : Nat) (word : List E) (at_ : List Nat) (w : World) (hn : word.length = n) (hN : at_.length = N) (hr : Rd w A (bs word)) (hs : Rd w C (ints at_)) (hb : ∀ i ∈ at_, i < n) (hnd : at_.Nodup) (hn2 : n ≤ 255) (hk : 1 ≤ k) (hkN : k ≤ N) (hN2 : N ≤ 255) :
    Calls Try.prog 106 #[.int .i64 (k : Int), .slice A n ca, .slice C N cc] w fun e w' => NearOut k (ptsL at_) (valsL word at_) w.heap.size e w' ∧ Ext w w' := by
  have HN := Lib.hid hn
  have HNN := Lib.hid hN
  have HB := Lib.hid hb
  have HND := Lib.hid (pts_nodup hnd fun i hi => by have := hb i hi; omega)
  have HP := Lib.hid (pts_length at_)
  have HV := Lib.hid (vals_length word at_)
  have hmk := make_elems N (by omega)
  have hz := Lib.hid (zrow_size (.int .u8 0) N)
  clear hn hN hb hnd
  go_enter Try.func106, Try.ntmps106
  go_wp2_with fail
  obtain ⟨w0, hw0⟩ : ∃ w0, w0 = (w.alloc (.cells (zrow (.int .u8 0) N) 34)).alloc (.cells (zrow (.int .u8 0) N) 34) := ⟨_, rfl⟩
  have hx0 : Ext w w0 := by rw [hw0]; exact ((Ext.refl w).alloc _).alloc _
  have hf1 : Filling w0 w.heap.size N 34 (ptsL at_) 0 := by rw [hw0]; exact Filling.start _ ((Blk.new _ _ _).alloc _) hz.out
  have hf2 : Filling w0 (w.heap.size + 1) N 34 (valsL word at_) 0 := by
    rw [hw0]
    refine Filling.start _ ?_ hz.out
    have := Blk.new (w.alloc (.cells (zrow (.int .u8 0) N) 34)) 34 (zrow (.int .u8 0) N)
    rwa [World.size_alloc] at this
  have H0 := Lib.hid (And.intro hx0 (And.intro hf1 hf2))
  rw [← hw0]
  clear hw0 hx0 hf1 hf2
  go_loopw [27] (fun i wr => ∃ j : Nat, j ≤ N ∧ i = .int .i64 j ∧ Ext w wr ∧ Filling wr w.heap.size N 34 (ptsL at_) j ∧ Filling wr (w.heap.size + 1) N 34 (valsL word at_) j) (fun i _ => N - (intOf i).toNat)
  case atStart => exact ⟨0, by omega, rfl, H0.out.1, H0.out.2.1, H0.out.2.2⟩
  case round =>
    obtain ⟨j, hj, rfl, hx, hf, hg⟩ := hrel
    clear H0
    by_cases hlt : j < N
    · have hja : j < at_.length := by rw [HNN.out]; exact hlt
      obtain ⟨ad, rfl, hc⟩ := (hs.ext hx).at_ (ints_get at_ j hja)
      have hib := HB.out at_[j] (List.getElem_mem hja)
      obtain ⟨i, hi⟩ : ∃ i, at_[j] = i := ⟨_, rfl⟩
      have e1 : (ptsL at_)[j]'(by rw [pts_length]; exact hja) = E.of i := by simp [ptsL, hi]
      have hiw : i < word.length := by rw [HN.out, ← hi]; exact hib
      have e2 : (valsL word at_)[j]'(by rw [vals_length]; exact hja) = word[i] := by simp [valsL, hi, List.getD_eq_getElem?_getD, hiw]
      rw [hi] at hc hib
      obtain ⟨bd, rfl, hc2⟩ := (hr.ext hx).byte hiw
      have f1 := hf.frozen j
      obtain ⟨u1, hu1⟩ := hf.some_ hlt
      have h1 := hf.step (by rw [pts_length]; exact hja) hlt
      rw [e1] at h1
      have hev : bv (E.of i) = .int .u8 (i : Int) := by rw [bv, E.val_of (by omega)]
      rw [hev] at h1
      have hg1 := hg.far (p := ⟨w.heap.size, j, none⟩) (show w.heap.size + 1 ≠ w.heap.size by omega) (.int .u8 (i : Int))
      have f2 := hg1.frozen j
      obtain ⟨u2, hu2⟩ := hg1.some_ hlt
      have h2 := hg1.step (by rw [vals_length]; exact hja) hlt
      rw [e2] at h2
      have h1' := h1.far (p := ⟨w.heap.size + 1, j, none⟩) (show w.heap.size ≠ w.heap.size + 1 by omega) (bv word[i])
      have hx2 := (hx.new (p := ⟨w.heap.size, j, none⟩) (Nat.le_refl _) (.int .u8 (i : Int))).new (p := ⟨w.heap.size + 1, j, none⟩) (Nat.le_succ _) (bv word[i])
      have HH := Lib.hid (And.intro hx2 (And.intro h1' h2))
      rw [bv] at HH
      have hwl := (word[i]).lt
      have hcr : (wr.setCell ⟨w.heap.size, j, none⟩ (.int .u8 (i : Int))).cell? (bd.add i) = some (.int .u8 ((word[i]).val : Int)) := by
        obtain ⟨bd', e', hc'⟩ := (hr.ext (hx.new (p := ⟨w.heap.size, j, none⟩) (Nat.le_refl _) (.int .u8 (i : Int)))).byte hiw
        injection e' with e'
        subst e'
        exact hc'
      clear hx hf hg h1 hg1 h2 h1' hx2 hev e1 e2 hi
      go_wp2_with fail
      go_roundw
      case rel => exact ⟨j + 1, by omega, by go_num, HH.out.1, HH.out.2.1, HH.out.2.2⟩
      case measure => simp [intOf]; omega
    · obtain rfl : N = j := by omega
      have hp := hf.done (B := w.heap.size) (by rw [HP.out, HNN.out]) (Nat.le_refl _) (by simp only [maxLen]; omega)
      have hv := hg.done (B := w.heap.size) (by rw [HV.out, HNN.out]) (Nat.le_succ _) (by simp only [maxLen]; omega)
      have HPO := Lib.hid hp
      have HVO := Lib.hid hv
      have HX := Lib.hid hx
      have hpl : (ptsL at_).length = N := by rw [HP.out, HNN.out]
      have hvl : (valsL word at_).length = N := by rw [HV.out, HNN.out]
      have HPL := Lib.hid hpl
      have HVL := Lib.hid hvl
      clear hf hg hx hp hv hpl hvl
      go_wp2_with fail
      refine (polyThrough_all _ _ N N N N (ptsL at_) (valsL word at_) _ HPL.out HVL.out HPO.out.rd HVO.out.rd (by omega)).mono ?_
      rintro e w1 ⟨v, t, kk, rfl, hth, ho, hx1⟩
      obtain ⟨hT, rfl⟩ : ThOK (ptsL at_) (valsL word at_) t ∧ kk = 0 := by
        rcases hth with ⟨h, _⟩ | ⟨_, h, _⟩ | ⟨_, _, h, h2⟩
        · rw [HPL.out, HVL.out] at h; exact absurd rfl h
        · exact absurd HND.out h
        · exact ⟨h, h2⟩
      have htl := hT.len
      rw [HPL.out] at htl
      have HT := Lib.hid hT
      clear hth hT
      obtain ⟨At, ct, rfl, hrt, hct, hmt⟩ := ho.bytesN rfl
      simp only [maxLen] at hmt
      have HOT := Lib.hid ho
      have HX1 := Lib.hid hx1
      clear ho hx1
      by_cases hle : t.length ≤ k
      · have hd : decide ((t.length : Int) ≤ (k : Int)) = true := decide_eq_true (by omega)
        go_wp2
        go_ret2
        refine ⟨.inl ⟨_, t, rfl, near_straight (Nat.le_trans (dg_le t) hle) (by rw [HPL.out]; exact hkN) (by rw [HPL.out, HVL.out]) (fun i hi => HT.out.at_ i hi (by rw [HVL.out]; rw [HPL.out] at hi; exact hi)), hle, HOT.out.mono HX.out.le⟩, HX.out.trans HX1.out⟩
      · have hd : decide ((t.length : Int) ≤ (k : Int)) = false := decide_eq_false (by omega)
        obtain ⟨K, hK⟩ : ∃ K, K = (N + k + 1) / 2 := ⟨_, rfl⟩
        have hKi : ((N : Int) + (k : Int) + 1) / 2 = (K : Int) := by rw [hK]; omega
        have hKb : K ≤ 300 := by omega
        have HK := Lib.hid hK
        have HKI := Lib.hid hKi
        clear hK hKi
        go_wp2_with fail
        refine (polyVanish_n _ N N (ptsL at_) _ HPL.out (HPO.out.rd.ext HX1.out) (by omega)).mono ?_
        rintro e w2 ⟨v, rfl, ho, hx2⟩
        have hvlen := vanish_length (ptsL at_)
        rw [HPL.out] at hvlen
        obtain ⟨Av, cv, rfl, hrv, hcv, hmv⟩ := ho.bytesN hvlen
        simp only [maxLen] at hmv
        have HVAN := Lib.hid hvlen
        clear hvlen ho
        go_wp2_with fail
        rw [HKI.out]
        refine (polyPartial_n Av At (N + 1) t.length cv ct (vanishL (ptsL at_)) t K _ HVAN.out rfl hrv (hrt.ext hx2) (by omega) (by omega) hcv hct (wf_nat K (by omega))).mono ?_
        rintro e w3 ⟨vg, vu, vv, r, rfl, hpr, hog, hou, hov, hx3, hul, hvl, hgl⟩
        have HPR := Lib.hid hpr
        clear hpr
        obtain ⟨Ag, cg, rfl, hrg, hcg, hmg⟩ := hog.bytesN rfl
        obtain ⟨Avv, cvv, rfl, hrvv, hcvv, hmvv⟩ := hov.bytesN rfl
        simp only [maxLen] at hmg hmvv
        have HX3 := Lib.hid ((HX.out.trans HX1.out).trans (hx2.trans hx3))
        clear hog hov hou hx2 hx3 hrv hrt
        go_wp2_with fail
        refine (polyDivide_all Ag Avv _ _ cg cvv r.g r.v _ rfl rfl hrg hrvv (by omega) (by omega) (by omega) (by omega)).mono ?_
        rintro e w4 ⟨vs, vr, s, rr, kk, rfl, hd4, hos, hor, -, hx4⟩
        have hk2 : k < (ptsL at_).length := by rw [HPL.out]; omega
        have hK2 : K = ((ptsL at_).length + k + 1) / 2 := by rw [HPL.out]; exact HK.out
        have hrow := gao_row hk2 HT.out hK2 HPR.out
        obtain ⟨hD, rfl⟩ : DivOK r.g r.v s rr ∧ kk = 0 := by
          rcases hd4 with ⟨h0, _⟩ | ⟨_, h, e⟩
          · have := hrow.1; omega
          · exact ⟨h, e⟩
        have HD := Lib.hid hD
        have hll : (valsL word at_).length = (ptsL at_).length := by rw [HPL.out, HVL.out]
        have HF : Hid (∀ p, NearOK k (ptsL at_) (valsL word at_) p → rr.length = 0 ∧ s.length ≤ k) := Lib.hid fun p hp => by
          have h5 := gao_full HND.out hll hk hk2 HT.out hK2 HPR.out hp
          obtain ⟨e1, e2⟩ := hD.uniq h5
          rw [e1, e2, trim_length]
          exact ⟨rfl, hp.len⟩
        have HS : Hid (rr.length = 0 → s.length ≤ k → NearOK k (ptsL at_) (valsL word at_) s) := Lib.hid fun h1 h2 => by
          obtain rfl := List.length_eq_zero_iff.1 h1
          exact gao_sound HND.out hll hk2 HT.out hK2 HPR.out hD h2
        obtain ⟨As, cs, rfl, -, -, -⟩ := hos.bytesN rfl
        obtain ⟨Ar, cr, rfl, -, -, -⟩ := hor.bytesN rfl
        have HOS := Lib.hid hos
        have HXF := Lib.hid (HX3.out.trans hx4)
        have hwl : w.heap.size ≤ w3.heap.size := HX3.out.le
        clear hd4 hD hrow hk2 hK2 hll hos hor hx4 hrg hrvv
        by_cases hr0 : rr.length = 0
        · have hr0b : ((rr.length : Int) == 0) = true := by rw [beq_iff_eq]; omega
          by_cases hsk : s.length ≤ k
          · have hskd : decide ((s.length : Int) ≤ (k : Int)) = true := decide_eq_true (by omega)
            have HR0 := Lib.hid hr0
            clear hr0
            go_wp2_with fail
            go_ret2
            exact ⟨.inl ⟨_, s, rfl, HS.out HR0.out hsk, hsk, HOS.out.mono hwl⟩, HXF.out⟩
          · have hskd : decide ((s.length : Int) ≤ (k : Int)) = false := decide_eq_false (by omega)
            clear hr0
            go_wp2_with fail
            go_ret2
            exact ⟨.inr ⟨_, rfl, fun p hp => hsk (HF.out p hp).2⟩, HXF.out⟩
        · have hr0b : ((rr.length : Int) == 0) = false := by rw [beq_eq_false_iff_ne]; omega
          go_wp2_with fail
          go_ret2
          exact ⟨.inr ⟨_, rfl, fun p hp => hr0 (HF.out p hp).1⟩, HXF.out⟩
end Go.Proofs.Ytemnlcfabaocbaa
