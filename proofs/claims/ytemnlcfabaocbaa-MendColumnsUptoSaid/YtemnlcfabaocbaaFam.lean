/-
  Families of rows of the call's own: rows of one label may share a block, rows of two labels never do; what an append onto the longest of a label does to all of them.
-/
import Derived.Test.YtemnlcfabaocbaaApp2
namespace Go.Proofs.Ytemnlcfabaocbaa
open Go.RowKit Gf
set_option linter.unusedVariables false

/-- Of what was there, blocks with S alone may have been written. -/
structure Touch (S : Nat → Prop) (w w' : World) : Prop where
  os : w'.os = w.os
  tape : w'.tape = w.tape
  output : w'.output = w.output
  size : w.heap.size ≤ w'.heap.size
  block : ∀ k, k < w.heap.size → ¬ S k → w'.heap[k]? = w.heap[k]?
section
variable {S S' : Nat → Prop} {w w' w'' : World}
theorem Touch.refl (w : World) : Touch S w w := ⟨rfl, rfl, rfl, Nat.le_refl _, fun _ _ _ => rfl⟩
theorem Touch.trans (h : Touch S w w') (k : Touch S w' w'') : Touch S w w'' :=
  ⟨k.os.trans h.os, k.tape.trans h.tape, k.output.trans h.output, Nat.le_trans h.size k.size, fun i hi hn => (k.block i (Nat.lt_of_lt_of_le hi h.size) hn).trans (h.block i hi hn)⟩
theorem Touch.mono (h : Touch S w w') (hs : ∀ k, k < w.heap.size → S k → S' k) : Touch S' w w' := ⟨h.os, h.tape, h.output, h.size, fun i hi hn => h.block i hi fun e => hn (hs i hi e)⟩
theorem Ext.touch (h : Ext w w') : Touch S w w' := ⟨h.os, h.tape, h.output, h.size, fun i hi _ => h.block i hi⟩
theorem Touch.ext (h : Touch S w w') (k : Ext w' w'') : Touch S w w'' := h.trans k.touch
theorem Touch.below {B : Nat} (h : Touch S w w') (hS : ∀ k, k < w.heap.size → S k → B ≤ k) (hB : B ≤ w.heap.size) : Below B w w' :=
  ⟨h.os, h.tape, h.output, h.size, fun k hk => h.block k (by omega) fun e => by have := hS k (by omega) e; omega⟩
theorem touch_grown {row : Option Nat} (h : w.grownBy w' row) (hr : ∀ k, row = some k → k < w.heap.size → S k) : Touch S w w' :=
  ⟨h.os, h.tape, h.output, h.size, fun k hk hn => h.block k hk fun e => hn (hr k e.symm hk)⟩
theorem touch_set (w : World) (p : Addr) (u : Value) (hp : S p.block) : Touch S w (w.setCell p u) :=
  ⟨rfl, rfl, rfl, by simp, fun k hk hn => Below.heap_setCell w p u k fun e => hn (e ▸ hp)⟩
theorem Touch.lt (h : Touch S w w') {k : Nat} (hk : k < w.heap.size) : k < w'.heap.size := Nat.lt_of_lt_of_le hk h.size
theorem Rd.touch {A : Option Addr} {xs : List Value} (h : Rd w A xs) (ht : Touch S w w') (hA : ∀ ad, A = some ad → ¬ S ad.block) : Rd w' A xs :=
  h.keep fun p hp hq => World.cell?_of_block (ht.block p.block hp (by
    cases A with
    | none => cases hq
    | some ad => have := hA ad rfl; simp at hq; rwa [hq] at this))
theorem Own.touch {B : Nat} {T : TypeId} {v : Value} {xs : List Value} (h : Own w B T v xs) (ht : Touch S w w') (hA : ∀ g, v.ownBlock = some g → ¬ S g) : Own w' B T v xs :=
  h.keepBlock fun g hg => ht.block g (h.lt g hg).2 (hA g hg)
theorem Blk.touch {g : Nat} {t : TypeId} {cs : Array Value} (h : Blk w g t cs) (ht : Touch S w w') (hg : ¬ S g) : Blk w' g t cs := (ht.block g h.lt hg).trans h
end

section
variable {w w' : World} {B B' : Nat} {T T' : TypeId} {v v' : Value} {xs ys : List Value}
theorem Own.cellsAt (h : Own w B T v xs) {g : Nat} (hg : v.ownBlock = some g) : ∃ cap cur, v = .slice (some ⟨g, 0, none⟩) xs.length cap ∧ w.heap[g]? = some (.cells cur T (0, 0)) ∧ xs.length ≤ cap ∧ cap ≤ maxLen ∧ cur.size = cap ∧ cur.toList.take xs.length = xs := by
  rcases h.2 with ⟨hv, _⟩ | ⟨g', cap, cur, hv, hb, hh, hn, hm, hs, ht⟩
  · rw [hv] at hg; cases hg
  · rw [hv] at hg
    simp only [Value.ownBlock, Option.some.injEq] at hg
    subst hg
    rw [Nat.mul_one] at hs ht
    exact ⟨cap, cur, hv, hh, hn, hm, hs, ht⟩
theorem Own.isNil (h : Own w B T v xs) (hg : v.ownBlock = none) : v = .slice none 0 0 ∧ xs = [] := by
  rcases h.form with h' | ⟨g, cap, hv, _⟩
  · exact h'
  · rw [hv] at hg; cases hg
theorem Own.types (h : Own w B T v xs) (h' : Own w B' T' v' ys) (hT : T ≠ T') : v.ownBlock = none ∨ v.ownBlock ≠ v'.ownBlock := by
  cases e : v.ownBlock with
  | none => exact .inl rfl
  | some g =>
    refine .inr fun e' => ?_
    obtain ⟨_, cur, _, hh, _⟩ := h.cellsAt e
    obtain ⟨_, cur', _, hh', _⟩ := h'.cellsAt e'.symm
    rw [hh] at hh'
    injection hh' with hh'
    injection hh' with _ e2
    exact hT e2
theorem Own.notBlk {g : Nat} {cs : Array Value} (h : Own w B T v xs) (hb : Blk w g T' cs) (hT : T ≠ T') : v.ownBlock ≠ some g := fun e => by
  obtain ⟨_, cur, _, hh, _⟩ := h.cellsAt e
  rw [show w.heap[g]? = _ from hb] at hh
  injection hh with hh
  injection hh with _ e2
  exact hT e2.symm
/-- An elder row of the same block, that is not longer, stays. -/
theorem Own.elder (h : Own w B T v xs) (h' : Own w' B T v xs) (h0 : Own w B' T' v' ys) (he : v'.ownBlock = v.ownBlock) (hl : ys.length ≤ xs.length) : Own w' B' T' v' ys := by
  cases e : v'.ownBlock with
  | none =>
    obtain ⟨rfl, rfl⟩ := h0.isNil e
    exact Own.nil _ _ _
  | some g =>
    rw [e] at he
    obtain ⟨c0, cur0, hv0, hh0, hn0, hm0, hs0, ht0⟩ := h0.cellsAt e
    obtain ⟨c1, cur1, hv1, hh1, hn1, hm1, hs1, ht1⟩ := h.cellsAt he.symm
    obtain ⟨c2, cur2, hv2, hh2, hn2, hm2, hs2, ht2⟩ := h'.cellsAt he.symm
    rw [hh1] at hh0
    injection hh0 with hh0
    injection hh0 with e1 e2
    subst e1 e2
    rw [hv1] at hv2
    injection hv2 with _ _ e3
    subst e3
    refine ⟨by omega, .inr ⟨g, c0, cur2, hv0, (h0.lt g e).1, hh2, hn0, hm0, by omega, ?_⟩⟩
    rw [Nat.mul_one]
    have k1 : cur1.toList.take ys.length = xs.take ys.length := by rw [← ht1, List.take_take, Nat.min_eq_left hl]
    have k2 : cur2.toList.take ys.length = xs.take ys.length := by rw [← ht2, List.take_take, Nat.min_eq_left hl]
    rw [k2, ← k1, ht0]
end

/-- A row of a family: its label, where it lies, what it holds. -/
structure Kin where
  lab : Nat
  val : Value
  xs : List Value
structure Fam (w : World) (B : Nat) (T : TypeId) (S : Kin → Prop) : Prop where
  own : ∀ s, S s → Own w B T s.val s.xs
  far : ∀ s t, S s → S t → s.lab ≠ t.lab → s.val.ownBlock = none ∨ s.val.ownBlock ≠ t.val.ownBlock
section
variable {w w' : World} {B : Nat} {T : TypeId} {S S' : Kin → Prop}
theorem Fam.sub (h : Fam w B T S) (hs : ∀ s, S' s → S s) : Fam w B T S' := ⟨fun s k => h.own s (hs s k), fun s t k l => h.far s t (hs s k) (hs t l)⟩
theorem Fam.keep (h : Fam w B T S) (hk : ∀ s, S s → ∀ g, s.val.ownBlock = some g → w'.heap[g]? = w.heap[g]?) : Fam w' B T S := ⟨fun s k => (h.own s k).keepBlock (hk s k), h.far⟩
theorem Fam.ext (h : Fam w B T S) (hx : Ext w w') : Fam w' B T S := h.keep fun s k g hg => hx.block g ((h.own s k).lt g hg).2
theorem Fam.alloc (h : Fam w B T S) (o : Obj) : Fam (w.alloc o) B T S := h.ext ((Ext.refl w).alloc o)
theorem Fam.drewN (h : Fam w B T S) (n : Nat) : Fam (w.drewN n) B T S := h.ext ((Ext.refl w).drewN n)
theorem Fam.grown {row : Option Nat} (h : Fam w B T S) (hg : w.grownBy w' row) (hr : ∀ s, S s → s.val.ownBlock = none ∨ s.val.ownBlock ≠ row) : Fam w' B T S :=
  h.keep fun s k g e => hg.block g ((h.own s k).lt g e).2 fun e' => by
    rcases hr s k with h1 | h1
    · rw [e] at h1; cases h1
    · exact h1 (e.trans e')
/-- Another kind of row has grown. -/
theorem Fam.other {B' : Nat} {T' : TypeId} {v v' : Value} {ys : List Value} (h : Fam w B T S) (ho : Own w B' T' v ys) (hT : T ≠ T') (hm : Moved w w' v v') : Fam w' B T S :=
  h.grown hm.grown fun s k => (h.own s k).types ho hT
/-- One of the longest of its label has grown. -/
theorem Fam.push (h : Fam w B T S) {s : Kin} (hs : S s) (hlong : ∀ t, S t → t.lab = s.lab → t.xs.length ≤ s.xs.length) {v' : Value} {ys : List Value}
    (hn : Own w' B T v' ys) (hm : Moved w w' s.val v') (ho : Own w' B T s.val s.xs) : Fam w' B T (fun k => k = ⟨s.lab, v', ys⟩ ∨ S k) := by
  have old : ∀ t, S t → Own w' B T t.val t.xs := fun t ht => by
    by_cases e : t.val.ownBlock = s.val.ownBlock
    · by_cases hl : t.lab = s.lab
      · exact (h.own s hs).elder ho (h.own t ht) e (hlong t ht hl)
      · rcases h.far t s ht hs hl with h1 | h1
        · obtain ⟨e1, e2⟩ := (h.own t ht).isNil h1
          rw [e1, e2]; exact Own.nil _ _ _
        · exact absurd e h1
    · exact (h.own t ht).kept hm.grown (.inr e)
  have new : ∀ t, S t → t.lab ≠ s.lab → (v'.ownBlock = none ∨ v'.ownBlock ≠ t.val.ownBlock) ∧ (t.val.ownBlock = none ∨ t.val.ownBlock ≠ v'.ownBlock) := fun t ht hl => by
    rcases hm with ⟨e, _⟩ | ⟨e, _⟩
    · rw [e]; exact ⟨h.far s t hs ht (Ne.symm hl), h.far t s ht hs hl⟩
    · have hne : t.val.ownBlock ≠ v'.ownBlock := fun e' => by
        rw [e] at e'
        exact Nat.lt_irrefl _ ((h.own t ht).lt _ e').2
      exact ⟨.inr (Ne.symm hne), .inr hne⟩
  refine ⟨?_, ?_⟩
  · rintro t (rfl | ht)
    · exact hn
    · exact old t ht
  · rintro t u (rfl | ht) (rfl | hu) hl
    · exact absurd rfl hl
    · exact (new u hu (Ne.symm hl)).1
    · exact (new t ht hl).2
    · exact h.far t u ht hu hl
end

/-- Rows in a list, each of the call's own: the values V, what they hold. -/
structure OwnRows (w : World) (B : Nat) (T : TypeId) (V : List Value) (R : Nat → List E) : Prop where
  own : ∀ i v, V[i]? = some v → Own w B T v (bs (R i))
/-- No two of them share a block. -/
def FarApart (V : List Value) : Prop := ∀ (i j : Nat) (vi vj : Value), V[i]? = some vi → V[j]? = some vj → i ≠ j → vi.ownBlock = none ∨ vi.ownBlock ≠ vj.ownBlock
/-- The blocks of rows. -/
def InRows (V : List Value) (k : Nat) : Prop := ∃ (i : Nat) (v : Value), V[i]? = some v ∧ v.ownBlock = some k
def kinOf (V : List Value) (R : Nat → List E) (s : Kin) : Prop := V[s.lab]? = some s.val ∧ s.xs = bs (R s.lab)
theorem fam_rows {w : World} {B : Nat} {T : TypeId} {V : List Value} {R : Nat → List E} (h : OwnRows w B T V R) (hf : FarApart V) : Fam w B T (kinOf V R) :=
  ⟨fun s ⟨h1, h2⟩ => by rw [h2]; exact h.own _ _ h1, fun s t ⟨h1, _⟩ ⟨h2, _⟩ hl => hf _ _ _ _ h1 h2 hl⟩
def updR (R : Nat → List E) (i : Nat) (l : List E) : Nat → List E := fun k => if k = i then l else R k
theorem updR_same (R : Nat → List E) (i : Nat) (l : List E) : updR R i l i = l := if_pos rfl
theorem updR_other (R : Nat → List E) (i : Nat) (l : List E) {k : Nat} (h : k ≠ i) : updR R i l k = R k := if_neg h
/-- One place of one row is written. -/
theorem OwnRows.set {w : World} {B : Nat} {T : TypeId} {V : List Value} {R : Nat → List E} (h : OwnRows w B T V R) (hf : FarApart V) {i g n cap : Nat} (hi : V[i]? = some (.slice (some ⟨g, 0, none⟩) n cap)) (j : Nat) (x : E) :
    OwnRows (w.setCell ⟨g, j, none⟩ (bv x)) B T V (updR R i ((R i).set j x)) := ⟨fun k v hk => by
  by_cases e : k = i
  · subst e
    rw [hi] at hk
    injection hk with hk
    subst hk
    rw [updR_same, bs, List.map_set]
    exact (h.own _ _ hi).set j (bv x)
  · rw [updR_other _ _ _ e]
    refine (h.own _ _ hk).far (p := ⟨g, j, none⟩) (fun e' => ?_) _
    rcases hf k i _ _ hk hi e with h1 | h1
    · rw [h1] at e'; cases e'
    · exact h1 e'⟩
theorem OwnRows.ext {w w' : World} {B : Nat} {T : TypeId} {V : List Value} {R : Nat → List E} (h : OwnRows w B T V R) (hx : Ext w w') : OwnRows w' B T V R := ⟨fun i v hi => (h.own i v hi).ext hx⟩

/-! ### Marking: each row is written full with its own mark. -/
/-- The rows below i are full of their marks, row i up to j. -/
structure Marking (w0 w : World) (B BG : Nat) (T TR : TypeId) (G N cap : Nat) (V : List Value) (R : Nat → List E) (mk : Nat → E) (i j : Nat) : Prop where
  touch : Touch (InRows V) w0 w
  own : Own w BG TR (.slice (some ⟨G, 0, none⟩) N cap) V
  rows : ∃ R' : Nat → List E, OwnRows w B T V R' ∧ (∀ r, (R' r).length = (R r).length) ∧ (∀ r, r < i → R' r = List.replicate (R r).length (mk r)) ∧ (R' i).take j = List.replicate j (mk i)
section
variable {w0 w : World} {B BG : Nat} {T TR : TypeId} {G N cap : Nat} {V : List Value} {R : Nat → List E} {mk : Nat → E} {i j : Nat}
theorem Marking.start (ho : Own w BG TR (.slice (some ⟨G, 0, none⟩) N cap) V) (hr : OwnRows w B T V R) : Marking w w B BG T TR G N cap V R mk 0 0 :=
  ⟨Touch.refl _, ho, R, hr, fun _ => rfl, fun r h => absurd h (Nat.not_lt_zero _), rfl⟩
theorem Marking.at_ (h : Marking w0 w B BG T TR G N cap V R mk i j) {k : Nat} {v : Value} (hk : V[k]? = some v) :
    ∃ A c, v = .slice A (R k).length c ∧ w.cell? ⟨G, k, none⟩ = some (.slice A (R k).length c) ∧ (R k).length ≤ c ∧ c ≤ maxLen ∧ (0 < (R k).length → ∃ g, A = some ⟨g, 0, none⟩) := by
  obtain ⟨R', hr, hl, _⟩ := h.rows
  have hc := h.own.cell hk
  rcases (hr.own k v hk).form with ⟨hv, hn⟩ | ⟨g, c, hv, hb, hlt, hn, hm⟩
  · have : (R k).length = 0 := by rw [← hl, ← bs_length, hn]; rfl
    subst hv
    exact ⟨none, 0, by rw [this], by rw [hc, this], by omega, Nat.zero_le _, fun h => by omega⟩
  · rw [bs_length, hl] at hv hn
    subst hv
    exact ⟨_, c, rfl, hc, hn, hm, fun _ => ⟨g, rfl⟩⟩
theorem Marking.frozen (h : Marking w0 w B BG T TR G N cap V R mk i j) {k g n c : Nat} (hk : V[k]? = some (.slice (some ⟨g, 0, none⟩) n c)) (q : Nat) : w.frozen? ⟨g, q, none⟩ = false := by
  obtain ⟨R', hr, _⟩ := h.rows
  exact (hr.own k _ hk).frozen q
theorem Marking.old (h : Marking w0 w B BG T TR G N cap V R mk i j) {k g n c q : Nat} (hk : V[k]? = some (.slice (some ⟨g, 0, none⟩) n c)) (hq : q < (R k).length) : ∃ x : E, w.cell? ⟨g, q, none⟩ = some (.int .u8 (x.val : Int)) := by
  obtain ⟨R', hr, hl, _⟩ := h.rows
  exact ⟨_, (hr.own k _ hk).cell (bs_get (R' k) q (by rw [hl]; exact hq))⟩
theorem Marking.step (h : Marking w0 w B BG T TR G N cap V R mk i j) (hf : FarApart V) (hT : T ≠ TR) {g n c : Nat} (hi : V[i]? = some (.slice (some ⟨g, 0, none⟩) n c)) (hj : j < (R i).length) :
    Marking w0 (w.setCell ⟨g, j, none⟩ (bv (mk i))) B BG T TR G N cap V R mk i (j + 1) := by
  obtain ⟨R', hr, hl, hd, ht⟩ := h.rows
  have hin : InRows V g := ⟨i, _, hi, rfl⟩
  refine ⟨h.touch.trans (touch_set w ⟨g, j, none⟩ _ hin), h.own.far (p := ⟨g, j, none⟩) (fun e => ?_) _, updR R' i ((R' i).set j (mk i)), hr.set hf hi j (mk i), fun r => ?_, fun r hlt => ?_, ?_⟩
  · rcases (hr.own i _ hi).types h.own hT with h1 | h1
    · cases h1
    · exact h1 e.symm
  · by_cases e : r = i
    · subst e; rw [updR_same, List.length_set, hl]
    · rw [updR_other _ _ _ e, hl]
  · rw [updR_other _ _ _ (by omega)]; exact hd r hlt
  · rw [updR_same, List.take_succ_eq_append_getElem (by rw [List.length_set, hl]; exact hj), List.take_set, ht, List.getElem_set_self, List.set_eq_of_length_le (by simp), List.replicate_succ']
theorem Marking.next (h : Marking w0 w B BG T TR G N cap V R mk i (R i).length) : Marking w0 w B BG T TR G N cap V R mk (i + 1) 0 := by
  obtain ⟨R', hr, hl, hd, ht⟩ := h.rows
  refine ⟨h.touch, h.own, R', hr, hl, fun r hlt => ?_, rfl⟩
  rcases Nat.lt_succ_iff_lt_or_eq.1 hlt with e | rfl
  · exact hd r e
  · rw [← ht, List.take_of_length_le (by rw [hl]; exact Nat.le_refl _)]
theorem Marking.done (h : Marking w0 w B BG T TR G N cap V R mk N 0) (hN : V.length = N) : OwnRows w B T V (fun r => List.replicate (R r).length (mk r)) := by
  obtain ⟨R', hr, hl, hd, _⟩ := h.rows
  refine ⟨fun k v hk => ?_⟩
  have := hr.own k v hk
  rwa [hd k (by rw [← hN]; exact (List.getElem?_eq_some_iff.1 hk).1)] at this
end

/-! ### Growing: each row is grown by marks, one by one; all that is grown is kept. -/
/-- Of what was there, the rows' blocks alone may have been written. -/
def Old (w0 : World) (V : List Value) (k : Nat) : Prop := w0.heap.size ≤ k ∨ InRows V k
structure Grow (w0 w : World) (B BG : Nat) (T TR TI : TypeId) (G N cap : Nat) (V : List Value) (R : Nat → List E) (cur : Kin) (vl vw : Value) (L W : List Kin) : Prop where
  touch : Touch (Old w0 V) w0 w
  own : Own w BG TR (.slice (some ⟨G, 0, none⟩) N cap) V
  fam : Fam w B T (fun s => kinOf V R s ∨ s ∈ L ∨ s = cur)
  vl : Own w w0.heap.size TR vl (L.map Kin.val)
  vw : Own w w0.heap.size TI vw (W.map fun s => .int .i64 (s.lab : Int))
  curB : ∀ g, cur.val.ownBlock = some g → Old w0 V g
  lt : G < w0.heap.size
section
variable {w0 w w1 : World} {B BG : Nat} {T TR TI : TypeId} {G N cap : Nat} {V : List Value} {R : Nat → List E} {cur : Kin} {vl vw : Value} {L W : List Kin}
theorem Grow.start (ht : Touch (InRows V) w0 w) (ho : Own w BG TR (.slice (some ⟨G, 0, none⟩) N cap) V) (hr : OwnRows w B T V R) (hf : FarApart V) (hG : G < w0.heap.size) (cur : Kin) (hc : kinOf V R cur) :
    Grow w0 w B BG T TR TI G N cap V R cur (.slice none 0 0) (.slice none 0 0) [] [] :=
  ⟨ht.mono (fun _ _ h => .inr h), ho, (fam_rows hr hf).sub fun s h => by
    rcases h with h | h | rfl
    · exact h
    · cases h
    · exact hc, Own.nil _ _ _, Own.nil _ _ _, fun g hg => .inr ⟨_, _, hc.1, hg⟩, hG⟩
/-- The next row. -/
theorem Grow.next (h : Grow w0 w B BG T TR TI G N cap V R cur vl vw L W) (c2 : Kin) (hc : kinOf V R c2) : Grow w0 w B BG T TR TI G N cap V R c2 vl vw L W :=
  ⟨h.touch, h.own, h.fam.sub fun s k => by
    rcases k with k | k | rfl
    · exact .inl k
    · exact .inr (.inl k)
    · exact .inl hc, h.vl, h.vw, fun g hg => .inr ⟨_, _, hc.1, hg⟩, h.lt⟩
theorem Grow.cur_ (h : Grow w0 w B BG T TR TI G N cap V R cur vl vw L W) (hR : T ≠ TR) (hI : T ≠ TI) (hlong : ∀ s, s ∈ L → s.lab = cur.lab → s.xs.length ≤ cur.xs.length) (hbase : (R cur.lab).length ≤ cur.xs.length)
    {box : Obj} {v' : Value} {ys : List Value} (h1 : Own w1 B T v' ys) (h2 : Moved (w.alloc box) w1 cur.val v') (h3 : Own w1 B T cur.val cur.xs) :
    Grow w0 w1 B BG T TR TI G N cap V R ⟨cur.lab, v', ys⟩ vl vw L W := by
  have hx : Ext w (w.alloc box) := (Ext.refl w).alloc box
  have hcur : Own (w.alloc box) B T cur.val cur.xs := (h.fam.own cur (.inr (.inr rfl))).ext hx
  have keep : ∀ {B' : Nat} {T' : TypeId} {v : Value} {zs : List Value}, Own w B' T' v zs → T ≠ T' → Own w1 B' T' v zs := fun {B' T' v zs} ho hne => by
    refine (ho.ext hx).kept h2.grown ?_
    rcases (ho.ext hx).types hcur (Ne.symm hne) with e | e
    · exact .inl e
    · exact .inr e
  have hsz : w0.heap.size ≤ w.heap.size := h.touch.size
  refine ⟨h.touch.trans (hx.touch.trans (touch_grown h2.grown fun k hk hlt => h.curB k hk)), keep h.own hR, ?_, keep h.vl hR, keep h.vw hI, ?_, h.lt⟩
  · refine ((h.fam.ext hx).push (s := cur) (.inr (.inr rfl)) ?_ h1 h2 h3).sub ?_
    · intro t ht hl
      rcases ht with ht | ht | rfl
      · rw [ht.2, bs_length, hl]; exact hbase
      · exact hlong t ht hl
      · exact Nat.le_refl _
    · intro s hs
      rcases hs with hs | hs | rfl
      · exact .inr (.inl hs)
      · exact .inr (.inr (.inl hs))
      · exact .inl rfl
  · intro g hg
    rcases h2 with ⟨e, _⟩ | ⟨e, _⟩
    · exact h.curB g (e ▸ hg)
    · rw [e] at hg
      injection hg with hg
      subst hg
      left
      simp; omega
/-- What was grown is kept. -/
theorem Grow.long_ (h : Grow w0 w B BG T TR TI G N cap V R cur vl vw L W) (hR : T ≠ TR) (hRI : TR ≠ TI)
    {box : Obj} {v' : Value} (h1 : Own w1 w0.heap.size TR v' (L.map Kin.val ++ [cur.val])) (h2 : Moved (w.alloc box) w1 vl v') :
    Grow w0 w1 B BG T TR TI G N cap V R cur v' vw (L ++ [cur]) W := by
  have hx : Ext w (w.alloc box) := (Ext.refl w).alloc box
  have hvl := h.vl.ext hx
  have hsz : w0.heap.size ≤ w.heap.size := h.touch.size
  refine ⟨h.touch.trans (hx.touch.trans (touch_grown h2.grown fun k hk hlt => .inl (hvl.lt k hk).1)), (h.own.ext hx).kept h2.grown (.inr fun e => ?_), ?_, by rw [List.map_append]; exact h1, (h.vw.ext hx).kept h2.grown ?_, h.curB, h.lt⟩
  · have := (hvl.lt G e.symm).1
    have := h.lt
    omega
  · refine ((h.fam.ext hx).other hvl hR h2).sub fun s hs => ?_
    rcases hs with hs | hs | rfl
    · exact .inl hs
    · rcases List.mem_append.1 hs with hs | hs
      · exact .inr (.inl hs)
      · exact .inr (.inr (by simpa using hs))
    · exact .inr (.inr rfl)
  · rcases (h.vw.ext hx).types hvl (Ne.symm hRI) with e | e
    · exact .inl e
    · exact .inr e
/-- Whose it is is kept. -/
theorem Grow.whose_ (h : Grow w0 w B BG T TR TI G N cap V R cur vl vw L W) (hI : T ≠ TI) (hRI : TR ≠ TI)
    {box : Obj} {v' : Value} (h1 : Own w1 w0.heap.size TI v' ((W.map fun s => .int .i64 (s.lab : Int)) ++ [.int .i64 (cur.lab : Int)])) (h2 : Moved (w.alloc box) w1 vw v') :
    Grow w0 w1 B BG T TR TI G N cap V R cur vl v' L (W ++ [cur]) := by
  have hx : Ext w (w.alloc box) := (Ext.refl w).alloc box
  have hvw := h.vw.ext hx
  have hsz : w0.heap.size ≤ w.heap.size := h.touch.size
  refine ⟨h.touch.trans (hx.touch.trans (touch_grown h2.grown fun k hk hlt => .inl (hvw.lt k hk).1)), (h.own.ext hx).kept h2.grown (.inr fun e => ?_), (h.fam.ext hx).other hvw hI h2, (h.vl.ext hx).kept h2.grown ?_, by rw [List.map_append]; exact h1, h.curB, h.lt⟩
  · have := (hvw.lt G e.symm).1
    have := h.lt
    omega
  · rcases (h.vl.ext hx).types hvw hRI with e | e
    · exact .inl e
    · exact .inr e
theorem Grow.fin (h : Grow w0 w B BG T TR TI G N cap V R cur vl vw L W) : Touch (InRows V) w0 w := h.touch.mono fun k hk e => e.elim (fun h => absurd h (by omega)) id
end
/-- What a row of the list is, by its label, in the growing phase. -/
structure Hist (R : Nat → List E) (mk : Nat → E) (N M i k : Nat) (s : Kin) : Prop where
  lt : s.lab < N
  le : s.lab ≤ i
  xs : ∃ m, m ≤ M ∧ (s.lab = i → m ≤ k) ∧ s.xs = bs (R s.lab ++ List.replicate m (mk s.lab))
theorem Hist.more {R : Nat → List E} {mk : Nat → E} {N M i k : Nat} {s : Kin} (h : Hist R mk N M i k s) : Hist R mk N M i (k + 1) s := by
  obtain ⟨m, h1, h2, h3⟩ := h.xs
  exact ⟨h.lt, h.le, m, h1, fun e => Nat.le_succ_of_le (h2 e), h3⟩
theorem Hist.next {R : Nat → List E} {mk : Nat → E} {N M i k : Nat} {s : Kin} (h : Hist R mk N M i k s) : Hist R mk N M (i + 1) 0 s := by
  obtain ⟨m, h1, h2, h3⟩ := h.xs
  exact ⟨h.lt, Nat.le_succ_of_le h.le, m, h1, fun e => by have := h.le; omega, h3⟩
theorem Hist.len {R : Nat → List E} {mk : Nat → E} {N M i k : Nat} {s : Kin} (h : Hist R mk N M i k s) (hl : s.lab = i) : s.xs.length ≤ (R i).length + k := by
  obtain ⟨m, h1, h2, h3⟩ := h.xs
  have := h2 hl
  rw [h3, bs_length, List.length_append, List.length_replicate, hl]
  omega
end Go.Proofs.Ytemnlcfabaocbaa
