/-
  The memory of the elimination: rows that are swapped and written in their places.
-/
import Derived.Test.YtemnlcfabaocbaaKer0
import Derived.Test.YtemnlcfabaocbaaTab
namespace Go.Proofs.Ytemnlcfabaocbaa
open Go.RowKit Gf
set_option linter.unusedVariables false

/-- The new ones below i, the old ones from i on. -/
def mixL (new old : List E) (i : Nat) : List E := new.take i ++ old.drop i
theorem mixL_zero (new old : List E) : mixL new old 0 = old := by simp [mixL]
theorem mixL_all {new old : List E} (h : new.length = old.length) : mixL new old old.length = new := by simp [mixL, ← h]
theorem mixL_length {new old : List E} (h : new.length = old.length) (i : Nat) : (mixL new old i).length = old.length := by simp [mixL]; omega
theorem mixL_get {new old : List E} (h : new.length = old.length) {i : Nat} (hi : i < old.length) : (mixL new old i)[i]'(by rw [mixL_length h]; exact hi) = old[i] := by
  have hl : (new.take i).length = i := by rw [List.length_take]; omega
  have : (mixL new old i)[i]? = some old[i] := by
    rw [mixL, List.getElem?_append_right (by omega), hl, Nat.sub_self, List.getElem?_drop, Nat.add_zero, List.getElem?_eq_getElem hi]
  rw [List.getElem?_eq_getElem (by rw [mixL_length h]; exact hi)] at this
  exact Option.some.inj this
theorem mixL_set {new old : List E} (h : new.length = old.length) {i : Nat} (hi : i < old.length) : (mixL new old i).set i (new[i]'(by omega)) = mixL new old (i + 1) := by
  have hl : (new.take i).length = i := by rw [List.length_take]; omega
  rw [mixL, mixL, take_snoc' new i (by omega), List.set_append_right _ _ (by omega), hl, Nat.sub_self, List.drop_eq_getElem_cons hi, List.set_cons_zero, List.append_assoc]
  rfl
theorem mixL_skip {new old : List E} (h : new.length = old.length) {i : Nat} (hi : i < old.length) (he : new[i]'(by omega) = old[i]) : mixL new old (i + 1) = mixL new old i := by
  rw [← mixL_set h hi, he]
  have h1 := mixL_length h i
  have := mixL_get h hi
  conv => lhs; rw [← this]
  exact List.set_getElem_self _
/-- A row times a number; a row and so many times another one. -/
def scaleR (c : E) (a : List E) : List E := a.map (c * ·)
def elimR (f : E) (a b : List E) : List E := List.zipWith (fun x y => x + f * y) a b
theorem scaleR_length (c : E) (a : List E) : (scaleR c a).length = a.length := List.length_map _
theorem elimR_length {f : E} {a b : List E} (h : b.length = a.length) : (elimR f a b).length = a.length := by simp [elimR, h]
theorem ser_scaleR (c : E) (a : List E) (i : Nat) : ser (scaleR c a) i = c * ser a i := by
  by_cases h : i < a.length
  · rw [ser_at _ _ (by rw [scaleR_length]; exact h), ser_at _ _ h]; simp [scaleR]
  · rw [ser_out _ _ (by rw [scaleR_length]; omega), ser_out _ _ (by omega), E.mul_zero]
theorem ser_elimR {f : E} {a b : List E} (h : b.length = a.length) (i : Nat) : ser (elimR f a b) i = ser a i + f * ser b i := by
  by_cases hi : i < a.length
  · rw [ser_at _ _ (by rw [elimR_length h]; exact hi), ser_at _ _ hi, ser_at _ _ (by omega)]; simp [elimR]
  · rw [ser_out _ _ (by rw [elimR_length h]; omega), ser_out _ _ (by omega), ser_out _ _ (by omega), E.mul_zero, E.add_zero]
theorem elimR_zero {a b : List E} (h : b.length = a.length) : elimR 0 a b = a := by
  apply List.ext_getElem
  · exact elimR_length h
  · intro i h1 h2; simp [elimR, E.zero_mul, E.add_zero]
theorem elimR_get {f : E} {a b : List E} (h : b.length = a.length) {i : Nat} (hi : i < a.length) : (elimR f a b)[i]'(by rw [elimR_length h]; exact hi) = a[i] + f * b[i] := by simp [elimR]
theorem scaleR_get {c : E} {a : List E} {i : Nat} (hi : i < a.length) : (scaleR c a)[i]'(by rw [scaleR_length]; exact hi) = c * a[i] := by simp [scaleR]

/-- The rows p and a swapped. -/
def sw (p a i : Nat) : Nat := if i = a then p else if i = p then a else i
def swapR (R : Nat → List E) (p a : Nat) : Nat → List E := fun i => R (sw p a i)
theorem sw_inj {p a i j : Nat} (h : sw p a i = sw p a j) : i = j := by unfold sw at h; split at h <;> split at h <;> (try split at h) <;> (try split at h) <;> omega

structure KSt (w0 w : World) (B G m cap U gp : Nat) (V : List Value) (R : Nat → List E) (pl : List Nat) : Prop where
  below : Below B w0 w
  own : Own w B 24 (.slice (some ⟨G, 0, none⟩) m cap) V
  rows : OwnRows w B 5 V R
  far : FarApart V
  vl : V.length = m
  len : ∀ i, i < m → (R i).length = U
  place : Own w w0.heap.size 3 (.slice (some ⟨gp, 0, none⟩) U U) (ints pl)
  pll : pl.length = U
  hB : B ≤ w0.heap.size
section
variable {w0 w : World} {B G m cap U gp : Nat} {V : List Value} {R : Nat → List E} {pl : List Nat}
theorem KSt.drewN (h : KSt w0 w B G m cap U gp V R pl) (n : Nat) : KSt w0 (w.drewN n) B G m cap U gp V R pl :=
  ⟨below_drewN h.below n, h.own.drewN n, h.rows.ext ((Ext.refl w).drewN n), h.far, h.vl, h.len, h.place.drewN n, h.pll, h.hB⟩
theorem KSt.ext (h : KSt w0 w B G m cap U gp V R pl) {w' : World} (hx : Ext w w') (hb : Below B w0 w') : KSt w0 w' B G m cap U gp V R pl :=
  ⟨hb, h.own.ext hx, h.rows.ext hx, h.far, h.vl, h.len, h.place.ext hx, h.pll, h.hB⟩
theorem KSt.at_ (h : KSt w0 w B G m cap U gp V R pl) (hU : 0 < U) {r : Nat} (hr : r < m) : ∃ g c, V[r]? = some (.slice (some ⟨g, 0, none⟩) U c) ∧ w.cell? ⟨G, r, none⟩ = some (.slice (some ⟨g, 0, none⟩) U c) := by
  have hl : r < V.length := by rw [h.vl]; exact hr
  obtain ⟨A, c, hv, -, -, -, hs⟩ := h.rows.at_ (List.getElem?_eq_getElem hl)
  rw [h.len r hr] at hv hs
  obtain ⟨g, rfl⟩ := hs hU
  have hv' : V[r]? = some (.slice (some ⟨g, 0, none⟩) U c) := by rw [List.getElem?_eq_getElem hl, hv]
  exact ⟨g, c, hv', h.own.cell hv'⟩
theorem KSt.get (h : KSt w0 w B G m cap U gp V R pl) {r g c : Nat} (hr : r < m) (hv : V[r]? = some (.slice (some ⟨g, 0, none⟩) U c)) {j : Nat} (hj : j < U) : w.cell? ⟨g, j, none⟩ = some (.int .u8 (((R r)[j]'(by rw [h.len r hr]; exact hj)).val : Int)) :=
  (h.rows.own r _ hv).cell (bs_get (R r) j (by rw [h.len r hr]; exact hj))
theorem KSt.getS (h : KSt w0 w B G m cap U gp V R pl) {r g c : Nat} (hr : r < m) (hv : V[r]? = some (.slice (some ⟨g, 0, none⟩) U c)) {j : Nat} (hj : j < U) : w.cell? ⟨g, j, none⟩ = some (.int .u8 ((ser (R r) j).val : Int)) := by
  rw [ser_at _ _ (by rw [h.len r hr]; exact hj)]; exact h.get hr hv hj
theorem KSt.frozen (h : KSt w0 w B G m cap U gp V R pl) {r g c n : Nat} (hv : V[r]? = some (.slice (some ⟨g, 0, none⟩) n c)) (j : Nat) : w.frozen? ⟨g, j, none⟩ = false := (h.rows.own r _ hv).frozen j
theorem KSt.hG (h : KSt w0 w B G m cap U gp V R pl) : B ≤ G := (h.own.blk).1
theorem KSt.hg (h : KSt w0 w B G m cap U gp V R pl) {r g c n : Nat} (hv : V[r]? = some (.slice (some ⟨g, 0, none⟩) n c)) : B ≤ g := ((h.rows.own r _ hv).lt g rfl).1
theorem KSt.set (h : KSt w0 w B G m cap U gp V R pl) {r g c n : Nat} (hr : r < m) (hv : V[r]? = some (.slice (some ⟨g, 0, none⟩) n c)) (j : Nat) (x : E) :
    KSt w0 (w.setCell ⟨g, j, none⟩ (.int .u8 (x.val : Int))) B G m cap U gp V (updR R r ((R r).set j x)) pl := by
  have hor := h.rows.own r _ hv
  refine ⟨h.below.setCell (p := ⟨g, j, none⟩) (h.hg hv) _, h.own.far (p := ⟨g, j, none⟩) ?_ _, h.rows.set h.far hv j x, h.far, h.vl, fun i hi => ?_, h.place.far (p := ⟨g, j, none⟩) ?_ _, h.pll, h.hB⟩
  · rcases hor.types h.own (by decide) with e | e
    · cases e
    · exact fun e' => e e'.symm
  · by_cases e : i = r
    · subst e; rw [updR_same, List.length_set]; exact h.len i hi
    · rw [updR_other _ _ _ e]; exact h.len i hi
  · rcases hor.types h.place (by decide) with e | e
    · cases e
    · exact fun e' => e e'.symm
theorem KSt.congr (h : KSt w0 w B G m cap U gp V R pl) {R' : Nat → List E} (e : ∀ i, i < m → R' i = R i) : KSt w0 w B G m cap U gp V R' pl :=
  ⟨h.below, h.own, ⟨fun i v hi => by rw [e i (by rw [← h.vl]; exact (List.getElem?_eq_some_iff.1 hi).1)]; exact h.rows.own i v hi⟩, h.far, h.vl, fun i hi => by rw [e i hi]; exact h.len i hi, h.place, h.pll, h.hB⟩
theorem KSt.setPlace (h : KSt w0 w B G m cap U gp V R pl) (c a : Nat) : KSt w0 (w.setCell ⟨gp, c, none⟩ (.int .i64 (a : Int))) B G m cap U gp V R (pl.set c a) := by
  have hgp : w0.heap.size ≤ gp := (h.place.lt gp rfl).1
  refine ⟨h.below.setCell (p := ⟨gp, c, none⟩) (by have := h.hB; show B ≤ gp; omega) _, h.own.far (p := ⟨gp, c, none⟩) ?_ _, ⟨fun i v hi => (h.rows.own i v hi).far (p := ⟨gp, c, none⟩) ?_ _⟩, h.far, h.vl, h.len, ?_, by rw [List.length_set]; exact h.pll, h.hB⟩
  · rcases h.place.types h.own (by decide) with e | e
    · cases e
    · exact fun e' => e e'.symm
  · rcases h.place.types (h.rows.own i v hi) (by decide) with e | e
    · cases e
    · exact fun e' => e e'.symm
  · have := h.place.set c (.int .i64 (a : Int))
    rw [ints, List.map_set]
    exact this
theorem KSt.placeAt (h : KSt w0 w B G m cap U gp V R pl) {c : Nat} (hc : c < U) : w.cell? ⟨gp, c, none⟩ = some (.int .i64 ((pl.getD c 0 : Nat) : Int)) := by
  have hl : c < pl.length := by rw [h.pll]; exact hc
  rw [List.getD_eq_getElem?_getD, List.getElem?_eq_getElem hl, Option.getD_some]
  exact h.place.cell (ints_get pl c hl)
/-- Two rows are swapped. -/
theorem KSt.swap (h : KSt w0 w B G m cap U gp V R pl) {p a : Nat} (hp : p < m) (ha : a < m) {vp va : Value} (hvp : V[p]? = some vp) (hva : V[a]? = some va) :
    ∃ V', KSt w0 ((w.setCell ⟨G, p, none⟩ va).setCell ⟨G, a, none⟩ vp) B G m cap U gp V' (swapR R p a) pl ∧ ∀ i, i < m → V'[i]? = V[sw p a i]? := by
  have hV : ∀ i, i < m → ((V.set p va).set a vp)[i]? = V[sw p a i]? := fun i hi => by
    have hl : i < V.length := by rw [h.vl]; exact hi
    unfold sw
    by_cases e1 : i = a
    · subst e1; rw [if_pos rfl, List.getElem?_set_self (by rw [List.length_set]; exact hl), hvp]
    · rw [if_neg e1, List.getElem?_set_ne (fun e => e1 e.symm)]
      by_cases e2 : i = p
      · subst e2; rw [if_pos rfl, List.getElem?_set_self hl, hva]
      · rw [if_neg e2, List.getElem?_set_ne (fun e => e2 e.symm)]
  have hlt : ∀ i, i < m → sw p a i < m := fun i hi => by unfold sw; split <;> (try split) <;> omega
  have hlen : ((V.set p va).set a vp).length = m := by rw [List.length_set, List.length_set, h.vl]
  have farG : ∀ {T : TypeId} {v : Value} {xs : List Value} {C : Nat} {W : World}, Own W C T v xs → Own W B 24 (.slice (some ⟨G, 0, none⟩) m cap) (V) → T ≠ 24 → v.ownBlock ≠ some G := fun ho hl hT e => by
    rcases ho.types hl hT with e1 | e1
    · rw [e] at e1; cases e1
    · exact e1 e
  have farG2 : ∀ {T : TypeId} {v : Value} {xs : List Value} {C : Nat}, Own w C T v xs → T ≠ 24 → Own ((w.setCell ⟨G, p, none⟩ va).setCell ⟨G, a, none⟩ vp) C T v xs := fun ho hT =>
    (ho.far (p := ⟨G, p, none⟩) (farG ho h.own hT) _).far (p := ⟨G, a, none⟩) (farG ho h.own hT) _
  refine ⟨(V.set p va).set a vp, ⟨(h.below.setCell (p := ⟨G, p, none⟩) h.hG _).setCell (p := ⟨G, a, none⟩) h.hG _, (h.own.set p va).set a vp, ⟨fun i v hi => ?_⟩, fun i j vi vj hi hj hne => ?_, hlen, fun i hi => h.len _ (hlt i hi), farG2 h.place (by decide), h.pll, h.hB⟩, hV⟩
  · have hi' : i < m := by rw [← hlen]; exact (List.getElem?_eq_some_iff.1 hi).1
    rw [hV i hi'] at hi
    exact farG2 (h.rows.own _ _ hi) (by decide)
  · have hi' : i < m := by rw [← hlen]; exact (List.getElem?_eq_some_iff.1 hi).1
    have hj' : j < m := by rw [← hlen]; exact (List.getElem?_eq_some_iff.1 hj).1
    rw [hV i hi'] at hi
    rw [hV j hj'] at hj
    exact h.far _ _ _ _ hi hj (fun e => hne (sw_inj e))
end
end Go.Proofs.Ytemnlcfabaocbaa
