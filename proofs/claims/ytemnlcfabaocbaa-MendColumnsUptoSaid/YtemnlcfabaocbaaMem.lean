/-
  Words for memory: a slice that reads as a list; a block that is known whole; a row of the call's own. (After the guide's own words, with the length left to the list.)
-/
import Derived.Below
import Derived.Laws.OwnMore
import Derived.Deep.AppendLies
import Derived.Deep.Draws
import Derived.Laws.Rows
import Derived.Laws.MakeOwn
import Derived.Maps.AppendAt
import Derived.RegionTactic
import Derived.OwnWalk
import Derived.OpenShut
import Derived.Lib.Hide
import Derived.Test.YtemnlcfabaocbaaGf
namespace Go.Proofs.Ytemnlcfabaocbaa
open Go.RowKit Gf

theorem block_of_add (a : Addr) (n : Nat) : (a.add n).block = a.block := by unfold Addr.add; split <;> rfl
theorem add_of_add (a : Addr) (i j : Nat) : (a.add i).add j = a.add (i + j) := by
  unfold Addr.add
  by_cases hi : i = 0 <;> by_cases hj : j = 0 <;> simp [hi, hj, Nat.add_assoc]
theorem add_plain (g j : Nat) : (⟨g, 0, none⟩ : Addr).add j = ⟨g, j, none⟩ := by unfold Addr.add; split <;> simp_all
theorem add_zero' (a : Addr) : a.add 0 = a := by unfold Addr.add; simp

/-- Bytes as cells. -/
def bv (x : E) : Value := .int .u8 (x.val : Int)
def bs (l : List E) : List Value := l.map bv
theorem bs_length (l : List E) : (bs l).length = l.length := List.length_map _
theorem bs_get (l : List E) (j : Nat) (h : j < l.length) : (bs l)[j]? = some (.int .u8 ((l[j]).val : Int)) := by
  simp only [bs, List.getElem?_map, List.getElem?_eq_getElem h, Option.map_some]; rfl
theorem bs_append (a b : List E) : bs (a ++ b) = bs a ++ bs b := List.map_append
theorem bs_one (x : E) : bs [x] = [.int .u8 (x.val : Int)] := rfl
theorem bs_nil : bs [] = [] := rfl
theorem bs_take (l : List E) (n : Nat) : bs (l.take n) = (bs l).take n := List.map_take
theorem bs_drop (l : List E) (n : Nat) : bs (l.drop n) = (bs l).drop n := List.map_drop
theorem bv_one (x : E) : (bv x).oneCell' = true := rfl
theorem bs_ones (l : List E) : ∀ u ∈ bs l, u.oneCell' = true := by
  intro u hu
  obtain ⟨x, _, rfl⟩ := List.mem_map.1 hu
  rfl

/-- The slice's cells read as this list. -/
def Rd (w : World) (A : Option Addr) (xs : List Value) : Prop :=
  0 < xs.length → ∃ ad, A = some ad ∧ ∀ j u, xs[j]? = some u → w.cell? (ad.add j) = some u

section
variable {w w' : World} {A : Option Addr} {xs : List Value}
theorem Rd.nil (w : World) (A : Option Addr) : Rd w A [] := fun h => absurd h (by simp)
theorem Rd.at_ {k : Nat} {u : Value} (h : Rd w A xs) (hu : xs[k]? = some u) : ∃ ad, A = some ad ∧ w.cell? (ad.add k) = some u := by
  have hl : k < xs.length := (List.getElem?_eq_some_iff.1 hu).1
  obtain ⟨ad, e, hc⟩ := h (by omega)
  exact ⟨ad, e, hc k u hu⟩
theorem Rd.byte {l : List E} {k : Nat} (h : Rd w A (bs l)) (hk : k < l.length) : ∃ ad, A = some ad ∧ w.cell? (ad.add k) = some (.int .u8 ((l[k]).val : Int)) := h.at_ (bs_get l k hk)
theorem Rd.lt (h : Rd w A xs) (hn : 0 < xs.length) : ∃ ad, A = some ad ∧ ad.block < w.heap.size := by
  obtain ⟨ad, e, hc⟩ := h hn
  refine ⟨ad, e, ?_⟩
  have := World.block_lt_of_cell? w _ (hc 0 xs[0] (List.getElem?_eq_getElem hn))
  rwa [block_of_add] at this
theorem Rd.keep (h : Rd w A xs) (hk : ∀ p : Addr, p.block < w.heap.size → A.map (·.block) = some p.block → w'.cell? p = w.cell? p) : Rd w' A xs := fun hn => by
  obtain ⟨ad, e, hc⟩ := h hn
  refine ⟨ad, e, fun j u hu => ?_⟩
  have h1 := hc j u hu
  have hb := World.block_lt_of_cell? w _ h1
  exact (hk _ hb (by rw [e, block_of_add]; rfl)).trans h1
theorem Rd.below (h : Rd w A xs) (hb : Below w.heap.size w w') : Rd w' A xs := h.keep fun _ hp _ => hb.cell hp
theorem Rd.belowB {B : Nat} (h : Rd w A xs) (hb : Below B w w') (hA : ∀ ad, A = some ad → ad.block < B) : Rd w' A xs := fun hn => by
  obtain ⟨ad, e, hc⟩ := h hn
  exact ⟨ad, e, fun j u hu => (hb.cell (by rw [block_of_add]; exact hA ad e)).trans (hc j u hu)⟩
theorem Rd.drew (h : Rd w A xs) : Rd w.drew A xs := h
theorem Rd.drewN (h : Rd w A xs) (k : Nat) : Rd (w.drewN k) A xs := h
theorem Rd.alloc (h : Rd w A xs) (o : Obj) : Rd (w.alloc o) A xs := h.keep fun p hp _ => World.cell?_alloc_lt w o p hp
theorem Rd.setCell (h : Rd w A xs) {p : Addr} (hp : ∀ ad, A = some ad → ad.block ≠ p.block) (u : Value) : Rd (w.setCell p u) A xs :=
  h.keep fun q _ hA => World.cell?_setCell_other w p q u (fun e => by
    subst e
    cases A with
    | none => cases hA
    | some ad => exact hp ad rfl (by simpa using hA))
theorem Rd.grown (h : Rd w A xs) {row : Option Nat} (hg : w.grownBy w' row) (hr : ∀ ad, A = some ad → some ad.block ≠ row) : Rd w' A xs :=
  h.keep fun p hp hA => World.cell?_of_block (hg.block p.block hp (fun e => by
    cases A with
    | none => cases hA
    | some ad => exact hr ad rfl (by have : ad.block = p.block := by simpa using hA
                                     rw [this]; exact e)))
theorem Rd.take (h : Rd w A xs) (n : Nat) : Rd w A (xs.take n) := fun hn => by
  obtain ⟨ad, e, hc⟩ := h (by simp at hn; omega)
  exact ⟨ad, e, fun j u hu => hc j u (by rw [List.getElem?_take] at hu; split at hu <;> simp_all)⟩
theorem Rd.cut {k cap : Nat} (h : Rd w A xs) (hk : k ≤ xs.length) (hc : xs.length ≤ cap) : Rd w (if cap = k then A else A.map (·.add k)) (xs.drop k) := fun hn => by
  rw [List.length_drop] at hn
  obtain ⟨ad, rfl, hcell⟩ := h (by omega)
  rw [if_neg (by omega)]
  refine ⟨ad.add k, rfl, fun j u hu => ?_⟩
  rw [add_of_add]
  exact hcell _ u (by rw [← hu, List.getElem?_drop])
end

/-- A row of the call's own: the slice v is nil, or begins a block from B on; its elements are xs (of one cell each). -/
def Own (w : World) (B : Nat) (T : TypeId) (v : Value) (xs : List Value) : Prop := w.ownsRow B T 1 v xs.length xs

section
variable {w w' : World} {B : Nat} {T : TypeId} {v : Value} {xs : List Value}
theorem Own.nil (w : World) (B : Nat) (T : TypeId) : Own w B T (.slice none 0 0) [] := World.ownsRow_nil _ _ _ _
theorem Own.form (h : Own w B T v xs) : (v = .slice none 0 0 ∧ xs = []) ∨ ∃ g cap, v = .slice (some ⟨g, 0, none⟩) xs.length cap ∧ B ≤ g ∧ g < w.heap.size ∧ xs.length ≤ cap ∧ cap ≤ maxLen := by
  rcases h.2 with ⟨hv, hn⟩ | ⟨g, cap, cur, hv, hb, hh, hn, hm, _⟩
  · exact .inl ⟨hv, List.eq_nil_of_length_eq_zero hn⟩
  · exact .inr ⟨g, cap, hv, hb, (Array.getElem?_eq_some_iff.1 hh).1, hn, hm⟩
theorem Own.slice (h : Own w B T v xs) : ∃ A cap, v = .slice A xs.length cap ∧ Rd w A xs ∧ xs.length ≤ cap ∧ cap ≤ maxLen ∧ (∀ ad, A = some ad → B ≤ ad.block ∧ ad.block < w.heap.size) := by
  rcases h.form with ⟨hv, hn⟩ | ⟨g, cap, hv, hb, hlt, hn, hm⟩
  · subst hn
    exact ⟨none, 0, hv, Rd.nil _ _, Nat.le_refl _, Nat.zero_le _, fun _ h => by cases h⟩
  · refine ⟨some ⟨g, 0, none⟩, cap, hv, fun _ => ⟨_, rfl, fun j u hu => ?_⟩, hn, hm, fun ad h => by cases h; exact ⟨hb, hlt⟩⟩
    subst hv
    exact World.ownsRow.cells h (g := g) rfl j u hu
theorem Own.keepBlock (h : Own w B T v xs) (hk : ∀ g, v.ownBlock = some g → w'.heap[g]? = w.heap[g]?) : Own w' B T v xs := by
  refine ⟨h.1, ?_⟩
  rcases h.2 with hn | ⟨g, cap, cur, rfl, hb, hh, rest⟩
  · exact .inl hn
  · exact .inr ⟨g, cap, cur, rfl, hb, by rw [hk g rfl]; exact hh, rest⟩
theorem Own.below {B' : Nat} (h : Own w B T v xs) (hb : Below B' w w') (hB : w.heap.size ≤ B') : Own w' B T v xs :=
  h.keepBlock fun g hg => hb.block g (by have := (World.ownsRow.lt h g hg).2; omega)
theorem Own.kept {row : Option Nat} (h : Own w B T v xs) (hg : w.grownBy w' row) (hne : v.ownBlock = none ∨ v.ownBlock ≠ row) : Own w' B T v xs := World.ownsRow.kept h hg hne
theorem Own.alloc (h : Own w B T v xs) (o : Obj) : Own (w.alloc o) B T v xs := World.ownsRow.alloc h o
theorem Own.drew (h : Own w B T v xs) : Own w.drew B T v xs := h
theorem Own.drewN (h : Own w B T v xs) (k : Nat) : Own (w.drewN k) B T v xs := h
theorem Own.mono (h : Own w B T v xs) {B' : Nat} (hB : B' ≤ B) : Own w B' T v xs := by
  refine ⟨h.1, ?_⟩
  rcases h.2 with hn | ⟨g, cap, cur, rfl, hb, rest⟩
  · exact .inl hn
  · exact .inr ⟨g, cap, cur, rfl, by omega, rest⟩
theorem Own.far (h : Own w B T v xs) {p : Addr} (hp : v.ownBlock ≠ some p.block) (u : Value) : Own (w.setCell p u) B T v xs :=
  h.keepBlock fun g hg => Below.heap_setCell w p u g (fun e => hp (by rw [hg, e]))
theorem Own.lt (h : Own w B T v xs) : ∀ g, v.ownBlock = some g → B ≤ g ∧ g < w.heap.size := World.ownsRow.lt h
end

/-- Block g is just these cells, none frozen. -/
def Blk (w : World) (g : Nat) (t : TypeId) (cs : Array Value) : Prop := w.heap[g]? = some (.cells cs t (0, 0))

section
variable {w w' : World} {g : Nat} {t : TypeId} {cs : Array Value}
theorem Blk.lt (h : Blk w g t cs) : g < w.heap.size := by
  rcases Nat.lt_or_ge g w.heap.size with hlt | hge
  · exact hlt
  · unfold Blk at h; rw [Array.getElem?_eq_none hge] at h; cases h
theorem Blk.cell (h : Blk w g t cs) (i : Nat) : w.cell? ⟨g, i, none⟩ = cs[i]? := cell_of_row w g i cs t (0, 0) h
theorem Blk.frozen (h : Blk w g t cs) (i : Nat) : w.frozen? ⟨g, i, none⟩ = false := by
  unfold Blk at h
  simp [World.frozen?, h]
theorem Blk.new (w : World) (t : TypeId) (cs : Array Value) : Blk (w.alloc (.cells cs t)) w.heap.size t cs := heap_alloc_new w _
theorem Blk.drew (h : Blk w g t cs) : Blk w.drew g t cs := h
theorem Blk.drewN (h : Blk w g t cs) (n : Nat) : Blk (w.drewN n) g t cs := h
theorem Blk.alloc (h : Blk w g t cs) (o : Obj) : Blk (w.alloc o) g t cs := (Below.heap_alloc w o g h.lt).trans h
theorem Blk.set_ (h : Blk w g t cs) (i : Nat) (u : Value) : Blk (w.setCell ⟨g, i, none⟩ u) g t (cs.setIfInBounds i u) := by
  unfold Blk at h ⊢
  simp [World.setCell, Array.getElem?_modify, h]
theorem Blk.far (h : Blk w g t cs) {p : Addr} (hp : g ≠ p.block) (u : Value) : Blk (w.setCell p u) g t cs := (Below.heap_setCell w p u g hp).trans h
theorem Blk.below {B : Nat} (h : Blk w g t cs) (hb : Below B w w') (hg : g < B) : Blk w' g t cs := (hb.block g hg).trans h
theorem Blk.grown {row : Option Nat} (h : Blk w g t cs) (hb : w.grownBy w' row) (hg : some g ≠ row) : Blk w' g t cs := (hb.block g h.lt hg).trans h
theorem Blk.own {B cap n : Nat} (h : Blk w g t cs) (hB : B ≤ g) (hn : n ≤ cap) (hm : cap ≤ maxLen) (hs : cs.size = cap) : Own w B t (.slice (some ⟨g, 0, none⟩) n cap) (cs.toList.take n) := by
  have hl : (cs.toList.take n).length = n := by simp; omega
  refine ⟨by omega, .inr ⟨g, cap, cs, by rw [hl], hB, h, by omega, hm, by omega, by rw [hl]; simp⟩⟩
theorem below_drewN {B : Nat} {a w : World} (h : Below B a w) (n : Nat) : Below B a (w.drewN n) := ⟨h.os, h.tape, h.output, h.size, h.block⟩
theorem below_of_grown {a w : World} (hg : a.grownBy w none) : Below a.heap.size a w := ⟨hg.os, hg.tape, hg.output, hg.size, fun k hk => hg.block k hk (by simp)⟩
end
/-- Nothing that was there has turned. -/
def Ext (w w' : World) : Prop := Below w.heap.size w w'
theorem Ext.refl (w : World) : Ext w w := Below.refl _ _
theorem Ext.trans {a b c : World} (h : Ext a b) (k : Ext b c) : Ext a c := Below.trans h (Below.mono k h.size)
theorem Ext.alloc {a w : World} (h : Ext a w) (o : Obj) : Ext a (w.alloc o) := Below.alloc h h.size o
theorem Ext.drew {a w : World} (h : Ext a w) : Ext a w.drew := Below.drew h
theorem Ext.drewN {a w : World} (h : Ext a w) (n : Nat) : Ext a (w.drewN n) := below_drewN h n
theorem Ext.new {a w : World} (h : Ext a w) {p : Addr} (hp : a.heap.size ≤ p.block) (u : Value) : Ext a (w.setCell p u) := Below.setCell h hp u
theorem Ext.below {a w : World} (h : Ext a w) : Below a.heap.size a w := h
theorem Ext.le {a w : World} (h : Ext a w) : a.heap.size ≤ w.heap.size := h.size
section
variable {w w' : World} {A : Option Addr} {B : Nat} {T : TypeId} {v : Value} {xs : List Value}
theorem Rd.ext (h : Rd w A xs) (e : Ext w w') : Rd w' A xs := h.below e
theorem Own.ext (h : Own w B T v xs) (e : Ext w w') : Own w' B T v xs := h.below e (Nat.le_refl _)
theorem Own.len {A : Option Addr} {n cap : Nat} (h : Own w B T (.slice A n cap) xs) : n = xs.length := by
  rcases h.form with ⟨hv, hn⟩ | ⟨g, c, hv, _⟩
  · subst hn; injection hv
  · injection hv
theorem Own.rd {A : Option Addr} {n cap : Nat} (h : Own w B T (.slice A n cap) xs) : Rd w A xs := by
  obtain ⟨A', c', hv, hr, _⟩ := h.slice
  injection hv with hA
  subst hA
  exact hr
theorem Own.blk {g n cap : Nat} (h : Own w B T (.slice (some ⟨g, 0, none⟩) n cap) xs) : B ≤ g ∧ ∃ cs, Blk w g T cs ∧ cs.size = cap ∧ n = xs.length ∧ xs.length ≤ cap ∧ cap ≤ maxLen ∧ cs.toList.take xs.length = xs := by
  rcases h.2 with ⟨hv, _⟩ | ⟨g', c', cur, hv, hb, hh, hn, hm, hs, ht⟩
  · cases hv
  · injection hv with h1 h2 h3
    injection h1 with h1
    injection h1 with h1
    subst h1; subst h3
    exact ⟨hb, cur, hh, by omega, h2, hn, hm, by rw [Nat.mul_one] at ht; exact ht⟩
theorem Own.frozen {g n cap : Nat} (h : Own w B T (.slice (some ⟨g, 0, none⟩) n cap) xs) (j : Nat) : w.frozen? ⟨g, j, none⟩ = false := by
  obtain ⟨_, cs, hb, _⟩ := h.blk
  exact hb.frozen j
theorem Own.cell {g n cap : Nat} (h : Own w B T (.slice (some ⟨g, 0, none⟩) n cap) xs) {j : Nat} {u : Value} (hu : xs[j]? = some u) : w.cell? ⟨g, j, none⟩ = some u := by
  obtain ⟨ad, e, hc⟩ := h.rd.at_ hu
  injection e with e
  subst e
  rwa [add_plain] at hc
theorem Own.set {g n cap : Nat} (h : Own w B T (.slice (some ⟨g, 0, none⟩) n cap) xs) (j : Nat) (u : Value) :
    Own (w.setCell ⟨g, j, none⟩ u) B T (.slice (some ⟨g, 0, none⟩) n cap) (xs.set j u) := by
  obtain ⟨hB, cs, hb, hs, hn, hle, hm, ht⟩ := h.blk
  have h1 := (hb.set_ j u).own (B := B) (n := n) hB (by omega) hm (by simpa using hs)
  have e : (cs.setIfInBounds j u).toList.take n = xs.set j u := by
    rw [hn, Array.toList_setIfInBounds, List.take_set, ht]
  rw [e] at h1
  exact h1
/-- A slice of the call's own whose block is known. -/
theorem Own.some_ (h : Own w B T v xs) (hx : xs ≠ []) : ∃ g cap, v = .slice (some ⟨g, 0, none⟩) xs.length cap ∧ B ≤ g ∧ g < w.heap.size ∧ xs.length ≤ cap ∧ cap ≤ maxLen := by
  rcases h.form with ⟨_, hn⟩ | h
  · exact absurd hn hx
  · exact h
end
theorem take_snoc' {α : Type} (l : List α) (k : Nat) (h : k < l.length) : l.take (k + 1) = l.take k ++ [l[k]] := by
  rw [List.take_succ_eq_append_getElem h]
theorem set_take {cs : Array Value} {L : List Value} {k : Nat} (u : Value) (hk : k < cs.size) (h : cs.toList.take k = L) : (cs.setIfInBounds k u).toList.take (k + 1) = L ++ [u] := by
  rw [Array.toList_setIfInBounds, List.take_succ_eq_append_getElem (by simpa using hk), List.take_set, h, List.getElem_set_self]
  congr 1
  rw [← h]
  exact List.set_eq_of_length_le (by simp; omega)
/-- A new row of n zeros. -/
def zrow (z : Value) (n : Nat) : Array Value := madeCells #[z] n
theorem zrow_size (z : Value) (n : Nat) : (zrow z n).size = n := size_madeCells _ _
theorem zrow_get (z : Value) (n j : Nat) (h : j < n) : (zrow z n)[j]? = some z := by
  have hs : j < (zrow z n).size := by rw [zrow_size]; exact h
  rw [Array.getElem?_eq_getElem hs]
  congr 1
  simp only [zrow, madeCells, Array.getElem_map, Array.size, List.length_cons, List.length_nil, Nat.zero_add, Nat.mod_one]
  rfl
theorem zrow_list (z : Value) (n : Nat) : (zrow z n).toList = List.replicate n z := by
  apply List.ext_getElem?
  intro j
  rw [Array.getElem?_toList]
  by_cases h : j < n
  · rw [zrow_get z n j h, List.getElem?_replicate, if_pos h]
  · rw [Array.getElem?_eq_none (by rw [zrow_size]; omega), List.getElem?_eq_none (by simp; omega)]
theorem run_make_z {P : Program} (t e : TypeId) (i : TypeInfo) (z : Value) (ht : P.underlying t = some (.slice e)) (hi : P.info? e = some i) (hz : i.zero = some z) (hs : i.size = 1) (hzc : z.cells = #[z])
    (bytes : Nat) (hby : i.bytes = bytes) (kl kc : IntKind) (n : Nat) (hb : bytes * n ≤ 281474976710656) (h63 : n ≤ 9223372036854775807) (w : World) :
    (Instr.makeSlice t (.int kl (n : Int)) (.int kc (n : Int))).run P w = .ok (.slice (some ⟨w.heap.size, 0, none⟩) n n) (w.alloc (.cells (zrow z n) e)) := by
  have hb' : (i.bytes : Int) * (n : Int) ≤ 281474976710656 := by
    have h : ((i.bytes * n : Nat) : Int) ≤ 281474976710656 := by rw [hby]; omega
    rwa [Int.natCast_mul] at h
  have hr := run_make (P := P) w t e i z ht hi hz kl kc n n (by omega) (by omega) hb' (by omega)
  simp only [Int.toNat_natCast, hs, Nat.mul_one, hzc] at hr
  exact hr
end Go.Proofs.Ytemnlcfabaocbaa
