/-
  append of one element of several cells onto a row of the call's own that is not empty.
-/
import Derived.Test.YtemnlcfabaocbaaApp2
namespace Go.Proofs.Ytemnlcfabaocbaa
open Go.RowKit Gf

/-- A row of n elements of z cells each, in a block of the call's own. -/
structure OwnR (w : World) (B : Nat) (e : TypeId) (z g n cap : Nat) (xs : List Value) : Prop where
  hB : B ≤ g
  row : ∃ cur, w.heap[g]? = some (.cells cur e) ∧ cur.size = cap * z ∧ cur.toList.take (n * z) = xs
  len : xs.length = n * z
  le : n ≤ cap
  cm : cap ≤ maxLen
theorem OwnR.lt {w : World} {B : Nat} {e : TypeId} {z g n cap : Nat} {xs : List Value} (h : OwnR w B e z g n cap xs) : g < w.heap.size := by
  obtain ⟨cur, hg, _⟩ := h.row
  exact (Array.getElem?_eq_some_iff.1 hg).1
theorem OwnR.cell {w : World} {B : Nat} {e : TypeId} {z g n cap : Nat} {xs : List Value} (h : OwnR w B e z g n cap xs) {j : Nat} {u : Value} (hj : xs[j]? = some u) : w.cell? ⟨g, j, none⟩ = some u := by
  obtain ⟨cur, hg, hc, ht⟩ := h.row
  have hlt : j < n * z := by rw [← h.len]; exact (List.getElem?_eq_some_iff.1 hj).1
  rw [← ht, List.getElem?_take_of_lt hlt] at hj
  simp only [World.cell?, hg]
  simpa using hj
theorem OwnR.below {w w' : World} {B : Nat} {e : TypeId} {z g n cap : Nat} {xs : List Value} (h : OwnR w B e z g n cap xs) (hb : Ext w w') : OwnR w' B e z g n cap xs := by
  obtain ⟨cur, hg, hc, ht⟩ := h.row
  exact ⟨h.hB, ⟨cur, by rw [hb.block g h.lt]; exact hg, hc, ht⟩, h.len, h.le, h.cm⟩
section
variable {P : Program} (w : World)
theorem run_appR {t e : TypeId} {i : TypeInfo} {z : Value} (ty : TypeId) (ht : P.underlying t = some (.slice e)) (hi : P.info? e = some i) (hz : i.zero = some z) (hzs : z.cells.size = i.size) (B g n cap : Nat) (xs : List Value)
    (hown : OwnR w B e i.size g n cap xs) (ad : Addr) (c : Nat) (news : List Value) (hl : news.length = i.size) (hnews : ∀ j u, news[j]? = some u → w.cell? (ad.add j) = some u) (h1 : ∀ u ∈ news, u.oneCell' = true)
    (hbytes : (n + 1) * i.bytes ≤ 140737488355328) (hb1 : 1 ≤ i.bytes) (hB : B ≤ w.heap.size) :
    ∃ g' cap' w', (Builtin.append_ #[t, t] ty #[.slice (some ⟨g, 0, none⟩) n cap, .slice (some ad) 1 c]).run P w = .ok (.slice (some ⟨g', 0, none⟩) (n + 1) cap') w' ∧ OwnR w' B e i.size g' (n + 1) cap' (xs ++ news) ∧
      ((g' = g ∧ w.grownBy w' (some g)) ∨ (g' = w.heap.size ∧ w.grownBy w' none)) := by
  have hle : n + 1 ≤ 140737488355328 := Nat.le_trans (Nat.le_mul_of_pos_right _ hb1) hbytes
  obtain ⟨cur, hg, hcs, htake⟩ := hown.row
  have hlen := hown.len
  by_cases hroom : n + 1 ≤ cap
  · have hm : (n + 1) * i.size ≤ cap * i.size := Nat.mul_le_mul_right _ hroom
    rw [Nat.add_mul, Nat.one_mul] at hm
    have hfit : n * i.size + news.length ≤ cur.size := by rw [hcs, hl]; exact hm
    have hr' := run_append_room (P := P) w t ty e i ht hi g n cap cur hg ad 1 c news (by rw [hl, Nat.one_mul]) hnews h1 hroom hfit
    refine ⟨g, cap, _, hr', ⟨hown.hB, ⟨_, setRow_heap w g cur _ e _ hg, ?_, ?_⟩, ?_, hroom, hown.cm⟩, .inl ⟨rfl, rfl, rfl, rfl, by simp, fun k _ hk => setRow_other w g k _ (fun e => hk (by rw [e]))⟩⟩
    · simp only [List.size_toArray, List.length_append, List.length_take, List.length_drop, Array.length_toList]
      rw [← hcs]
      omega
    · have h2 : (n + 1) * i.size = (cur.toList.take (n * i.size) ++ news).length := by
        rw [htake, List.length_append, hlen, hl, Nat.add_mul, Nat.one_mul]
      rw [h2, ← htake]
      simp only []
      exact List.take_left
    · rw [List.length_append, hlen, hl, Nat.add_mul, Nat.one_mul]
  · have holds : ∀ j u, xs[j]? = some u → w.cell? ((⟨g, 0, none⟩ : Addr).add j) = some u := fun j u hj => by
      have := hown.cell hj
      simpa [Addr.add_lit] using this
    have hr' := run_append_grow (P := P) w t ty e i z ht hi hz ⟨g, 0, none⟩ n cap xs hlen holds ad 1 c news (by rw [hl, Nat.one_mul]) hnews (by omega) (by omega) (growslice_fits (by omega) hbytes)
    have hge := grownCap_ge w (n + 1) cap e
    have hcm : grownCap w (n + 1) cap e ≤ maxLen := grownCap_le_maxLen w (n + 1) cap e (by simp only [maxLen]; omega)
    refine ⟨_, _, _, hr', ⟨hB, ⟨_, heap_alloc_new w.drew _, ?_, ?_⟩, ?_, by omega, hcm⟩, .inr ⟨rfl, rfl, rfl, rfl, by simp, fun k hk _ => heap_alloc_old w.drew _ k hk⟩⟩
    · simp only [Array.size_append, List.size_toArray, size_zeroCells, hzs, hlen, hl]
      have : grownCap w (n + 1) cap e = (n + 1) + (grownCap w (n + 1) cap e - (n + 1)) := by omega
      conv => rhs; rw [this, Nat.add_mul, Nat.add_mul, Nat.one_mul]
    · have h2 : (n + 1) * i.size = (xs ++ news).length := by rw [List.length_append, hlen, hl, Nat.add_mul, Nat.one_mul]
      simp only [Array.toList_append]
      rw [h2]
      exact List.take_left
    · rw [List.length_append, hlen, hl, Nat.add_mul, Nat.one_mul]
end
end Go.Proofs.Ytemnlcfabaocbaa
