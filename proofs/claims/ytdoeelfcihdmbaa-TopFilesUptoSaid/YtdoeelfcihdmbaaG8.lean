/-
  Texts of mine, merged: RefF RefG RefH RefI RefJ.
-/
import Derived.Test.YtdoeelfcihdmbaaG4
import Derived.Test.YtdoeelfcihdmbaaG7
/-
  Layer 8, the reference: the fixed bytes of a head (printed by wip/genfixed.py).
-/
namespace Go.Proofs.Ytdoeelfcihdmbaa
open Go.RowKit Gf
set_option maxRecDepth 20000
set_option linter.unusedVariables false

theorem own_row {w : World} {B : Nat} {v : Value} {r : List E} (h : Own w B 5 v (bs r)) : (St.row r).p v w := by
  obtain ⟨A, c, h1, h2, h3, h4, -⟩ := h.slice
  rw [bs_length] at h1 h3
  exact ⟨A, c, h1, h2⟩
def rowsOk (w : World) : List Value → List (List E) → Prop
  | [], [] => True
  | v :: V, r :: rs => (St.row r).p v w ∧ rowsOk w V rs
  | _, _ => False
theorem rowsOk.len {w : World} : ∀ (V : List Value) (rs : List (List E)), rowsOk w V rs → V.length = rs.length
  | [], [], _ => rfl
  | v :: V, r :: rs, h => by rw [List.length_cons, List.length_cons, rowsOk.len V rs h.2]
  | [], _ :: _, h => h.elim
  | _ :: _, [], h => h.elim
theorem rowsOk.at {w : World} : ∀ (V : List Value) (rs : List (List E)), rowsOk w V rs → ∀ (i : Nat) (r : List E), rs[i]? = some r → ∃ v, V[i]? = some v ∧ (St.row r).p v w
  | [], [], _, _, _, h => by simp at h
  | v :: V, r :: rs, h, i, x, hi => by
    rcases i with _ | i
    · simp at hi; subst hi; exact ⟨v, rfl, h.1⟩
    · exact rowsOk.at V rs h.2 i x (by simpa using hi)
  | [], _ :: _, h, _, _, _ => h.elim
  | _ :: _, [], h, _, _, _ => h.elim
theorem rdRows_new {w : World} {V : List Value} {rs : List (List E)} (h : rowsOk w V rs) (T : TypeId) : JRows (w.alloc (.cells V.toArray T)) (some ⟨w.heap.size, 0, none⟩) rs := by
  refine ⟨V, rowsOk.len V rs h, fun _ => ⟨_, rfl, fun j u hu => (Blk.new w T V.toArray).cells j u (by simpa using hu)⟩, fun i r hi => ?_⟩
  obtain ⟨v, hv, A, c, rfl, h2⟩ := rowsOk.at V rs h i r hi
  exact ⟨A, c, hv, h2.ext ((Ext.refl w).alloc _)⟩
def fixedRs (h : HeadP) : List (List E) := [magicP, h.store, le 1 h.k, le 1 h.m, le 4 h.blk, le 4 h.size, le 1 h.idx, le 4 h.epoch, le 4 h.count, le 1 h.key.length]
theorem fixedRs_flat (h : HeadP) : (fixedRs h).flatten = fixedP h := by simp [fixedRs, fixedP]
theorem store_rd {w : World} {g : Nat} {h : HeadP} (hb : Blk w g 43 (headC h)) (hs : h.store.length = 8) : Rd w (some ⟨g, 0, none⟩) (bs h.store) := fun _ => ⟨_, rfl, fun j u hu => hb.cells j u (by have := store_bs hs j u hu; rwa [Nat.zero_add] at this)⟩
set_option maxHeartbeats 16000000 in
theorem rfixed_n (h : HeadP) (w : World) (ho : okHead h) (hs : h.store.length = 8) : Calls Try.prog 182 #[.agg (headC h)] w fun e w' => ∃ u, e = .returned u ∧ Own w' w.heap.size 5 u (bs (fixedP h)) ∧ Ext w w' := by
  have hmo : Try.prog.follows Departure.mixedOrders = true := by kernel_rfl
  obtain ⟨hs1, hs2, hs3, hs4, hs5, hs6, hs7, hs8⟩ := ho.small
  have hz8 := slice_arr8
  have HFL := Lib.hid (fixedP_length hs)
  have hb : Blk (w.alloc (.cells (headC h) 43)) w.heap.size 43 (headC h) := Blk.new _ _ _
  have HX := Lib.hid ((Ext.refl w).alloc (.cells (headC h) 43))
  have HST := Lib.hid (store_rd hb hs)
  have HC : Hid (∀ w', Ext (w.alloc (.cells (headC h) 43)) w' → ∀ j, w'.cell? ⟨w.heap.size, j, none⟩ = (headC h)[j]?) := Lib.hid fun w' hx j => (hb.below hx hb.lt).cell j
  have hsz := strB_size h.key
  have hg1 : w.heap.size < (w.alloc (.cells (headC h) 43)).heap.size := hb.lt
  have HG1 := Lib.hid hg1
  clear hb ho hg1
  go_enter Try.func182, Try.ntmps182
  go_wp2_with fail
  obtain ⟨W, hW⟩ : ∃ W, W = w.alloc (.cells (headC h) 43) := ⟨_, rfl⟩
  rw [← hW] at HX HST HC HG1 ⊢
  clear hW
  obtain ⟨g0, hg0⟩ : ∃ g, g = w.heap.size := ⟨_, rfl⟩
  rw [← hg0] at HST HC HG1 ⊢
  clear hg0
  refine wp_region_st 38 [St.row magicP, St.is (.pointer (some ⟨g0, 0, none⟩)), St.row h.store, St.is (.pointer (some ⟨g0, 8, none⟩)), St.is (.pointer (some ⟨g0, 8, none⟩)), St.is (.int .i64 (h.k : Int)), St.row (le 1 h.k), St.is (.pointer (some ⟨g0, 8, none⟩)), St.is (.pointer (some ⟨g0, 9, none⟩)), St.is (.int .i64 (h.m : Int)), St.row (le 1 h.m), St.is (.pointer (some ⟨g0, 8, none⟩)), St.is (.pointer (some ⟨g0, 10, none⟩)), St.is (.int .i64 (h.blk : Int)), St.row (le 4 h.blk), St.is (.pointer (some ⟨g0, 12, none⟩)), St.is (.int .i64 (h.size : Int)), St.row (le 4 h.size), St.is (.pointer (some ⟨g0, 13, none⟩)), St.is (.int .i64 (h.idx : Int)), St.row (le 1 h.idx), St.is (.pointer (some ⟨g0, 14, none⟩)), St.is (.pointer (some ⟨g0, 14, none⟩)), St.is (.int .i64 (h.epoch : Int)), St.row (le 4 h.epoch), St.is (.pointer (some ⟨g0, 14, none⟩)), St.is (.pointer (some ⟨g0, 15, none⟩)), St.is (.int .i64 (h.count : Int)), St.row (le 4 h.count), St.is (.pointer (some ⟨g0, 11, none⟩)), St.is (.string (strB h.key)), St.is (.int .i64 (h.key.length : Int)), St.row (le 1 h.key.length), St.rows (fixedRs h), St.own W.heap.size 5 (bs (fixedP h)), St.own W.heap.size 5 (bs (fixedP h))] hmo (by kernel_rfl) rfl ?_ ?_
  · refine ⟨?_, ?_, ?_, ?_, ?_, ?_, ?_, ?_, ?_, ?_, ?_, ?_, ?_, ?_, ?_, ?_, ?_, ?_, ?_, ?_, ?_, ?_, ?_, ?_, ?_, ?_, ?_, ?_, ?_, ?_, ?_, ?_, ?_, ?_, ?_, ?_, trivial⟩
    · intro a w1 hx0 hk hd
      have hx : Ext W w1 := ((Ext.refl W).drewN 1 : Ext W W.drew).trans hx0
      refine loudly_ok (.slice (some ⟨w1.heap.size, 0, none⟩) 4 4) (w1.alloc (.cells #[.int .u8 67, .int .u8 82, .int .u8 78, .int .u8 2] 5)) (by go_simp) ⟨⟨_, _, rfl, fun _ => ⟨_, rfl, fun j u hu => (Blk.new w1 5 #[.int .u8 67, .int .u8 82, .int .u8 78, .int .u8 2]).cells j u (by rw [← magic_bs] at hu; simpa [magicC] using hu)⟩⟩, (Ext.refl _).alloc _⟩
    · intro a w1 hx0 hk hd
      have hx : Ext W w1 := ((Ext.refl W).drewN 1 : Ext W W.drew).trans hx0
      have ek : a.tmps.getD 1 undef = .pointer (some ⟨g0, 0, none⟩) := hk 1 (by kernel_rfl)
      exact loudly_still (.pointer (some ⟨g0, 0, none⟩)) (by go_simp) rfl
    · intro a w1 hx0 hk hd
      have hx : Ext W w1 := ((Ext.refl W).drewN 1 : Ext W W.drew).trans hx0
      have e0 : a.tmps.getD 4 undef = .pointer (some ⟨g0, 0, none⟩) := hd 1 4 (by kernel_rfl)
      exact loudly_ok (.slice (some ⟨g0, 0, none⟩) 8 8) w1 (by go_simp) ⟨⟨some ⟨g0, 0, none⟩, 8, by rw [hs], HST.out.ext hx⟩, Ext.refl _⟩
    · intro a w1 hx0 hk hd
      have hx : Ext W w1 := ((Ext.refl W).drewN 1 : Ext W W.drew).trans hx0
      have ek : a.tmps.getD 1 undef = .pointer (some ⟨g0, 0, none⟩) := hk 1 (by kernel_rfl)
      exact loudly_still (.pointer (some ⟨g0, 8, none⟩)) (by go_simp) rfl
    · intro a w1 hx0 hk hd
      have hx : Ext W w1 := ((Ext.refl W).drewN 1 : Ext W W.drew).trans hx0
      have e0 : a.tmps.getD 6 undef = .pointer (some ⟨g0, 8, none⟩) := hd 3 6 (by kernel_rfl)
      exact loudly_still (.pointer (some ⟨g0, 8, none⟩)) (by go_simp) rfl
    · intro a w1 hx0 hk hd
      have hx : Ext W w1 := ((Ext.refl W).drewN 1 : Ext W W.drew).trans hx0
      have e0 : a.tmps.getD 7 undef = .pointer (some ⟨g0, 8, none⟩) := hd 4 7 (by kernel_rfl)
      have c0 : w1.cell? ⟨g0, 8, none⟩ = some (.int .i64 (h.k : Int)) := HC.out w1 hx 8
      exact loudly_still (.int .i64 (h.k : Int)) (by go_simp) rfl
    · intro a w1 hx0 hk hd
      have hx : Ext W w1 := ((Ext.refl W).drewN 1 : Ext W W.drew).trans hx0
      have e0 : a.tmps.getD 8 undef = .int .i64 (h.k : Int) := hd 5 8 (by kernel_rfl)
      exact loudly_call 164 #[.int .i64 (h.k : Int), .int .i64 1] (by go_simp) ((low_n 1 h.k 1 w1 rfl (by omega) (by decide)).mono fun e w2 ⟨u, he, ho, hx⟩ => ⟨u, he, own_row ho, hx⟩)
    · intro a w1 hx0 hk hd
      have hx : Ext W w1 := ((Ext.refl W).drewN 1 : Ext W W.drew).trans hx0
      have ek : a.tmps.getD 1 undef = .pointer (some ⟨g0, 0, none⟩) := hk 1 (by kernel_rfl)
      exact loudly_still (.pointer (some ⟨g0, 8, none⟩)) (by go_simp) rfl
    · intro a w1 hx0 hk hd
      have hx : Ext W w1 := ((Ext.refl W).drewN 1 : Ext W W.drew).trans hx0
      have e0 : a.tmps.getD 10 undef = .pointer (some ⟨g0, 8, none⟩) := hd 7 10 (by kernel_rfl)
      exact loudly_still (.pointer (some ⟨g0, 9, none⟩)) (by go_simp) rfl
    · intro a w1 hx0 hk hd
      have hx : Ext W w1 := ((Ext.refl W).drewN 1 : Ext W W.drew).trans hx0
      have e0 : a.tmps.getD 11 undef = .pointer (some ⟨g0, 9, none⟩) := hd 8 11 (by kernel_rfl)
      have c0 : w1.cell? ⟨g0, 9, none⟩ = some (.int .i64 (h.m : Int)) := HC.out w1 hx 9
      exact loudly_still (.int .i64 (h.m : Int)) (by go_simp) rfl
    · intro a w1 hx0 hk hd
      have hx : Ext W w1 := ((Ext.refl W).drewN 1 : Ext W W.drew).trans hx0
      have e0 : a.tmps.getD 12 undef = .int .i64 (h.m : Int) := hd 9 12 (by kernel_rfl)
      exact loudly_call 164 #[.int .i64 (h.m : Int), .int .i64 1] (by go_simp) ((low_n 1 h.m 1 w1 rfl (by omega) (by decide)).mono fun e w2 ⟨u, he, ho, hx⟩ => ⟨u, he, own_row ho, hx⟩)
    · intro a w1 hx0 hk hd
      have hx : Ext W w1 := ((Ext.refl W).drewN 1 : Ext W W.drew).trans hx0
      have ek : a.tmps.getD 1 undef = .pointer (some ⟨g0, 0, none⟩) := hk 1 (by kernel_rfl)
      exact loudly_still (.pointer (some ⟨g0, 8, none⟩)) (by go_simp) rfl
    · intro a w1 hx0 hk hd
      have hx : Ext W w1 := ((Ext.refl W).drewN 1 : Ext W W.drew).trans hx0
      have e0 : a.tmps.getD 14 undef = .pointer (some ⟨g0, 8, none⟩) := hd 11 14 (by kernel_rfl)
      exact loudly_still (.pointer (some ⟨g0, 10, none⟩)) (by go_simp) rfl
    · intro a w1 hx0 hk hd
      have hx : Ext W w1 := ((Ext.refl W).drewN 1 : Ext W W.drew).trans hx0
      have e0 : a.tmps.getD 15 undef = .pointer (some ⟨g0, 10, none⟩) := hd 12 15 (by kernel_rfl)
      have c0 : w1.cell? ⟨g0, 10, none⟩ = some (.int .i64 (h.blk : Int)) := HC.out w1 hx 10
      exact loudly_still (.int .i64 (h.blk : Int)) (by go_simp) rfl
    · intro a w1 hx0 hk hd
      have hx : Ext W w1 := ((Ext.refl W).drewN 1 : Ext W W.drew).trans hx0
      have e0 : a.tmps.getD 16 undef = .int .i64 (h.blk : Int) := hd 13 16 (by kernel_rfl)
      exact loudly_call 164 #[.int .i64 (h.blk : Int), .int .i64 4] (by go_simp) ((low_n 4 h.blk 4 w1 rfl (by omega) (by decide)).mono fun e w2 ⟨u, he, ho, hx⟩ => ⟨u, he, own_row ho, hx⟩)
    · intro a w1 hx0 hk hd
      have hx : Ext W w1 := ((Ext.refl W).drewN 1 : Ext W W.drew).trans hx0
      have ek : a.tmps.getD 1 undef = .pointer (some ⟨g0, 0, none⟩) := hk 1 (by kernel_rfl)
      exact loudly_still (.pointer (some ⟨g0, 12, none⟩)) (by go_simp) rfl
    · intro a w1 hx0 hk hd
      have hx : Ext W w1 := ((Ext.refl W).drewN 1 : Ext W W.drew).trans hx0
      have e0 : a.tmps.getD 18 undef = .pointer (some ⟨g0, 12, none⟩) := hd 15 18 (by kernel_rfl)
      have c0 : w1.cell? ⟨g0, 12, none⟩ = some (.int .i64 (h.size : Int)) := HC.out w1 hx 12
      exact loudly_still (.int .i64 (h.size : Int)) (by go_simp) rfl
    · intro a w1 hx0 hk hd
      have hx : Ext W w1 := ((Ext.refl W).drewN 1 : Ext W W.drew).trans hx0
      have e0 : a.tmps.getD 19 undef = .int .i64 (h.size : Int) := hd 16 19 (by kernel_rfl)
      exact loudly_call 164 #[.int .i64 (h.size : Int), .int .i64 4] (by go_simp) ((low_n 4 h.size 4 w1 rfl (by omega) (by decide)).mono fun e w2 ⟨u, he, ho, hx⟩ => ⟨u, he, own_row ho, hx⟩)
    · intro a w1 hx0 hk hd
      have hx : Ext W w1 := ((Ext.refl W).drewN 1 : Ext W W.drew).trans hx0
      have ek : a.tmps.getD 1 undef = .pointer (some ⟨g0, 0, none⟩) := hk 1 (by kernel_rfl)
      exact loudly_still (.pointer (some ⟨g0, 13, none⟩)) (by go_simp) rfl
    · intro a w1 hx0 hk hd
      have hx : Ext W w1 := ((Ext.refl W).drewN 1 : Ext W W.drew).trans hx0
      have e0 : a.tmps.getD 21 undef = .pointer (some ⟨g0, 13, none⟩) := hd 18 21 (by kernel_rfl)
      have c0 : w1.cell? ⟨g0, 13, none⟩ = some (.int .i64 (h.idx : Int)) := HC.out w1 hx 13
      exact loudly_still (.int .i64 (h.idx : Int)) (by go_simp) rfl
    · intro a w1 hx0 hk hd
      have hx : Ext W w1 := ((Ext.refl W).drewN 1 : Ext W W.drew).trans hx0
      have e0 : a.tmps.getD 22 undef = .int .i64 (h.idx : Int) := hd 19 22 (by kernel_rfl)
      exact loudly_call 164 #[.int .i64 (h.idx : Int), .int .i64 1] (by go_simp) ((low_n 1 h.idx 1 w1 rfl (by omega) (by decide)).mono fun e w2 ⟨u, he, ho, hx⟩ => ⟨u, he, own_row ho, hx⟩)
    · intro a w1 hx0 hk hd
      have hx : Ext W w1 := ((Ext.refl W).drewN 1 : Ext W W.drew).trans hx0
      have ek : a.tmps.getD 1 undef = .pointer (some ⟨g0, 0, none⟩) := hk 1 (by kernel_rfl)
      exact loudly_still (.pointer (some ⟨g0, 14, none⟩)) (by go_simp) rfl
    · intro a w1 hx0 hk hd
      have hx : Ext W w1 := ((Ext.refl W).drewN 1 : Ext W W.drew).trans hx0
      have e0 : a.tmps.getD 24 undef = .pointer (some ⟨g0, 14, none⟩) := hd 21 24 (by kernel_rfl)
      exact loudly_still (.pointer (some ⟨g0, 14, none⟩)) (by go_simp) rfl
    · intro a w1 hx0 hk hd
      have hx : Ext W w1 := ((Ext.refl W).drewN 1 : Ext W W.drew).trans hx0
      have e0 : a.tmps.getD 25 undef = .pointer (some ⟨g0, 14, none⟩) := hd 22 25 (by kernel_rfl)
      have c0 : w1.cell? ⟨g0, 14, none⟩ = some (.int .i64 (h.epoch : Int)) := HC.out w1 hx 14
      exact loudly_still (.int .i64 (h.epoch : Int)) (by go_simp) rfl
    · intro a w1 hx0 hk hd
      have hx : Ext W w1 := ((Ext.refl W).drewN 1 : Ext W W.drew).trans hx0
      have e0 : a.tmps.getD 26 undef = .int .i64 (h.epoch : Int) := hd 23 26 (by kernel_rfl)
      exact loudly_call 164 #[.int .i64 (h.epoch : Int), .int .i64 4] (by go_simp) ((low_n 4 h.epoch 4 w1 rfl (by omega) (by decide)).mono fun e w2 ⟨u, he, ho, hx⟩ => ⟨u, he, own_row ho, hx⟩)
    · intro a w1 hx0 hk hd
      have hx : Ext W w1 := ((Ext.refl W).drewN 1 : Ext W W.drew).trans hx0
      have ek : a.tmps.getD 1 undef = .pointer (some ⟨g0, 0, none⟩) := hk 1 (by kernel_rfl)
      exact loudly_still (.pointer (some ⟨g0, 14, none⟩)) (by go_simp) rfl
    · intro a w1 hx0 hk hd
      have hx : Ext W w1 := ((Ext.refl W).drewN 1 : Ext W W.drew).trans hx0
      have e0 : a.tmps.getD 28 undef = .pointer (some ⟨g0, 14, none⟩) := hd 25 28 (by kernel_rfl)
      exact loudly_still (.pointer (some ⟨g0, 15, none⟩)) (by go_simp) rfl
    · intro a w1 hx0 hk hd
      have hx : Ext W w1 := ((Ext.refl W).drewN 1 : Ext W W.drew).trans hx0
      have e0 : a.tmps.getD 29 undef = .pointer (some ⟨g0, 15, none⟩) := hd 26 29 (by kernel_rfl)
      have c0 : w1.cell? ⟨g0, 15, none⟩ = some (.int .i64 (h.count : Int)) := HC.out w1 hx 15
      exact loudly_still (.int .i64 (h.count : Int)) (by go_simp) rfl
    · intro a w1 hx0 hk hd
      have hx : Ext W w1 := ((Ext.refl W).drewN 1 : Ext W W.drew).trans hx0
      have e0 : a.tmps.getD 30 undef = .int .i64 (h.count : Int) := hd 27 30 (by kernel_rfl)
      exact loudly_call 164 #[.int .i64 (h.count : Int), .int .i64 4] (by go_simp) ((low_n 4 h.count 4 w1 rfl (by omega) (by decide)).mono fun e w2 ⟨u, he, ho, hx⟩ => ⟨u, he, own_row ho, hx⟩)
    · intro a w1 hx0 hk hd
      have hx : Ext W w1 := ((Ext.refl W).drewN 1 : Ext W W.drew).trans hx0
      have ek : a.tmps.getD 1 undef = .pointer (some ⟨g0, 0, none⟩) := hk 1 (by kernel_rfl)
      exact loudly_still (.pointer (some ⟨g0, 11, none⟩)) (by go_simp) rfl
    · intro a w1 hx0 hk hd
      have hx : Ext W w1 := ((Ext.refl W).drewN 1 : Ext W W.drew).trans hx0
      have e0 : a.tmps.getD 32 undef = .pointer (some ⟨g0, 11, none⟩) := hd 29 32 (by kernel_rfl)
      have c0 : w1.cell? ⟨g0, 11, none⟩ = some (.string (strB h.key)) := HC.out w1 hx 11
      exact loudly_still (.string (strB h.key)) (by go_simp) rfl
    · intro a w1 hx0 hk hd
      have hx : Ext W w1 := ((Ext.refl W).drewN 1 : Ext W W.drew).trans hx0
      have e0 : a.tmps.getD 33 undef = .string (strB h.key) := hd 30 33 (by kernel_rfl)
      exact loudly_still (.int .i64 (h.key.length : Int)) (by go_simp) rfl
    · intro a w1 hx0 hk hd
      have hx : Ext W w1 := ((Ext.refl W).drewN 1 : Ext W W.drew).trans hx0
      have e0 : a.tmps.getD 34 undef = .int .i64 (h.key.length : Int) := hd 31 34 (by kernel_rfl)
      exact loudly_call 164 #[.int .i64 (h.key.length : Int), .int .i64 1] (by go_simp) ((low_n 1 h.key.length 1 w1 rfl (by omega) (by decide)).mono fun e w2 ⟨u, he, ho, hx⟩ => ⟨u, he, own_row ho, hx⟩)
    · intro a w1 hx0 hk hd
      have hx : Ext W w1 := ((Ext.refl W).drewN 1 : Ext W W.drew).trans hx0
      obtain ⟨A0, c0, e0, p0⟩ := hd 0 3 (by kernel_rfl)
      obtain ⟨A1, c1, e1, p1⟩ := hd 2 5 (by kernel_rfl)
      obtain ⟨A2, c2, e2, p2⟩ := hd 6 9 (by kernel_rfl)
      obtain ⟨A3, c3, e3, p3⟩ := hd 10 13 (by kernel_rfl)
      obtain ⟨A4, c4, e4, p4⟩ := hd 14 17 (by kernel_rfl)
      obtain ⟨A5, c5, e5, p5⟩ := hd 17 20 (by kernel_rfl)
      obtain ⟨A6, c6, e6, p6⟩ := hd 20 23 (by kernel_rfl)
      obtain ⟨A7, c7, e7, p7⟩ := hd 24 27 (by kernel_rfl)
      obtain ⟨A8, c8, e8, p8⟩ := hd 28 31 (by kernel_rfl)
      obtain ⟨A9, c9, e9, p9⟩ := hd 32 35 (by kernel_rfl)
      have hr := rdRows_new (w := w1) (V := [a.tmps.getD 3 undef, a.tmps.getD 5 undef, a.tmps.getD 9 undef, a.tmps.getD 13 undef, a.tmps.getD 17 undef, a.tmps.getD 20 undef, a.tmps.getD 23 undef, a.tmps.getD 27 undef, a.tmps.getD 31 undef, a.tmps.getD 35 undef]) (rs := fixedRs h) ⟨⟨A0, c0, e0, p0⟩, ⟨A1, c1, e1, p1⟩, ⟨A2, c2, e2, p2⟩, ⟨A3, c3, e3, p3⟩, ⟨A4, c4, e4, p4⟩, ⟨A5, c5, e5, p5⟩, ⟨A6, c6, e6, p6⟩, ⟨A7, c7, e7, p7⟩, ⟨A8, c8, e8, p8⟩, ⟨A9, c9, e9, p9⟩, trivial⟩ 24
      have HRR := Lib.hid hr
      clear hr p0 p1 p2 p3 p4 p5 p6 p7 p8 p9
      have f0 := (Array.getD_eq_getD_getElem? (xs := a.tmps) (i := 3) (d := undef)).symm.trans e0
      have f1 := (Array.getD_eq_getD_getElem? (xs := a.tmps) (i := 5) (d := undef)).symm.trans e1
      have f2 := (Array.getD_eq_getD_getElem? (xs := a.tmps) (i := 9) (d := undef)).symm.trans e2
      have f3 := (Array.getD_eq_getD_getElem? (xs := a.tmps) (i := 13) (d := undef)).symm.trans e3
      have f4 := (Array.getD_eq_getD_getElem? (xs := a.tmps) (i := 17) (d := undef)).symm.trans e4
      have f5 := (Array.getD_eq_getD_getElem? (xs := a.tmps) (i := 20) (d := undef)).symm.trans e5
      have f6 := (Array.getD_eq_getD_getElem? (xs := a.tmps) (i := 23) (d := undef)).symm.trans e6
      have f7 := (Array.getD_eq_getD_getElem? (xs := a.tmps) (i := 27) (d := undef)).symm.trans e7
      have f8 := (Array.getD_eq_getD_getElem? (xs := a.tmps) (i := 31) (d := undef)).symm.trans e8
      have f9 := (Array.getD_eq_getD_getElem? (xs := a.tmps) (i := 35) (d := undef)).symm.trans e9
      exact loudly_ok (.slice (some ⟨w1.heap.size, 0, none⟩) 10 10) (w1.alloc (.cells [a.tmps.getD 3 undef, a.tmps.getD 5 undef, a.tmps.getD 9 undef, a.tmps.getD 13 undef, a.tmps.getD 17 undef, a.tmps.getD 20 undef, a.tmps.getD 23 undef, a.tmps.getD 27 undef, a.tmps.getD 31 undef, a.tmps.getD 35 undef].toArray 24)) (by go_simp) ⟨⟨_, _, rfl, HRR.out⟩, (Ext.refl _).alloc _⟩
    · intro a w1 hx0 hk hd
      have hx : Ext W w1 := ((Ext.refl W).drewN 1 : Ext W W.drew).trans hx0
      obtain ⟨A0, c0, e0, hr⟩ := hd 33 36 (by kernel_rfl)
      have e1 : a.tmps.getD 36 undef = .slice A0 10 c0 := e0
      have HRR := Lib.hid hr
      clear e0 hr
      refine loudly_call 111 #[.slice A0 10 c0] (by go_simp) ((join_n A0 10 c0 (fixedRs h) w1 rfl HRR.out (by decide) (by rw [fixedRs_flat, HFL.out]; decide)).mono fun e w2 ⟨u, he, ho, hx2⟩ => ⟨u, he, ?_, hx2⟩)
      rw [fixedRs_flat] at ho
      exact ho.mono hx.le
    · intro a w1 hx0 hk hd
      have hx : Ext W w1 := ((Ext.refl W).drewN 1 : Ext W W.drew).trans hx0
      have ho := hd 34 37 (by kernel_rfl)
      exact loudly_ok (a.tmps.getD 37 undef) w1 (by go_simp) ⟨ho, Ext.refl _⟩
  · intro V w1 hx hv
    have hf := hv 35 2 (by kernel_rfl)
    have HF : Hid (Own w1 W.heap.size 5 (V 35) (bs (fixedP h))) := Lib.hid hf
    have HX1 := Lib.hid (((Ext.refl W).drewN 1 : Ext W W.drew).trans hx)
    clear hf hx hv
    simp only [putAll, Act.put]
    go_simp
    go_wp2_with fail
    go_ret
    exact ⟨V 35, rfl, HF.out.mono HX.out.le, HX.out.trans HX1.out⟩
end Go.Proofs.Ytdoeelfcihdmbaa
/-
  Layer 8, the reference: the sum of a head.
-/
namespace Go.Proofs.Ytdoeelfcihdmbaa
open Go.RowKit Gf
set_option maxRecDepth 20000
set_option linter.unusedVariables false

section
variable {P : Program}
theorem loudly_load_at {o : Oper} {a : Act} {w : World} {S : St} (ty : TypeId) (x : Operand) (ho : o.op = .load ty x)
    (ad : Addr) (hx : a.eval x = .pointer (some ad)) (cs : Array Value) (d : TypeDesc) (hc : ∀ j v, cs[j]? = some v → w.cell? (ad.add j) = some v)
    (hu : P.underlying ty = some d) (hd : (match d with | .struct _ | .array _ _ => true | _ => false) = true) (hi : (P.info? ty).map (·.size) = some cs.size)
    (h : S.p (.agg cs) w) : loudly P o a w (fun u w' => S.p u w' ∧ Ext w w') := by
  refine loudly_still (.agg cs) ?_ h
  unfold execOp
  simp only [ho, hx, Instr.loadAt, Instr.sureAddr, Sem.run_bind, Sem.run_pure, Result.andThen_ok, run_loadVar_at w ad ty cs d hc hu hd hi]
theorem loudly_bytesOf {o : Oper} {a : Act} {w : World} (src dst e : TypeId) (x : Operand) (ho : o.op = .convert src dst x)
    (hs : P.underlying src = some .string) (hd : P.underlying dst = some (.slice e)) (he : P.underlying e = some (.int .u8)) (key : List E) (hx : a.eval x = .string (strB key)) : loudly P o a w (fun u w' => (St.row key).p u w' ∧ Ext w w') := by
  have hr := run_bytes_of_string w src dst e (strB key) hs hd he
  rw [strB_size] at hr
  refine loudly_ok (.slice (some ⟨w.heap.size, 0, none⟩) key.length (grownCap w key.length 0 e)) (w.drew.alloc (.cells (bytesRow (strB key) (grownCap w key.length 0 e)) e ((bytesRow (strB key) (grownCap w key.length 0 e)).size, (bytesRow (strB key) (grownCap w key.length 0 e)).size + 1))) (by unfold execOp; simp only [ho, hx, Sem.run_bind, hr, Result.andThen_ok, Sem.run_pure]) ⟨⟨some ⟨w.heap.size, 0, none⟩, _, rfl, fun _ => ⟨_, rfl, fun j u hu => ?_⟩⟩, ((Ext.refl w).drewN 1).alloc _⟩
  rw [add_plain]
  have hg : (w.drew.alloc (.cells (bytesRow (strB key) (grownCap w key.length 0 e)) e ((bytesRow (strB key) (grownCap w key.length 0 e)).size, (bytesRow (strB key) (grownCap w key.length 0 e)).size + 1))).heap[w.heap.size]? = some (.cells (bytesRow (strB key) (grownCap w key.length 0 e)) e ((bytesRow (strB key) (grownCap w key.length 0 e)).size, (bytesRow (strB key) (grownCap w key.length 0 e)).size + 1)) := by
    exact heap_alloc_new w.drew _
  have hc := cell_of_row _ w.heap.size j _ _ _ hg
  rw [hc]
  have hl : j < key.length := by have := (List.getElem?_eq_some_iff.1 hu).1; rwa [bs_length] at this
  rw [← strCells_strB] at hu
  rw [bytesRow, Array.getElem?_append_left (by rw [Array.size_map]; show j < (bytesU key).toArray.size; rw [List.size_toArray, bytesU_length]; exact hl)]
  rw [← hu, Lib.strCells, List.getElem?_map, Array.getElem?_map, Array.getElem?_toList]
end
set_option maxHeartbeats 4000000 in
theorem rheadsum_n (h : HeadP) (w : World) (ho : okHead h) (hs : h.store.length = 8) : Calls Try.prog 163 #[.agg (headC h)] w fun e w' => e = .returned (.int .i64 (sumP h : Int)) ∧ Ext w w' := by
  have hmo : Try.prog.follows Departure.mixedOrders = true := by kernel_rfl
  have HFL := Lib.hid (fixedP_length hs)
  have hkl : h.key.length ≤ 255 := ho.2.2.1
  have HO := Lib.hid ho
  have HFT : Hid ([fixedP h, h.key].flatten = fixedP h ++ h.key) := Lib.hid (by simp)
  have hb : Blk (w.alloc (.cells (headC h) 43)) w.heap.size 43 (headC h) := Blk.new _ _ _
  have HX := Lib.hid ((Ext.refl w).alloc (.cells (headC h) 43))
  have HC : Hid (∀ w', Ext (w.alloc (.cells (headC h) 43)) w' → Blk w' w.heap.size 43 (headC h)) := Lib.hid fun w' hx => hb.below hx hb.lt
  have hsz := strB_size h.key
  clear hb ho
  go_enter Try.func163, Try.ntmps163
  go_wp2_with fail
  obtain ⟨W, hW⟩ : ∃ W, W = w.alloc (.cells (headC h) 43) := ⟨_, rfl⟩
  rw [← hW] at HX HC ⊢
  clear hW
  obtain ⟨g0, hg0⟩ : ∃ g, g = w.heap.size := ⟨_, rfl⟩
  rw [← hg0] at HC ⊢
  clear hg0
  have HD : Hid (∀ w1, Ext W.drew w1 → Ext W w1) := Lib.hid fun w1 hx => ((Ext.refl W).drewN 1 : Ext W W.drew).trans hx
  refine wp_region_st 11 [St.is (.agg (headC h)), St.row (fixedP h), St.is (.pointer (some ⟨g0, 11, none⟩)), St.is (.string (strB h.key)), St.row h.key, St.rows [fixedP h, h.key], St.row (fixedP h ++ h.key), St.is (.int .i64 (sumP h : Int)), St.is (.int .i64 (sumP h : Int))] hmo (by kernel_rfl) rfl ?_ ?_
  · refine ⟨?_, ?_, ?_, ?_, ?_, ?_, ?_, ?_, ?_, trivial⟩
    · intro a w1 hx hk hd
      have ek : a.tmps.getD 1 undef = .pointer (some ⟨g0, 0, none⟩) := hk 1 (by kernel_rfl)
      exact loudly_load_at 43 (.tmp 1) rfl ⟨g0, 0, none⟩ ek (headC h) _ (HC.out w1 (HD.out w1 hx)).cells Try.underlying43 rfl (by kernel_rfl) rfl
    · intro a w1 hx hk hd
      have e0 : a.tmps.getD 3 undef = .agg (headC h) := hd 0 3 (by kernel_rfl)
      exact loudly_call 182 #[.agg (headC h)] (by go_simp) ((rfixed_n h w1 HO.out hs).mono fun e w2 ⟨u, he, ho, hx⟩ => ⟨u, he, own_row ho, hx⟩)
    · intro a w1 hx hk hd
      have ek : a.tmps.getD 1 undef = .pointer (some ⟨g0, 0, none⟩) := hk 1 (by kernel_rfl)
      exact loudly_still (.pointer (some ⟨g0, 11, none⟩)) (by go_simp) rfl
    · intro a w1 hx hk hd
      have e0 : a.tmps.getD 5 undef = .pointer (some ⟨g0, 11, none⟩) := hd 2 5 (by kernel_rfl)
      have c0 : w1.cell? ⟨g0, 11, none⟩ = some (.string (strB h.key)) := (HC.out w1 (HD.out w1 hx)).cell 11
      exact loudly_still (.string (strB h.key)) (by go_simp) rfl
    · intro a w1 hx hk hd
      have e0 : a.tmps.getD 6 undef = .string (strB h.key) := hd 3 6 (by kernel_rfl)
      exact loudly_bytesOf 9 24 5 (.tmp 6) rfl Try.underlying9 Try.underlying24 (by kernel_rfl) h.key e0
    · intro a w1 hx hk hd
      obtain ⟨A0, c0, e0, p0⟩ := hd 1 4 (by kernel_rfl)
      obtain ⟨A1, c1, e1, p1⟩ := hd 4 7 (by kernel_rfl)
      have hr := rdRows_new (w := w1) (V := [a.tmps.getD 4 undef, a.tmps.getD 7 undef]) (rs := [fixedP h, h.key]) ⟨⟨A0, c0, e0, p0⟩, ⟨A1, c1, e1, p1⟩, trivial⟩ 24
      have HRR := Lib.hid hr
      clear hr p0 p1
      have f0 := (Array.getD_eq_getD_getElem? (xs := a.tmps) (i := 4) (d := undef)).symm.trans e0
      have f1 := (Array.getD_eq_getD_getElem? (xs := a.tmps) (i := 7) (d := undef)).symm.trans e1
      exact loudly_ok (.slice (some ⟨w1.heap.size, 0, none⟩) 2 2) (w1.alloc (.cells [a.tmps.getD 4 undef, a.tmps.getD 7 undef].toArray 24)) (by go_simp) ⟨⟨_, _, rfl, HRR.out⟩, (Ext.refl _).alloc _⟩
    · intro a w1 hx hk hd
      obtain ⟨A0, c0, e0, hr⟩ := hd 5 8 (by kernel_rfl)
      have e1 : a.tmps.getD 8 undef = .slice A0 2 c0 := e0
      have HRR := Lib.hid hr
      clear e0 hr
      refine loudly_call 111 #[.slice A0 2 c0] (by go_simp) ((join_n A0 2 c0 [fixedP h, h.key] w1 rfl HRR.out (by decide) (by rw [HFT.out, List.length_append, HFL.out]; omega)).mono fun e w2 ⟨u, he, ho, hx2⟩ => ⟨u, he, ?_, hx2⟩)
      rw [HFT.out] at ho
      exact own_row ho
    · intro a w1 hx hk hd
      obtain ⟨A0, c0, e0, hr⟩ := hd 6 9 (by kernel_rfl)
      have HRR := Lib.hid hr
      clear hr
      refine loudly_call 162 #[.slice A0 (fixedP h ++ h.key).length c0] (by go_simp) ((rsum_n A0 _ c0 (fixedP h ++ h.key) w1 rfl HRR.out (by rw [List.length_append, HFL.out]; omega)).mono fun e w2 ⟨he, hw⟩ => ⟨_, he, rfl, by rw [hw]; exact Ext.refl _⟩)
    · intro a w1 hx hk hd
      have e0 : a.tmps.getD 10 undef = .int .i64 (sumP h : Int) := hd 7 10 (by kernel_rfl)
      exact loudly_still (.int .i64 (sumP h : Int)) (by go_simp) rfl
  · intro V w1 hx hv
    have hf : V 8 = .int .i64 (sumP h : Int) := hv 8 2 (by kernel_rfl)
    have HX1 := Lib.hid (HD.out w1 hx)
    clear hx hv
    simp only [putAll, Act.put]
    go_simp
    go_wp2_with fail
    go_ret
    exact ⟨rfl, HX.out.trans HX1.out⟩
end Go.Proofs.Ytdoeelfcihdmbaa
/-
  Layer 8, the reference: a head is read.
-/
namespace Go.Proofs.Ytdoeelfcihdmbaa
open Go.RowKit Gf
set_option maxRecDepth 20000
set_option linter.unusedVariables false

def RPH (b : List E) (w : World) (e : Ending) (w' : World) : Prop :=
  ((∃ h, parseHeadP b = some h ∧ e = .returned (.tuple #[.agg (headC h), .int .i64 0])) ∨
    (parseHeadP b = none ∧ ∃ z : Int, z ≠ 0 ∧ e = .returned (.tuple #[.agg (headC zeroH), .int .i64 z]))) ∧ Ext w w'
structure Phd (w wr : World) : Prop where
  ext : Ext w wr
  res : Blk wr w.heap.size 43 (headC zeroH)
  zer : Blk wr (w.heap.size + 1) 43 (headC zeroH)
theorem Phd.beyond {w wr w' : World} (h : Phd w wr) (hx : Ext wr w') : Phd w w' := ⟨h.ext.trans hx, h.res.below hx h.res.lt, h.zer.below hx h.zer.lt⟩
theorem Phd.new (w : World) : Phd w ((w.alloc (.cells #[.int .u8 0, .int .u8 0, .int .u8 0, .int .u8 0, .int .u8 0, .int .u8 0, .int .u8 0, .int .u8 0, .int .i64 0, .int .i64 0, .int .i64 0, .string { data := #[] }, .int .i64 0, .int .i64 0, .int .i64 0, .int .i64 0] 43)).alloc (.cells #[.int .u8 0, .int .u8 0, .int .u8 0, .int .u8 0, .int .u8 0, .int .u8 0, .int .u8 0, .int .u8 0, .int .i64 0, .int .i64 0, .int .i64 0, .string { data := #[] }, .int .i64 0, .int .i64 0, .int .i64 0, .int .i64 0] 43)) := by
  have e : (#[.int .u8 0, .int .u8 0, .int .u8 0, .int .u8 0, .int .u8 0, .int .u8 0, .int .u8 0, .int .u8 0, .int .i64 0, .int .i64 0, .int .i64 0, .string { data := #[] }, .int .i64 0, .int .i64 0, .int .i64 0, .int .i64 0] : Array Value) = headC zeroH := rfl
  rw [e]
  refine ⟨((Ext.refl w).alloc _).alloc _, (Blk.new w 43 (headC zeroH)).alloc _, ?_⟩
  have := Blk.new (w.alloc (.cells (headC zeroH) 43)) 43 (headC zeroH)
  simpa using this
theorem rd_byte_at {w : World} {ad : Addr} {xs : List E} (h : Rd w (some ad) (bs xs)) (k : Nat) (hk : k < xs.length) : w.cell? (ad.add k) = some (.int .u8 ((xs.getD k 0).val : Int)) := by
  obtain ⟨ad', e, hc⟩ := h.byte hk
  cases e
  rw [hc, List.getD_eq_getElem?_getD, List.getElem?_eq_getElem hk]; rfl
theorem magic_iff {b : List E} (h : 36 ≤ b.length) : b.take 4 = magicP ↔ ((b.getD 0 0).val = 67 ∧ (b.getD 1 0).val = 82 ∧ (b.getD 2 0).val = 78 ∧ (b.getD 3 0).val = 2) := by
  match b, h with
  | x0 :: x1 :: x2 :: x3 :: b, _ =>
    simp only [List.take_succ_cons, List.take_zero, magicP, List.getD_cons_zero, List.getD_cons_succ, List.cons.injEq, and_true]
    have key : ∀ (x : E) (n : Nat), n < 256 → (x = E.of n ↔ x.val = n) := fun x n hn => by
      constructor
      · intro e; rw [e, E.val_of hn]
      · intro e; exact E.ext (by rw [E.val_of hn, e])
    rw [key x0 67 (by decide), key x1 82 (by decide), key x2 78 (by decide), key x3 2 (by decide)]
theorem fld_one {b : List E} {k : Nat} (h : k < b.length) : fld b k 1 = (b.getD k 0).val := by
  rw [fld, List.drop_eq_getElem_cons h, List.getD_eq_getElem?_getD, List.getElem?_eq_getElem h]
  show b[k].val + 256 * 0 = _
  rfl
/-- The first j bytes of the store's name are laid. -/
structure Sto (w wr : World) (g : Nat) (b : List E) (j : Nat) : Prop where
  phd : Phd w wr
  lt : w.heap.size + 1 < g
  box : ∃ cs, Blk wr g 43 cs ∧ cs.size = 16 ∧ (∀ i, i < j → cs[i]? = some (bv (b.getD (4 + i) 0))) ∧ ∀ i, 8 ≤ i → cs[i]? = (headC zeroH)[i]?
structure Hdg (w wr : World) (g : Nat) (hd : HeadP) : Prop where
  phd : Phd w wr
  lt : w.heap.size + 1 < g
  box : Blk wr g 43 (headC hd)
theorem Phd.touch {w wr w' : World} {g : Nat} (h : Phd w wr) (hg : w.heap.size + 1 < g) (ht : Touch (fun b => b = g) wr w') : Phd w w' :=
  ⟨ht.extNew h.ext (by omega), h.res.touch ht (fun e => by omega), h.zer.touch ht (fun e => by omega)⟩
theorem Hdg.beyond {w wr w' : World} {g : Nat} {hd : HeadP} (h : Hdg w wr g hd) (hx : Ext wr w') : Hdg w w' g hd := ⟨h.phd.beyond hx, h.lt, h.box.below hx h.box.lt⟩
theorem Hdg.put {w wr : World} {g : Nat} {hd hd' : HeadP} (h : Hdg w wr g hd) (i : Nat) (u : Value) (e : (headC hd).setIfInBounds i u = headC hd') : Hdg w (wr.setCell ⟨g, i, none⟩ u) g hd' :=
  ⟨h.phd.touch h.lt (touch_set (S := fun b => b = g) wr ⟨g, i, none⟩ u rfl), h.lt, h.box.set_eq i u e⟩
theorem Hdg.store {w wr w' : World} {g : Nat} {hd hd' : HeadP} (h : Hdg w wr g hd) (ht : Touch (fun b => b = g) wr w') (hb : Blk w' g 43 (headC hd')) : Hdg w w' g hd' := ⟨h.phd.touch h.lt ht, h.lt, hb⟩
theorem Sto.start {w wr : World} (h : Phd w wr) (b : List E) : Sto w (wr.alloc (.cells #[.int .u8 0, .int .u8 0, .int .u8 0, .int .u8 0, .int .u8 0, .int .u8 0, .int .u8 0, .int .u8 0, .int .i64 0, .int .i64 0, .int .i64 0, .string { data := #[] }, .int .i64 0, .int .i64 0, .int .i64 0, .int .i64 0] 43)) wr.heap.size b 0 := by
  have e : (#[.int .u8 0, .int .u8 0, .int .u8 0, .int .u8 0, .int .u8 0, .int .u8 0, .int .u8 0, .int .u8 0, .int .i64 0, .int .i64 0, .int .i64 0, .string { data := #[] }, .int .i64 0, .int .i64 0, .int .i64 0, .int .i64 0] : Array Value) = headC zeroH := rfl
  rw [e]
  exact ⟨h.beyond ((Ext.refl wr).alloc _), h.zer.lt, _, Blk.new _ _ _, rfl, fun i hi => by omega, fun _ _ => rfl⟩
theorem Sto.some_ {w wr : World} {g : Nat} {b : List E} {j i : Nat} (h : Sto w wr g b j) (hi : i < 16) : wr.frozen? ⟨g, i, none⟩ = false ∧ ∃ u, wr.cell? ⟨g, i, none⟩ = some u := by
  obtain ⟨cs, h1, h2, -, -⟩ := h.box
  exact ⟨h1.frozen i, cs[i], by rw [h1.cell i]; exact Array.getElem?_eq_getElem (by omega)⟩
theorem Sto.step {w wr : World} {g : Nat} {b : List E} {j : Nat} (h : Sto w wr g b j) (hj : j < 8) : Sto w (wr.setCell ⟨g, j, none⟩ (.int .u8 ((b.getD (4 + j) 0).val : Int))) g b (j + 1) := by
  obtain ⟨cs, h1, h2, h3, h4⟩ := h.box
  refine ⟨h.phd.touch h.lt (touch_set (S := fun b => b = g) wr ⟨g, j, none⟩ _ rfl), h.lt, _, h1.set_ j _, by simpa using h2, fun i hi => ?_, fun i hi => ?_⟩
  · rw [Array.getElem?_setIfInBounds]
    by_cases e : j = i
    · subst e; rw [if_pos rfl, if_pos (by omega)]; rfl
    · rw [if_neg e, h3 i (by omega)]
  · rw [Array.getElem?_setIfInBounds, if_neg (by omega), h4 i hi]
theorem Sto.fin {w wr : World} {g : Nat} {b : List E} (h : Sto w wr g b 8) (hb : 12 ≤ b.length) : Hdg w wr g { zeroH with store := (b.drop 4).take 8 } := by
  obtain ⟨cs, h1, h2, h3, h4⟩ := h.box
  have hst : ∀ i, i < 8 → ((b.drop 4).take 8).getD i 0 = b.getD (4 + i) 0 := fun i hi => by
    rw [List.getD_eq_getElem?_getD, List.getD_eq_getElem?_getD, List.getElem?_take_of_lt hi, List.getElem?_drop]
  have e : cs = headC { zeroH with store := (b.drop 4).take 8 } := by
    apply Array.ext_getElem?
    intro i
    rcases Nat.lt_or_ge i 8 with hi | hi
    · rw [h3 i hi, ← hst i hi]
      obtain rfl | rfl | rfl | rfl | rfl | rfl | rfl | rfl : i = 0 ∨ i = 1 ∨ i = 2 ∨ i = 3 ∨ i = 4 ∨ i = 5 ∨ i = 6 ∨ i = 7 := by omega
      all_goals rfl
    · rw [h4 i hi]
      rcases Nat.lt_or_ge i 16 with hi2 | hi2
      · obtain rfl | rfl | rfl | rfl | rfl | rfl | rfl | rfl : i = 8 ∨ i = 9 ∨ i = 10 ∨ i = 11 ∨ i = 12 ∨ i = 13 ∨ i = 14 ∨ i = 15 := by omega
        all_goals rfl
      · rw [Array.getElem?_eq_none (by rw [headC_size]; exact hi2), Array.getElem?_eq_none (by rw [headC_size]; exact hi2)]
  rw [e] at h1
  exact ⟨h.phd, h.lt, h1⟩
section
variable {P : Program}
theorem store_run {o : Oper} {a : Act} {w : World} (ty : TypeId) (x y : Operand) (ho : o.op = .store ty x y)
    (g off : Nat) (cells : Array Value) (hx : a.eval x = .pointer (some ⟨g, off, none⟩)) (hy : a.eval y = .agg cells)
    (t : TypeId) (cur : Array Value) (hg : Blk w g t cur) (hi : (P.info? ty).map (·.size) = some cells.size)
    (hold : off + cells.size ≤ cur.size) (h1 : cells.all (·.oneCell') = true) : (execOp a.eval o).run P w = .ok .skip (w.setRow g (seg cur off cells.toList)) := by
  unfold execOp
  simp only [ho, hx, hy, Instr.storeAt, Instr.sureAddr, Sem.run_bind, Sem.run_pure, Result.andThen_ok, run_storeVar_at w g off t ty cur cells hg hi hold h1]
end
set_option maxHeartbeats 16000000 in
theorem rparsehead_n (A : Option Addr) (n c : Nat) (b : List E) (w : World) (hn : b.length = n) (hA : Rd w A (bs b)) (hc : n ≤ c) (hlen : n ≤ 100000000000) :
    Calls Try.prog 107 #[.slice A n c] w (RPH b w) := by
  have hmo : Try.prog.follows Departure.mixedOrders = true := by kernel_rfl
  have HN := Lib.hid hn
  have HPH := Lib.hid (Phd.new w)
  have HA := Lib.hid (hA.ext (Phd.new w).ext)
  have HAW := Lib.hid hA
  clear hn hA
  by_cases h36 : n < 36
  · have HP : Hid (parseHeadP b = none) := Lib.hid (by rw [parseHeadP, if_pos (by rw [HN.out]; exact h36)])
    go_enter Try.func107, Try.ntmps107
    go_wp2_with (first | (refine wpList_load_at rfl 43 _ rfl ⟨w.heap.size + 1, 0, none⟩ rfl (headC zeroH) _ HPH.out.zer.cells Try.underlying43 rfl (by kernel_rfl) ?_) | (refine wpList_store_at rfl 43 _ _ rfl w.heap.size 0 (headC zeroH) rfl rfl 43 (headC zeroH) HPH.out.res (by kernel_rfl) (Nat.le_refl 16) (headC_ones zeroH) ?_; intro W9 k1 k2))
    rw [zero_fill _ rfl] at k1
    exact bodyPost_ret (results_cell2 Try.results107 _ W9 ⟨w.heap.size, 0, none⟩ (headC zeroH) _ rfl k1.cells Try.underlying43 rfl (by kernel_rfl)) rfl ⟨.inr ⟨HP.out, 70, by decide, rfl⟩, k2.extNew HPH.out.ext (Nat.le_refl _)⟩
  · obtain ⟨ad, hAe, -⟩ := HA.out.byte (k := 0) (by rw [HN.out]; omega)
    subst hAe
    have c0 := rd_byte_at HA.out 0 (by rw [HN.out]; omega)
    have c1 := rd_byte_at HA.out 1 (by rw [HN.out]; omega)
    have c2 := rd_byte_at HA.out 2 (by rw [HN.out]; omega)
    have c3 := rd_byte_at HA.out 3 (by rw [HN.out]; omega)
    rw [add_zero'] at c0
    simp [Addr.add] at c1 c2 c3
    have HM := Lib.hid (magic_iff (b := b) (by rw [HN.out]; omega))
    obtain ⟨x0, h0⟩ : ∃ x, x = b[0]?.getD 0 := ⟨_, rfl⟩
    obtain ⟨x1, h1⟩ : ∃ x, x = b[1]?.getD 0 := ⟨_, rfl⟩
    obtain ⟨x2, h2⟩ : ∃ x, x = b[2]?.getD 0 := ⟨_, rfl⟩
    obtain ⟨x3, h3⟩ : ∃ x, x = b[3]?.getD 0 := ⟨_, rfl⟩
    simp only [List.getD_eq_getElem?_getD, ← h0, ← h1, ← h2, ← h3] at c0 c1 c2 c3 HM
    clear h0 h1 h2 h3
    by_cases hm : x0.val = 67 ∧ x1.val = 82 ∧ x2.val = 78 ∧ x3.val = 2
    · obtain ⟨g0, g1, g2, g3⟩ := hm
      have HMT : Hid (b.take 4 = magicP) := Lib.hid (HM.out.2 ⟨g0, g1, g2, g3⟩)
      have e0 : ((x0.val : Int) != 67) = false := by rw [bne_eq_false_iff_eq]; omega
      have e1 : ((x1.val : Int) != 82) = false := by rw [bne_eq_false_iff_eq]; omega
      have e2 : ((x2.val : Int) != 78) = false := by rw [bne_eq_false_iff_eq]; omega
      have e3 : ((x3.val : Int) != 2) = false := by rw [bne_eq_false_iff_eq]; omega
      clear HM g0 g1 g2 g3
      go_enter Try.func107, Try.ntmps107
      go_wp2_with fail
      clear c0 c1 c2 c3 e0 e1 e2 e3
      obtain ⟨W0, hW0⟩ : ∃ W0, W0 = (w.alloc (.cells #[.int .u8 0, .int .u8 0, .int .u8 0, .int .u8 0, .int .u8 0, .int .u8 0, .int .u8 0, .int .u8 0, .int .i64 0, .int .i64 0, .int .i64 0, .string { data := #[] }, .int .i64 0, .int .i64 0, .int .i64 0, .int .i64 0] 43)).alloc (.cells #[.int .u8 0, .int .u8 0, .int .u8 0, .int .u8 0, .int .u8 0, .int .u8 0, .int .u8 0, .int .u8 0, .int .i64 0, .int .i64 0, .int .i64 0, .string { data := #[] }, .int .i64 0, .int .i64 0, .int .i64 0, .int .i64 0] 43) := ⟨_, rfl⟩
      rw [← hW0] at HPH HA ⊢
      clear hW0
      have HD : Hid (∀ w1, Ext W0.drew w1 → Ext W0 w1) := Lib.hid fun w1 hx => ((Ext.refl W0).drewN 1 : Ext W0 W0.drew).trans hx
      have hsl := fun w => slice_h tyU8 oneU8 (some ad) n c 32 .i64 32 rfl (by omega) w
      have HR32 : Hid (Rd W0 (some ad) (bs (b.take 32))) := Lib.hid (by rw [bs_take]; exact HA.out.take 32)
      have HT32 : Hid ((b.take 32).length = 32) := Lib.hid (by rw [List.length_take, HN.out]; omega)
      obtain ⟨f, hf⟩ : ∃ f, f = fld b 32 4 := ⟨_, rfl⟩
      obtain ⟨sm, hsm⟩ : ∃ x, x = crcS (b.take 32) := ⟨_, rfl⟩
      have hq : ∃ q : Bool, ((f : Int) != (sm : Int)) = q := ⟨_, rfl⟩
      obtain ⟨q, hq⟩ := hq
      have HF := Lib.hid hf
      have HSM := Lib.hid hsm
      clear hf hsm
      refine wp_region_st 117 [St.is (.slice (some ad) n c), St.is (.int .i64 (f : Int)), St.is (.slice (some ad) n c), St.is (.slice (some ad) 32 c), St.is (.int .i64 (sm : Int)), St.is (.bool q)] hmo (by kernel_rfl) rfl ?_ ?_
      · refine ⟨?_, ?_, ?_, ?_, ?_, ?_, trivial⟩
        · intro a w1 hx hk hd
          have ek : a.tmps.getD 0 undef = .slice (some ad) n c := hk 0 (by kernel_rfl)
          exact loudly_still (.slice (some ad) n c) (by go_simp) rfl
        · intro a w1 hx hk hd
          have e0 : a.tmps.getD 37 undef = .slice (some ad) n c := hd 0 37 (by kernel_rfl)
          exact loudly_call 161 #[.slice (some ad) n c, .int .i64 32, .int .i64 4] (by go_simp) ((number_n 32 4 32 4 (some ad) n c b w1 rfl rfl HN.out (HA.out.ext (HD.out w1 hx)) (by omega) (by decide) (by omega)).mono fun e w2 ⟨he, hw⟩ => ⟨_, he, by rw [HF.out]; rfl, by rw [hw]; exact Ext.refl _⟩)
        · intro a w1 hx hk hd
          have ek : a.tmps.getD 0 undef = .slice (some ad) n c := hk 0 (by kernel_rfl)
          exact loudly_still (.slice (some ad) n c) (by go_simp) rfl
        · intro a w1 hx hk hd
          have e0 : a.tmps.getD 39 undef = .slice (some ad) n c := hd 2 39 (by kernel_rfl)
          exact loudly_still (.slice (some ad) 32 c) (by go_simp) rfl
        · intro a w1 hx hk hd
          have e0 : a.tmps.getD 40 undef = .slice (some ad) 32 c := hd 3 40 (by kernel_rfl)
          exact loudly_call 162 #[.slice (some ad) 32 c] (by go_simp) ((rsum_n (some ad) 32 c (b.take 32) w1 HT32.out (HR32.out.ext (HD.out w1 hx)) (by decide)).mono fun e w2 ⟨he, hw⟩ => ⟨_, he, by rw [HSM.out]; rfl, by rw [hw]; exact Ext.refl _⟩)
        · intro a w1 hx hk hd
          have e0 : a.tmps.getD 38 undef = .int .i64 (f : Int) := hd 1 38 (by kernel_rfl)
          have e1 : a.tmps.getD 41 undef = .int .i64 (sm : Int) := hd 4 41 (by kernel_rfl)
          exact loudly_still (.bool q) (by go_simp) rfl
      intro V w1 hx hv
      have hv5 : V 5 = .bool q := hv 5 42 (by kernel_rfl)
      have HP1 := Lib.hid (HPH.out.beyond (HD.out w1 hx))
      have HA1 := Lib.hid (HA.out.ext (HD.out w1 hx))
      clear hx hv HPH HA HR32 HD hsl
      simp only [putAll, Act.put]
      go_simp
      clear hv5
      cases q with
      | true =>
        have HP : Hid (parseHeadP b = none) := Lib.hid (by
          rw [parseHeadP, if_neg (by rw [HN.out]; exact h36), if_neg (fun h => h HMT.out), if_pos]
          rw [← HF.out, ← HSM.out]
          intro e; rw [e] at hq; simp at hq)
        clear hq
        go_wp2_with (first | (refine wpList_load_at rfl 43 _ rfl ⟨w.heap.size + 1, 0, none⟩ rfl (headC zeroH) _ HP1.out.zer.cells Try.underlying43 rfl (by kernel_rfl) ?_) | (refine wpList_store_at rfl 43 _ _ rfl w.heap.size 0 (headC zeroH) rfl rfl 43 (headC zeroH) HP1.out.res (by kernel_rfl) (Nat.le_refl 16) (headC_ones zeroH) ?_; intro W9 k1 k2))
        rw [zero_fill _ rfl] at k1
        exact bodyPost_ret (results_cell2 Try.results107 _ W9 ⟨w.heap.size, 0, none⟩ (headC zeroH) _ rfl k1.cells Try.underlying43 rfl (by kernel_rfl)) rfl ⟨.inr ⟨HP.out, 82, by decide, rfl⟩, k2.extNew HP1.out.ext (Nat.le_refl _)⟩
      | false =>
        have HFS : Hid (fld b 32 4 = crcS (b.take 32)) := Lib.hid (by
          rw [← HF.out, ← HSM.out]
          rw [bne_eq_false_iff_eq] at hq; omega)
        clear hq HF HSM
        have c31 := rd_byte_at HA1.out 31 (by rw [HN.out]; omega)
        simp [Addr.add] at c31
        have HNK0 := Lib.hid (fld_one (b := b) (k := 31) (by rw [HN.out]; omega))
        rw [List.getD_eq_getElem?_getD] at HNK0
        obtain ⟨y, hy⟩ : ∃ y, y = b[31]?.getD 0 := ⟨_, rfl⟩
        rw [← hy] at c31 HNK0
        obtain ⟨nk, hnk⟩ : ∃ nk, nk = y.val := ⟨_, rfl⟩
        have hnkl : nk < 256 := by rw [hnk]; exact y.lt
        rw [← hnk] at c31 HNK0
        have HNK : Hid (fld b 31 1 = nk) := HNK0
        clear hy hnk HNK0
        by_cases h40 : n < 40 + nk
        · have HP : Hid (parseHeadP b = none) := Lib.hid (by
            rw [parseHeadP, if_neg (by rw [HN.out]; exact h36), if_neg (fun h => h HMT.out), if_neg (fun h => h HFS.out), if_pos (by rw [HNK.out, HN.out]; exact h40)])
          go_wp2_with (first | (refine wpList_load_at rfl 43 _ rfl ⟨w.heap.size + 1, 0, none⟩ rfl (headC zeroH) _ HP1.out.zer.cells Try.underlying43 rfl (by kernel_rfl) ?_) | (refine wpList_store_at rfl 43 _ _ rfl w.heap.size 0 (headC zeroH) rfl rfl 43 (headC zeroH) HP1.out.res (by kernel_rfl) (Nat.le_refl 16) (headC_ones zeroH) ?_; intro W9 k1 k2))
          rw [zero_fill _ rfl] at k1
          exact bodyPost_ret (results_cell2 Try.results107 _ W9 ⟨w.heap.size, 0, none⟩ (headC zeroH) _ rfl k1.cells Try.underlying43 rfl (by kernel_rfl)) rfl ⟨.inr ⟨HP.out, 70, by decide, rfl⟩, k2.extNew HP1.out.ext (Nat.le_refl _)⟩
        · have hs36 := fun w => slice_lh tyU8 oneU8 (some ad) n c 36 (36 + nk) .i64 .i64 36 (36 + (nk : Int)) rfl (by omega) (by omega) (by omega) w
          obtain ⟨ad36, had36⟩ : ∃ a, some a = cutA (some ad) c 36 := by
            unfold cutA
            split
            · exact ⟨_, rfl⟩
            · exact ⟨_, rfl⟩
          rw [← had36, show 36 + nk - 36 = nk by omega] at hs36
          obtain ⟨key, hkey⟩ : ∃ k, k = (b.drop 36).take nk := ⟨_, rfl⟩
          have HR36 : Hid (Rd w (some ad36) (bs key)) := Lib.hid (by
            rw [had36, hkey, bs_take, bs_drop]
            exact HAW.out.piece (by rw [bs_length, HN.out]; omega) (by rw [bs_length, HN.out]; exact hc))
          have HKL : Hid (key.length = nk) := Lib.hid (by rw [hkey, List.length_take, List.length_drop, HN.out]; omega)
          have HKEY := Lib.hid hkey
          clear had36 hkey
          go_wp2_with fail
          clear c31
          have hsl := fun w => slice_h tyU8 oneU8 (some ad) n c 32 .i64 32 rfl (by omega) w
          have HD : Hid (∀ w2, Ext w1.drew w2 → Ext w1 w2) := Lib.hid fun w2 hx => ((Ext.refl w1).drewN 1 : Ext w1 w1.drew).trans hx
          have HR32 : Hid (Rd w (some ad) (bs (b.take 32))) := Lib.hid (by rw [bs_take]; exact HAW.out.take 32)
          obtain ⟨f, hf⟩ : ∃ f, f = fld b (36 + nk) 4 := ⟨_, rfl⟩
          obtain ⟨sm, hsm⟩ : ∃ x, x = crcS (b.take 32 ++ key) := ⟨_, rfl⟩
          have hq : ∃ q : Bool, ((f : Int) != (sm : Int)) = q := ⟨_, rfl⟩
          obtain ⟨q, hq⟩ := hq
          have HF := Lib.hid hf
          have HSM := Lib.hid hsm
          have HFT : Hid ([b.take 32, key].flatten = b.take 32 ++ key) := Lib.hid (by simp)
          have HKK : Hid ((b.take 32 ++ key).length = 32 + nk) := Lib.hid (by rw [List.length_append, HT32.out, HKL.out])
          clear hf hsm
          refine wp_region_st 117 [St.is (.slice (some ad) n c), St.is (.int .i64 (nk : Int)), St.is (.int .i64 (36 + (nk : Int))), St.is (.int .i64 (f : Int)), St.is (.slice (some ad) n c), St.is (.slice (some ad) 32 c), St.is (.slice (some ad36) nk (c - 36)), St.rows [b.take 32, key], St.row (b.take 32 ++ key), St.is (.int .i64 (sm : Int)), St.is (.bool q)] hmo (by kernel_rfl) rfl ?_ ?_
          · refine ⟨?_, ?_, ?_, ?_, ?_, ?_, ?_, ?_, ?_, ?_, ?_, trivial⟩
            · intro a w2 hx hk hd
              have ek : a.tmps.getD 0 undef = .slice (some ad) n c := hk 0 (by kernel_rfl)
              exact loudly_still (.slice (some ad) n c) (by go_simp) rfl
            · intro a w2 hx hk hd
              have ek : a.tmps.getD 5 undef = .int .i64 (nk : Int) := hk 5 (by kernel_rfl)
              exact loudly_still (.int .i64 (nk : Int)) (by go_simp) rfl
            · intro a w2 hx hk hd
              have e0 : a.tmps.getD 59 undef = .int .i64 (nk : Int) := hd 1 59 (by kernel_rfl)
              have hwr : IntKind.i64.wrap (36 + (nk : Int)) = 36 + (nk : Int) := by rw [IntKind.wrap_i64]; omega
              exact loudly_still (.int .i64 (36 + (nk : Int))) (by go_simp) rfl
            · intro a w2 hx hk hd
              have e0 : a.tmps.getD 58 undef = .slice (some ad) n c := hd 0 58 (by kernel_rfl)
              have e1 : a.tmps.getD 60 undef = .int .i64 (36 + (nk : Int)) := hd 2 60 (by kernel_rfl)
              exact loudly_call 161 #[.slice (some ad) n c, .int .i64 (36 + (nk : Int)), .int .i64 4] (by go_simp) ((number_n (36 + (nk : Int)) 4 (36 + nk) 4 (some ad) n c b w2 (by omega) rfl HN.out (HA1.out.ext (HD.out w2 hx)) (by omega) (by decide) (by omega)).mono fun e w3 ⟨he, hw⟩ => ⟨_, he, by rw [HF.out]; rfl, by rw [hw]; exact Ext.refl _⟩)
            · intro a w2 hx hk hd
              have ek : a.tmps.getD 0 undef = .slice (some ad) n c := hk 0 (by kernel_rfl)
              exact loudly_still (.slice (some ad) n c) (by go_simp) rfl
            · intro a w2 hx hk hd
              have e0 : a.tmps.getD 62 undef = .slice (some ad) n c := hd 4 62 (by kernel_rfl)
              exact loudly_still (.slice (some ad) 32 c) (by go_simp) rfl
            · intro a w2 hx hk hd
              have ek : a.tmps.getD 6 undef = .slice (some ad36) nk (c - 36) := hk 6 (by kernel_rfl)
              exact loudly_still (.slice (some ad36) nk (c - 36)) (by go_simp) rfl
            · intro a w2 hx hk hd
              have e0 : a.tmps.getD 63 undef = .slice (some ad) 32 c := hd 5 63 (by kernel_rfl)
              have e1 : a.tmps.getD 64 undef = .slice (some ad36) nk (c - 36) := hd 6 64 (by kernel_rfl)
              have hww : Ext w w2 := HP1.out.ext.trans (HD.out w2 hx)
              have hr := rdRows_new (w := w2) (V := [a.tmps.getD 63 undef, a.tmps.getD 64 undef]) (rs := [b.take 32, key]) ⟨⟨some ad, c, by rw [e0, HT32.out], HR32.out.ext hww⟩, ⟨some ad36, c - 36, by rw [e1, HKL.out], HR36.out.ext hww⟩, trivial⟩ 24
              have HRR := Lib.hid hr
              clear hr
              have f0 := (Array.getD_eq_getD_getElem? (xs := a.tmps) (i := 63) (d := undef)).symm.trans e0
              have f1 := (Array.getD_eq_getD_getElem? (xs := a.tmps) (i := 64) (d := undef)).symm.trans e1
              exact loudly_ok (.slice (some ⟨w2.heap.size, 0, none⟩) 2 2) (w2.alloc (.cells [a.tmps.getD 63 undef, a.tmps.getD 64 undef].toArray 24)) (by go_simp) ⟨⟨_, _, rfl, HRR.out⟩, (Ext.refl _).alloc _⟩
            · intro a w2 hx hk hd
              obtain ⟨A0, c0, e0, hr⟩ := hd 7 65 (by kernel_rfl)
              have e1 : a.tmps.getD 65 undef = .slice A0 2 c0 := e0
              have HRR := Lib.hid hr
              clear e0 hr
              refine loudly_call 111 #[.slice A0 2 c0] (by go_simp) ((join_n A0 2 c0 [b.take 32, key] w2 rfl HRR.out (by decide) (by rw [HFT.out, HKK.out]; omega)).mono fun e w3 ⟨u, he, ho, hx2⟩ => ⟨u, he, ?_, hx2⟩)
              rw [HFT.out] at ho
              exact own_row ho
            · intro a w2 hx hk hd
              obtain ⟨A0, c0, e0, hr⟩ := hd 8 66 (by kernel_rfl)
              have HRR := Lib.hid hr
              clear hr
              exact loudly_call 162 #[.slice A0 (b.take 32 ++ key).length c0] (by go_simp) ((rsum_n A0 _ c0 (b.take 32 ++ key) w2 rfl HRR.out (by rw [HKK.out]; omega)).mono fun e w3 ⟨he, hw⟩ => ⟨_, he, by rw [HSM.out]; rfl, by rw [hw]; exact Ext.refl _⟩)
            · intro a w2 hx hk hd
              have e0 : a.tmps.getD 61 undef = .int .i64 (f : Int) := hd 3 61 (by kernel_rfl)
              have e1 : a.tmps.getD 67 undef = .int .i64 (sm : Int) := hd 9 67 (by kernel_rfl)
              exact loudly_still (.bool q) (by go_simp) rfl
          intro V2 w2 hx hv
          have hv10 : V2 10 = .bool q := hv 10 68 (by kernel_rfl)
          have HP2 := Lib.hid (HP1.out.beyond (HD.out w2 hx))
          clear hx hv HP1 HA1 HR32 HD hsl hs36
          simp only [putAll, Act.put]
          go_simp
          clear hv10
          cases q with
          | true =>
            have HP : Hid (parseHeadP b = none) := Lib.hid (by
              rw [parseHeadP, if_neg (by rw [HN.out]; exact h36), if_neg (fun h => h HMT.out), if_neg (fun h => h HFS.out), if_neg (by rw [HNK.out, HN.out]; exact h40), if_pos]
              rw [HNK.out, ← HKEY.out, ← HF.out, ← HSM.out]
              intro e; rw [e] at hq; simp at hq)
            clear hq
            go_wp2_with (first | (refine wpList_load_at rfl 43 _ rfl ⟨w.heap.size + 1, 0, none⟩ rfl (headC zeroH) _ HP2.out.zer.cells Try.underlying43 rfl (by kernel_rfl) ?_) | (refine wpList_store_at rfl 43 _ _ rfl w.heap.size 0 (headC zeroH) rfl rfl 43 (headC zeroH) HP2.out.res (by kernel_rfl) (Nat.le_refl 16) (headC_ones zeroH) ?_; intro W9 k1 k2))
            rw [zero_fill _ rfl] at k1
            exact bodyPost_ret (results_cell2 Try.results107 _ W9 ⟨w.heap.size, 0, none⟩ (headC zeroH) _ rfl k1.cells Try.underlying43 rfl (by kernel_rfl)) rfl ⟨.inr ⟨HP.out, 82, by decide, rfl⟩, k2.extNew HP2.out.ext (Nat.le_refl _)⟩
          | false =>
            have HFS2 : Hid (parseHeadP b = if okHead (headOfP b) then some (headOfP b) else none) := Lib.hid (by
              rw [parseHeadP, if_neg (by rw [HN.out]; exact h36), if_neg (fun h => h HMT.out), if_neg (fun h => h HFS.out), if_neg (by rw [HNK.out, HN.out]; exact h40), if_neg]
              rw [HNK.out, ← HKEY.out, ← HF.out, ← HSM.out]
              rw [bne_eq_false_iff_eq] at hq
              intro h; exact h (by omega))
            clear hq HF HSM HFT HKK
            have HST := Lib.hid (Sto.start HP2.out b)
            obtain ⟨g7, hg7⟩ : ∃ g, g = w2.heap.size := ⟨_, rfl⟩
            rw [← hg7] at HST
            go_wp2_with fail
            rw [← hg7]
            clear hg7 HP2
            go_loopw [8] (fun i wr => ∃ j : Nat, j ≤ 8 ∧ i = .int .i64 j ∧ Sto w wr g7 b j) (fun i _ => 8 - (intOf i).toNat)
            case atStart => exact ⟨0, by omega, rfl, HST.out⟩
            case round =>
              clear HST
              obtain ⟨W, rfl⟩ : ∃ W, W = wr := ⟨_, rfl⟩
              obtain ⟨j, hj, rfl, hst⟩ := hrel
              by_cases hlt : j < 8
              · have cb := rd_byte_at (HAW.out.ext hst.phd.ext) (4 + j) (by rw [HN.out]; omega)
                obtain ⟨f1, u1, c1⟩ := hst.some_ (show j < 16 by omega)
                have HS := Lib.hid (hst.step hlt)
                obtain ⟨x, hx⟩ : ∃ x, x = b.getD (4 + j) 0 := ⟨_, rfl⟩
                rw [← hx] at cb HS
                clear hst hx
                go_wp2_with fail
                go_roundw
                case rel => exact ⟨j + 1, by omega, by go_num, HS.out⟩
                case measure => simp [intOf]; omega
              · obtain rfl : j = 8 := by omega
                have HH := Lib.hid (hst.fin (by rw [HN.out]; omega))
                clear hst
                have HRB : Hid (∀ w', Ext w w' → Rd w' (some ad) (bs b)) := Lib.hid fun w' hx => HAW.out.ext hx
                have HXW := Lib.hid HH.out.phd.ext
                have HK := Lib.hid (fld_one (b := b) (k := 12) (by rw [HN.out]; omega))
                have HM := Lib.hid (fld_one (b := b) (k := 13) (by rw [HN.out]; omega))
                have HI := Lib.hid (fld_one (b := b) (k := 22) (by rw [HN.out]; omega))
                have b12 : ∀ w', Ext w w' → w'.cell? ⟨ad.block, ad.off + 12, none⟩ = some (.int .u8 ((b.getD 12 0).val : Int)) := fun w' hx => by
                  have := rd_byte_at (HRB.out w' hx) 12 (by rw [HN.out]; omega); simpa [Addr.add] using this
                have b13 : ∀ w', Ext w w' → w'.cell? ⟨ad.block, ad.off + 13, none⟩ = some (.int .u8 ((b.getD 13 0).val : Int)) := fun w' hx => by
                  have := rd_byte_at (HRB.out w' hx) 13 (by rw [HN.out]; omega); simpa [Addr.add] using this
                have b22 : ∀ w', Ext w w' → w'.cell? ⟨ad.block, ad.off + 22, none⟩ = some (.int .u8 ((b.getD 22 0).val : Int)) := fun w' hx => by
                  have := rd_byte_at (HRB.out w' hx) 22 (by rw [HN.out]; omega); simpa [Addr.add] using this
                rw [← HK.out] at b12
                rw [← HM.out] at b13
                rw [← HI.out] at b22
                obtain ⟨xk, hxk⟩ : ∃ x, x = fld b 12 1 := ⟨_, rfl⟩
                obtain ⟨xm, hxm⟩ : ∃ x, x = fld b 13 1 := ⟨_, rfl⟩
                obtain ⟨xi, hxi⟩ : ∃ x, x = fld b 22 1 := ⟨_, rfl⟩
                obtain ⟨xb, hxb⟩ : ∃ x, x = fld b 14 4 := ⟨_, rfl⟩
                obtain ⟨xz, hxz⟩ : ∃ x, x = fld b 18 4 := ⟨_, rfl⟩
                obtain ⟨xe, hxe⟩ : ∃ x, x = fld b 23 4 := ⟨_, rfl⟩
                obtain ⟨xc, hxc⟩ : ∃ x, x = fld b 27 4 := ⟨_, rfl⟩
                have lk : xk < 256 := by rw [hxk]; exact fld_lt b 12 1
                have lm : xm < 256 := by rw [hxm]; exact fld_lt b 13 1
                have li : xi < 256 := by rw [hxi]; exact fld_lt b 22 1
                have lb : xb < 4294967296 := by rw [hxb]; exact fld_lt b 14 4
                have lz : xz < 4294967296 := by rw [hxz]; exact fld_lt b 18 4
                have lE : xe < 4294967296 := by rw [hxe]; exact fld_lt b 23 4
                have lc : xc < 4294967296 := by rw [hxc]; exact fld_lt b 27 4
                have wk : IntKind.i64.wrap (xk : Int) = (xk : Int) := by rw [IntKind.wrap_i64]; omega
                have wm : IntKind.i64.wrap (xm : Int) = (xm : Int) := by rw [IntKind.wrap_i64]; omega
                rw [← hxk] at b12
                rw [← hxm] at b13
                rw [← hxi] at b22
                obtain ⟨st, hst⟩ : ∃ st, st = (b.drop 4).take 8 := ⟨_, rfl⟩
                rw [← hst] at HH
                have HFIN : Hid (headOfP b = { store := st, k := xk, m := xm, blk := xb, key := key, size := xz, idx := xi, epoch := xe, count := xc }) := Lib.hid (by
                  rw [headOfP, HNK.out, ← hst, ← hxk, ← hxm, ← hxb, ← hxz, ← hxi, ← hxe, ← hxc, ← HKEY.out])
                have HXB := Lib.hid hxb
                have HXZ := Lib.hid hxz
                have HXE := Lib.hid hxe
                have HXC := Lib.hid hxc
                have B12 := Lib.hid b12
                have B13 := Lib.hid b13
                have B22 := Lib.hid b22
                clear b12 b13 b22 hxk hxm hxi hxb hxz hxe hxc hst HK HM HI
                go_wp2_with fail
                have hxd : Ext W W.drew := (Ext.refl W).drewN 1
                refine wp_region_mix (fun i => [3, 3, 0, 3, 3, 3, 0, 3, 3, 1, 1, 3, 2].getD i 0) (fun w' => Ext W w') hmo (by kernel_rfl) (by kernel_rfl) ((Ext.refl _).drewN 1) ?_
                refine mix_pure (.slice (some ad) n c) rfl (fun w' => by go_simp) ?_
                refine mix_pure (.pointer (some ⟨ad.block, ad.off + 12, none⟩)) rfl (fun w' => by go_simp; intro h; omega) ?_
                refine mix_still (.int .u8 (xk : Int)) rfl (fun w' hw' => by have := B12.out w' (HXW.out.trans hw'); go_simp) ?_
                refine mix_pure (.int .i64 (xk : Int)) rfl (fun w' => by go_simp) ?_
                refine mix_pure (.slice (some ad) n c) rfl (fun w' => by go_simp) ?_
                refine mix_pure (.pointer (some ⟨ad.block, ad.off + 13, none⟩)) rfl (fun w' => by go_simp; intro h; omega) ?_
                refine mix_still (.int .u8 (xm : Int)) rfl (fun w' hw' => by have := B13.out w' (HXW.out.trans hw'); go_simp) ?_
                refine mix_pure (.int .i64 (xm : Int)) rfl (fun w' => by go_simp) ?_
                refine mix_pure (.slice (some ad) n c) rfl (fun w' => by go_simp) ?_
                refine mix_call 161 #[.slice (some ad) n c, .int .i64 14, .int .i64 4] rfl (by go_simp) ?_
                refine (number_n 14 4 14 4 (some ad) n c b W.drew rfl rfl HN.out (HRB.out _ (HXW.out.trans hxd)) (by omega) (by decide) (by omega)).mono ?_
                rw [← HXB.out]
                rintro e w4 ⟨rfl, hw4⟩
                subst hw4
                refine ⟨_, rfl, hxd, ?_⟩
                refine mix_laid (.agg #[.int .i64 (xk : Int), .int .i64 (xm : Int), .int .i64 (xb : Int)]) W.drew rfl (by go_simp) hxd ?_
                refine mix_pure (.pointer (some ⟨g7, 8, none⟩)) rfl (fun w' => by go_simp) ?_
                have HHd := Lib.hid (HH.out.beyond hxd)
                obtain ⟨cells3, hc3⟩ : ∃ cs : Array Value, cs = #[.int .i64 (xk : Int), .int .i64 (xm : Int), .int .i64 (xb : Int)] := ⟨_, rfl⟩
                have hs3 : cells3.size = 3 := by rw [hc3]; rfl
                have ho3 : cells3.all (·.oneCell') = true := by rw [hc3]; simp [Value.oneCell']
                refine mix_store (W.drew.setRow g7 (seg (headC { zeroH with store := st }) 8 cells3.toList)) rfl (store_run 39 _ _ rfl g7 8 cells3 (by go_simp) (by rw [hc3]; go_simp) 43 (headC { zeroH with store := st }) HHd.out.box (by rw [hs3]; kernel_rfl) (by rw [hs3]; exact Nat.le_of_ble_eq_true rfl) ho3) ?_
                have hbk := setRow_blk W.drew g7 43 (headC { zeroH with store := st }) (seg (headC { zeroH with store := st }) 8 cells3.toList) HHd.out.box
                have htk := setRow_touch W.drew g7 (seg (headC { zeroH with store := st }) 8 cells3.toList)
                obtain ⟨W3, hW3⟩ : ∃ W3, W3 = W.drew.setRow g7 (seg (headC { zeroH with store := st }) 8 cells3.toList) := ⟨_, rfl⟩
                rw [← hW3] at hbk htk ⊢
                have hsg : seg (headC { zeroH with store := st }) 8 cells3.toList = headC { zeroH with store := st, k := xk, m := xm, blk := xb } := by rw [hc3]; rfl
                rw [hsg] at hbk
                have HH3 : Hid (Hdg w W3 g7 { zeroH with store := st, k := xk, m := xm, blk := xb }) := Lib.hid (HHd.out.store htk hbk)
                clear hbk htk hW3 hsg hs3 ho3 hc3 HHd HH HXW hxd
                refine mix_nil ?_
                go_simp
                have hcv := convert_n (w := W3) (ad := ad36) (xs := key) (L := nk) HKL.out (HR36.out.ext HH3.out.phd.ext) (c - 36)
                have f11 := HH3.out.box.frozen 11
                have c11 : W3.cell? ⟨g7, 11, none⟩ = some (.string (strB [])) := by rw [HH3.out.box.cell]; rfl
                have HH4 : Hid (Hdg w (W3.setCell ⟨g7, 11, none⟩ (.string (strB key))) g7 { zeroH with store := st, k := xk, m := xm, blk := xb, key := key }) := Lib.hid (HH3.out.put 11 _ (by simp [headC]))
                clear HH3
                go_wp2_with fail
                clear hcv f11 c11
                refine (number_n 18 4 18 4 (some ad) n c b _ rfl rfl HN.out (HRB.out _ HH4.out.phd.ext) (by omega) (by decide) (by omega)).mono ?_
                rw [← HXZ.out]
                rintro e W4 ⟨rfl, hw⟩
                have HH5 : Hid (Hdg w W4 g7 { zeroH with store := st, k := xk, m := xm, blk := xb, key := key }) := Lib.hid (hw ▸ HH4.out)
                clear hw HH4
                have f12 := HH5.out.box.frozen 12
                have c12 : W4.cell? ⟨g7, 12, none⟩ = some (.int .i64 0) := by rw [HH5.out.box.cell]; rfl
                have HH6 : Hid (Hdg w (W4.setCell ⟨g7, 12, none⟩ (.int .i64 (xz : Int))) g7 { zeroH with store := st, k := xk, m := xm, blk := xb, key := key, size := xz }) := Lib.hid (HH5.out.put 12 _ (by simp [headC]))
                have b22 := B22.out _ HH6.out.phd.ext
                have f13 := HH6.out.box.frozen 13
                have c13 : (W4.setCell ⟨g7, 12, none⟩ (.int .i64 (xz : Int))).cell? ⟨g7, 13, none⟩ = some (.int .i64 0) := by rw [HH6.out.box.cell]; rfl
                have HH7 : Hid (Hdg w ((W4.setCell ⟨g7, 12, none⟩ (.int .i64 (xz : Int))).setCell ⟨g7, 13, none⟩ (.int .i64 (xi : Int))) g7 { zeroH with store := st, k := xk, m := xm, blk := xb, key := key, size := xz, idx := xi }) := Lib.hid (HH6.out.put 13 _ (by simp [headC]))
                clear HH5 HH6
                go_wp2_with fail
                clear f12 c12 f13 c13 b22
                refine (number_n 23 4 23 4 (some ad) n c b _ rfl rfl HN.out (HRB.out _ HH7.out.phd.ext) (by omega) (by decide) (by omega)).mono ?_
                rw [← HXE.out]
                rintro e W5 ⟨rfl, hw⟩
                have HH8 : Hid (Hdg w W5 g7 { zeroH with store := st, k := xk, m := xm, blk := xb, key := key, size := xz, idx := xi }) := Lib.hid (hw ▸ HH7.out)
                clear hw HH7
                go_wp2_with fail
                refine (number_n 27 4 27 4 (some ad) n c b _ rfl rfl HN.out (HRB.out _ HH8.out.phd.ext) (by omega) (by decide) (by omega)).mono ?_
                rw [← HXC.out]
                rintro e W6 ⟨rfl, hw⟩
                have HH9 : Hid (Hdg w W6 g7 { zeroH with store := st, k := xk, m := xm, blk := xb, key := key, size := xz, idx := xi }) := Lib.hid (hw ▸ HH8.out)
                clear hw HH8
                obtain ⟨H, hH⟩ : ∃ H : HeadP, H = { store := st, k := xk, m := xm, blk := xb, key := key, size := xz, idx := xi, epoch := xe, count := xc } := ⟨_, rfl⟩
                have hsg : seg (headC { zeroH with store := st, k := xk, m := xm, blk := xb, key := key, size := xz, idx := xi }) 14 [.int .i64 (xe : Int), .int .i64 (xc : Int)] = headC H := by rw [hH]; rfl
                have HFH : Hid (headOfP b = H) := Lib.hid (by rw [hH]; exact HFIN.out)
                have bk : H.k ≤ 1000000 := by rw [hH]; show xk ≤ _; omega
                have bm : H.m ≤ 1000000 := by rw [hH]; show xm ≤ _; omega
                have bz : H.size ≤ 4294967296 := by rw [hH]; show xz ≤ _; omega
                have bi : H.idx ≤ 1000000 := by rw [hH]; show xi ≤ _; omega
                have be : H.epoch ≤ 1000000000000 := by rw [hH]; show xe ≤ _; omega
                have bc : H.count ≤ 1000000000000 := by rw [hH]; show xc ≤ _; omega
                have bl : H.key.length ≤ 1000000000000 := by rw [hH]; show key.length ≤ _; rw [HKL.out]; omega
                clear hH HFIN
                go_wp2_with (first | (refine wpList_store_at rfl 41 _ _ rfl g7 14 #[.int .i64 (xe : Int), .int .i64 (xc : Int)] rfl rfl 43 (headC { zeroH with store := st, k := xk, m := xm, blk := xb, key := key, size := xz, idx := xi }) HH9.out.box (by kernel_rfl) (Nat.le_refl 16) (by simp [Value.oneCell']) ?_; intro W7 k1 k2; rw [hsg] at k1) | (refine wpList_load_at rfl 43 _ rfl ⟨g7, 0, none⟩ rfl (headC H) _ k1.cells Try.underlying43 rfl (by kernel_rfl) ?_))
                have HHA := Lib.hid (HH9.out.store k2 k1)
                clear k1 k2 hsg HH9
                refine (rcheck_n H _ bk bm bz bi be bc bl).mono ?_
                rintro e W8 ⟨⟨z, rfl, hz0⟩, hx8⟩
                have HHB := Lib.hid (HHA.out.beyond hx8)
                clear hx8 HHA
                by_cases hz : z = 0
                · subst hz
                  have HP : Hid (parseHeadP b = some H) := Lib.hid (by rw [HFS2.out, HFH.out, if_pos (hz0.1 rfl)])
                  clear hz0
                  go_wp2_with (first | (refine wpList_load_at rfl 43 _ rfl ⟨g7, 0, none⟩ rfl (headC H) _ HHB.out.box.cells Try.underlying43 rfl (by kernel_rfl) ?_) | (refine wpList_store_at rfl 43 _ _ rfl w.heap.size 0 (headC H) rfl rfl 43 (headC zeroH) HHB.out.phd.res (by kernel_rfl) (Nat.le_refl 16) (headC_ones H) ?_; intro W9 k1 k2))
                  rw [seg_all (headC zeroH) (headC H) rfl] at k1
                  exact bodyPost_ret (results_cell2 Try.results107 _ W9 ⟨w.heap.size, 0, none⟩ (headC H) _ rfl k1.cells Try.underlying43 rfl (by kernel_rfl)) rfl ⟨.inl ⟨H, HP.out, rfl⟩, k2.extNew HHB.out.phd.ext (Nat.le_refl _)⟩
                · have HP : Hid (parseHeadP b = none) := Lib.hid (by rw [HFS2.out, HFH.out, if_neg (fun h => hz (hz0.2 h))])
                  have g1 : (z != 0) = true := by rw [bne_iff_ne]; exact hz
                  clear hz0
                  go_wp2_with (first | (refine wpList_load_at rfl 43 _ rfl ⟨w.heap.size + 1, 0, none⟩ rfl (headC zeroH) _ HHB.out.phd.zer.cells Try.underlying43 rfl (by kernel_rfl) ?_) | (refine wpList_store_at rfl 43 _ _ rfl w.heap.size 0 (headC zeroH) rfl rfl 43 (headC zeroH) HHB.out.phd.res (by kernel_rfl) (Nat.le_refl 16) (headC_ones zeroH) ?_; intro W9 k1 k2))
                  rw [zero_fill _ rfl] at k1
                  exact bodyPost_ret (results_cell2 Try.results107 _ W9 ⟨w.heap.size, 0, none⟩ (headC zeroH) _ rfl k1.cells Try.underlying43 rfl (by kernel_rfl)) rfl ⟨.inr ⟨HP.out, 81, by decide, rfl⟩, k2.extNew HHB.out.phd.ext (Nat.le_refl _)⟩
    · have HP : Hid (parseHeadP b = none) := Lib.hid (by rw [parseHeadP, if_neg (by rw [HN.out]; exact h36), if_pos fun e => hm (HM.out.1 e)])
      clear HM
      by_cases g0 : x0.val = 67
      · have e0 : ((x0.val : Int) != 67) = false := by rw [bne_eq_false_iff_eq]; omega
        by_cases g1 : x1.val = 82
        · have e1 : ((x1.val : Int) != 82) = false := by rw [bne_eq_false_iff_eq]; omega
          by_cases g2 : x2.val = 78
          · have e2 : ((x2.val : Int) != 78) = false := by rw [bne_eq_false_iff_eq]; omega
            have g3 : x3.val ≠ 2 := fun e => hm ⟨g0, g1, g2, e⟩
            have e3 : ((x3.val : Int) != 2) = true := by rw [bne_iff_ne]; omega
            clear hm g0 g1 g2 g3
            go_enter Try.func107, Try.ntmps107
            go_wp2_with (first | (refine wpList_load_at rfl 43 _ rfl ⟨w.heap.size + 1, 0, none⟩ rfl (headC zeroH) _ HPH.out.zer.cells Try.underlying43 rfl (by kernel_rfl) ?_) | (refine wpList_store_at rfl 43 _ _ rfl w.heap.size 0 (headC zeroH) rfl rfl 43 (headC zeroH) HPH.out.res (by kernel_rfl) (Nat.le_refl 16) (headC_ones zeroH) ?_; intro W9 k1 k2))
            rw [zero_fill _ rfl] at k1
            exact bodyPost_ret (results_cell2 Try.results107 _ W9 ⟨w.heap.size, 0, none⟩ (headC zeroH) _ rfl k1.cells Try.underlying43 rfl (by kernel_rfl)) rfl ⟨.inr ⟨HP.out, 80, by decide, rfl⟩, k2.extNew HPH.out.ext (Nat.le_refl _)⟩
          · have e2 : ((x2.val : Int) != 78) = true := by rw [bne_iff_ne]; omega
            clear hm g0 g1 g2
            go_enter Try.func107, Try.ntmps107
            go_wp2_with (first | (refine wpList_load_at rfl 43 _ rfl ⟨w.heap.size + 1, 0, none⟩ rfl (headC zeroH) _ HPH.out.zer.cells Try.underlying43 rfl (by kernel_rfl) ?_) | (refine wpList_store_at rfl 43 _ _ rfl w.heap.size 0 (headC zeroH) rfl rfl 43 (headC zeroH) HPH.out.res (by kernel_rfl) (Nat.le_refl 16) (headC_ones zeroH) ?_; intro W9 k1 k2))
            rw [zero_fill _ rfl] at k1
            exact bodyPost_ret (results_cell2 Try.results107 _ W9 ⟨w.heap.size, 0, none⟩ (headC zeroH) _ rfl k1.cells Try.underlying43 rfl (by kernel_rfl)) rfl ⟨.inr ⟨HP.out, 80, by decide, rfl⟩, k2.extNew HPH.out.ext (Nat.le_refl _)⟩
        · have e1 : ((x1.val : Int) != 82) = true := by rw [bne_iff_ne]; omega
          clear hm g0 g1
          go_enter Try.func107, Try.ntmps107
          go_wp2_with (first | (refine wpList_load_at rfl 43 _ rfl ⟨w.heap.size + 1, 0, none⟩ rfl (headC zeroH) _ HPH.out.zer.cells Try.underlying43 rfl (by kernel_rfl) ?_) | (refine wpList_store_at rfl 43 _ _ rfl w.heap.size 0 (headC zeroH) rfl rfl 43 (headC zeroH) HPH.out.res (by kernel_rfl) (Nat.le_refl 16) (headC_ones zeroH) ?_; intro W9 k1 k2))
          rw [zero_fill _ rfl] at k1
          exact bodyPost_ret (results_cell2 Try.results107 _ W9 ⟨w.heap.size, 0, none⟩ (headC zeroH) _ rfl k1.cells Try.underlying43 rfl (by kernel_rfl)) rfl ⟨.inr ⟨HP.out, 80, by decide, rfl⟩, k2.extNew HPH.out.ext (Nat.le_refl _)⟩
      · have e0 : ((x0.val : Int) != 67) = true := by rw [bne_iff_ne]; omega
        clear hm g0
        go_enter Try.func107, Try.ntmps107
        go_wp2_with (first | (refine wpList_load_at rfl 43 _ rfl ⟨w.heap.size + 1, 0, none⟩ rfl (headC zeroH) _ HPH.out.zer.cells Try.underlying43 rfl (by kernel_rfl) ?_) | (refine wpList_store_at rfl 43 _ _ rfl w.heap.size 0 (headC zeroH) rfl rfl 43 (headC zeroH) HPH.out.res (by kernel_rfl) (Nat.le_refl 16) (headC_ones zeroH) ?_; intro W9 k1 k2))
        rw [zero_fill _ rfl] at k1
        exact bodyPost_ret (results_cell2 Try.results107 _ W9 ⟨w.heap.size, 0, none⟩ (headC zeroH) _ rfl k1.cells Try.underlying43 rfl (by kernel_rfl)) rfl ⟨.inr ⟨HP.out, 80, by decide, rfl⟩, k2.extNew HPH.out.ext (Nat.le_refl _)⟩
end Go.Proofs.Ytdoeelfcihdmbaa
/-
  Layer 8, the reference: which blocks are spoilt.
-/
namespace Go.Proofs.Ytdoeelfcihdmbaa
open Go.RowKit Gf
set_option maxRecDepth 20000
set_option linter.unusedVariables false

theorem parse_magic {b : List E} {h : HeadP} (e : parseHeadP b = some h) : b.take 4 = magicP ∧ 40 + fld b 31 1 ≤ b.length := by
  unfold parseHeadP at e
  by_cases h1 : b.length < 36
  · rw [if_pos h1] at e; cases e
  rw [if_neg h1] at e
  by_cases h2 : b.take 4 ≠ magicP
  · rw [if_pos h2] at e; cases e
  rw [if_neg h2] at e
  by_cases h3 : fld b 32 4 ≠ crcS (b.take 32)
  · rw [if_pos h3] at e; cases e
  rw [if_neg h3] at e
  by_cases h4 : b.length < 40 + fld b 31 1
  · rw [if_pos h4] at e; cases e
  exact ⟨Classical.not_not.1 h2, by omega⟩
theorem le_fld {b : List E} {at_ n : Nat} (h : at_ + n ≤ b.length) : le n (fld b at_ n) = (b.drop at_).take n := by
  have := le_num ((b.drop at_).take n)
  rwa [List.length_take, List.length_drop, Nat.min_eq_left (by omega)] at this
theorem cat_take (b : List E) (i n m : Nat) : (b.drop i).take n ++ (b.drop (i + n)).take m = (b.drop i).take (n + m) := by
  rw [List.take_add, List.drop_drop]
/-- The fixed bytes are the first 32. -/
theorem fixedP_parse {b : List E} {h : HeadP} (e : parseHeadP b = some h) : fixedP h = b.take 32 := by
  obtain ⟨h1, rfl, h3, h4, h5⟩ := parseHead_some e
  obtain ⟨hm, hk⟩ := parse_magic e
  have hkl : (headOfP b).key.length = fld b 31 1 := by
    show ((b.drop 36).take (fld b 31 1)).length = _
    rw [List.length_take, List.length_drop]; omega
  rw [fixedP, hkl, ← hm]
  show b.take 4 ++ ((b.drop 4).take 8 ++ (le 1 (fld b 12 1) ++ (le 1 (fld b 13 1) ++ (le 4 (fld b 14 4) ++ (le 4 (fld b 18 4) ++ (le 1 (fld b 22 1) ++ (le 4 (fld b 23 4) ++ (le 4 (fld b 27 4) ++ le 1 (fld b 31 1))))))))) = _
  rw [le_fld (by omega), le_fld (by omega), le_fld (by omega), le_fld (by omega), le_fld (by omega), le_fld (by omega), le_fld (by omega), le_fld (by omega)]
  rw [cat_take b 27 4 1, cat_take b 23 4 5, cat_take b 22 1 9, cat_take b 18 4 10, cat_take b 14 4 14, cat_take b 13 1 18, cat_take b 12 1 19, cat_take b 4 8 20]
  have := cat_take b 0 4 28
  simpa using this
theorem sumP_parse {b : List E} {h : HeadP} (e : parseHeadP b = some h) : sumP h = crcS (b.take 32 ++ h.key) := by rw [sumP, fixedP_parse e]
namespace Grd
section
variable {P : Program} {ops : Array Oper} {C : World → Prop} {L : Nat → Nat} {Q : Act → World → Prop}
theorem mix_laid {k : Nat} {o : Oper} {rest : List Oper} {a : Act} {w : World} (u : Value) (w' : World) (hL : L k = 1) (hg : Region.wanted o (yielded ops a.tmps) = true) (hr : (execOp a.eval o).run P w = .ok (.value u) w') (hc : C w')
    (h : wpMix P ops C L Q (k + 1) rest (a.put o.dst u) w') : wpMix P ops C L Q k (o :: rest) a w :=
  ⟨hg, .inr ⟨by unfold isQ; omega, .inl ⟨u, w', hr, fun _ => hc, h⟩⟩⟩
end
end Grd
end Go.Proofs.Ytdoeelfcihdmbaa
/-
  Layer 8, the reference: which blocks are spoilt, the walk.
-/
namespace Go.Proofs.Ytdoeelfcihdmbaa
open Go.RowKit Gf
set_option maxRecDepth 20000
set_option linter.unusedVariables false

/-- What is known of the bad ones. -/
def Bads (w wr : World) (A : Option Addr) (m c : Nat) (ok : Bool) (j : Nat) : Prop := ∃ bad : List Nat, Own wr w.heap.size 3 (.slice A m c) (ints bad) ∧ bad.length = m ∧ m ≤ j ∧ (m = 0 ↔ ok = true)
theorem fld_drop2 (b : List E) (s x n : Nat) : fld (b.drop s) x n = fld b (s + x) n := by rw [fld, fld, List.drop_drop]
set_option maxHeartbeats 16000000 in
theorem rspoilt_n (A : Option Addr) (n c : Nat) (b : List E) (h : HeadP) (w : World) (hn : b.length = n) (hA : Rd w A (bs b)) (hc : n ≤ c) (hlen : n ≤ 100000000000) (hp : parseHeadP b = some h) (hL : n = lenP h) :
    Calls Try.prog 109 #[.slice A n c] w fun e w' => (∃ A' m c', e = .returned (.tuple #[.slice A' m c', .int .i64 0]) ∧ (m = 0 ↔ okF (sumP h) 0 (sizesP h.k h.blk h.size) (b.drop (40 + h.key.length)) = true)) ∧ Ext w w' := by
  have hmo : Try.prog.follows Departure.mixedOrders = true := by kernel_rfl
  have HPS := Lib.hid (parseHead_some hp)
  have HPP := Lib.hid hp
  obtain ⟨hs1, hs2, hs3, hs4, hs5, hs6, hs7, hs8⟩ := (parseHead_some hp).1.small
  have HN := Lib.hid hn
  have HA := Lib.hid hA
  obtain ⟨ns, hns⟩ : ∃ ns, ns = sizesP h.k h.blk h.size := ⟨_, rfl⟩
  obtain ⟨kl, hkl⟩ : ∃ kl, kl = h.key.length := ⟨_, rfl⟩
  have hkb : kl ≤ 255 := by omega
  have hnl : n = 40 + kl + sum4 ns := by rw [hL, lenP, hkl, hns]; rfl
  have HNL := Lib.hid hnl
  obtain ⟨q, hq⟩ : ∃ q, q = ns.length := ⟨_, rfl⟩
  have hql : q ≤ 4096 := by rw [hq, hns, sizesP_length]; exact (parseHead_some hp).1.2.2.2.2.1
  obtain ⟨sm, hsm⟩ : ∃ s, s = sumP h := ⟨_, rfl⟩
  have hsml : sm < 2 ^ 32 := by rw [hsm]; exact sumP_lt h
  obtain ⟨bb, hbb⟩ : ∃ bb, bb = b.drop (40 + kl) := ⟨_, rfl⟩
  have hsz := strB_size h.key
  rw [← hkl] at hsz
  rw [← hns, ← hkl, ← hsm, ← hbb]
  have HNS := Lib.hid hns
  have HKL := Lib.hid hkl
  have HQ := Lib.hid hq
  have HSM := Lib.hid hsm
  have HBB := Lib.hid hbb
  have i11 : (headC h)[11]? = some (.string (strB h.key)) := rfl
  have i12 : (headC h)[12]? = some (.int .i64 (h.size : Int)) := rfl
  have HNB : Hid (∀ x ∈ ns, x ≤ 65536) := Lib.hid fun x hx => Nat.le_trans (sizesP_le (k := h.k) (blk := h.blk) (size := h.size) (by have := (parseHead_some hp).1.1.1; have := (parseHead_some hp).1.1.2.1; omega) x (by rw [← hns]; exact hx)) (parseHead_some hp).1.1.2.2.2.2
  clear hn hA hp hL hns hkl hq hsm hbb hnl
  go_enter Try.func109, Try.ntmps109
  go_wp2_with fail
  refine (rparsehead_n A n c b _ HN.out HA.out hc hlen).mono ?_
  rintro e w1 ⟨ho, hx1⟩
  rcases ho with ⟨h', hph, rfl⟩ | ⟨hph, -⟩
  case inr => exact absurd (HPP.out.symm.trans hph) (by simp)
  obtain rfl : h = h' := Option.some.inj (HPP.out.symm.trans hph)
  have HX1 := Lib.hid hx1
  clear hph hx1
  go_wp2_with (first | (refine wpList_store_at rfl 43 _ _ rfl w1.heap.size 0 (headC h) rfl rfl 43 (headC zeroH) (Blk.new _ _ _) (by kernel_rfl) (Nat.le_refl 16) (headC_ones h) ?_; intro w2 k0 k2; have k1 : Blk w2 w1.heap.size 43 (headC h) := (seg_all (headC zeroH) (headC h) rfl) ▸ k0; have c12 := (k1.cell 12).trans i12) | (refine wpList_load_at rfl 39 _ rfl ⟨w1.heap.size, 8, none⟩ rfl (shapeC h) _ (k1.sub 8 (shapeC h) (shape_in h)) Try.underlying39 rfl (by kernel_rfl) ?_))
  obtain ⟨gh, hgh⟩ : ∃ g, g = w1.heap.size := ⟨_, rfl⟩
  have hX2 : Ext w w2 := k2.extNew (HX1.out.alloc _) HX1.out.le
  rw [← hgh] at k1 ⊢
  have HX2 := Lib.hid hX2
  have HH2 := Lib.hid k1
  clear k0 k1 k2 hX2 hgh HX1 c12
  refine (rsizes_n h.k h.m h.blk h.size _ (by omega) (by omega) (by omega)).mono ?_
  rintro e w3 ⟨⟨v, z, rfl, hz0, how⟩, hx⟩
  obtain rfl : z = 0 := hz0.2 ⟨HPS.out.1.1, HPS.out.1.size_⟩
  obtain ⟨A6, c6, rfl, hr, hc1, hc2, -⟩ := (how rfl).slice
  rw [← HNS.out] at hr hc1 ⊢
  rw [ints_length, ← HQ.out] at hc1 ⊢
  have HR := Lib.hid hr
  have HH3 := Lib.hid (HH2.out.below hx HH2.out.lt)
  have HX3 := Lib.hid (HX2.out.trans hx)
  clear how hr hx hz0 hc2 HH2 HX2
  go_wp2_with (refine wpList_load_at rfl 43 _ rfl ⟨gh, 0, none⟩ rfl (headC h) _ HH3.out.cells Try.underlying43 rfl (by kernel_rfl) ?_)
  refine (rheadsum_n h _ HPS.out.1 HPS.out.2.2.2.2).mono ?_
  rw [← HSM.out]
  rintro e w4 ⟨rfl, hx⟩
  have hh4 := HH3.out.below hx HH3.out.lt
  have c11 := (hh4.cell 11).trans i11
  have HX4 := Lib.hid (HX3.out.trans hx)
  have HR4 := Lib.hid (HR.out.ext hx)
  clear hx hh4 HH3 HX3 HR i11 i12
  go_wp2_with fail
  clear c11
  go_loopw [9, 10, 11] (fun at_ bd i wr => ∃ (j : Nat) (A1 : Option Addr) (m c1 : Nat), j ≤ q ∧ i = .int .i64 j ∧ at_ = .int .i64 ((40 + kl + sum4 (ns.take j) : Nat) : Int) ∧ bd = .slice A1 m c1 ∧ Bads w4 wr A1 m c1 (okF sm 0 (ns.take j) bb) j ∧ Ext w4 wr) (fun _ _ i _ => q - (intOf i).toNat)
  case atStart => exact ⟨0, none, 0, 0, by omega, rfl, by simp [sum4], rfl, ⟨[], Own.nil _ _ _, rfl, by omega, by simp [okF]⟩, Ext.refl _⟩
  case round =>
    obtain ⟨W, rfl⟩ : ∃ W, W = wr := ⟨_, rfl⟩
    obtain ⟨j, A1, m, c1, hj, rfl, rfl, rfl, hbd, hx⟩ := hrel
    by_cases hlt : j < q
    · have hjn : j < ns.length := by rw [← HQ.out]; exact hlt
      obtain ⟨x, hxx⟩ : ∃ x, x = ns[j] := ⟨_, rfl⟩
      obtain ⟨ad6, rfl, hc6⟩ := (HR4.out.ext hx).at_ (k := j) (u := .int .i64 (x : Int)) (by rw [ints_at, List.getElem?_eq_getElem hjn, hxx]; rfl)
      have hxb : x ≤ 65536 := HNB.out x (by rw [hxx]; exact List.getElem_mem hjn)
      have hsp := sum4_split ns j
      have hsd := sum4_drop ns j hjn
      rw [← hxx] at hsd
      obtain ⟨s, hs⟩ : ∃ s, s = 40 + kl + sum4 (ns.take j) := ⟨_, rfl⟩
      have hsn : s + x + 4 ≤ n := by have := HNL.out; omega
      have HS1 : Hid (40 + kl + sum4 (ns.take (j + 1)) = s + x + 4) := Lib.hid (by rw [take_snoc' _ j hjn, sum4_snoc, ← hxx, hs]; omega)
      rw [← hs]
      obtain ⟨blk, hblk⟩ : ∃ l, l = (b.drop s).take x := ⟨_, rfl⟩
      have HBL : Hid (blk.length = x) := Lib.hid (by rw [hblk, List.length_take, List.length_drop, HN.out]; omega)
      have hsl := fun w => slice_lh tyU8 oneU8 A n c s (s + x) .i64 .i64 (s : Int) ((s : Int) + (x : Int)) rfl (by omega) (by omega) (by omega) w
      obtain ⟨A7, hA7⟩ : ∃ A7, A7 = cutA A c s := ⟨_, rfl⟩
      rw [← hA7, show s + x - s = x by omega] at hsl
      have HR7 : Hid (Rd w A7 (bs blk)) := Lib.hid (by
        rw [hA7, hblk, bs_take, bs_drop]
        exact HA.out.piece (by rw [bs_length, HN.out]; omega) (by rw [bs_length, HN.out]; exact hc))
      obtain ⟨f, hf⟩ : ∃ f, f = fld b (s + x) 4 := ⟨_, rfl⟩
      obtain ⟨fs, hfs⟩ : ∃ f, f = frameSum sm j blk := ⟨_, rfl⟩
      have hr : ∃ r : Bool, ((f : Int) != (fs : Int)) = r := ⟨_, rfl⟩
      obtain ⟨r, hr⟩ := hr
      have HOK : Hid (okF sm 0 (ns.take (j + 1)) bb = (okF sm 0 (ns.take j) bb && !r)) := Lib.hid (by
        rw [take_snoc' _ j hjn, okF_snoc, List.length_take, Nat.min_eq_left (by omega), Nat.zero_add, ← hxx, HBB.out, List.drop_drop, ← hs, fld_drop2, ← hf, ← hblk, ← hfs, ← hr]
        congr 1
        by_cases e : f = fs
        · simp [e]
        · have : ((f : Int) != (fs : Int)) = true := by rw [bne_iff_ne]; omega
          rw [this]; simp [e])
      have HF := Lib.hid hf
      have HFS := Lib.hid hfs
      have HFT : Hid ([le 4 sm, le 4 j, blk].flatten = le 4 sm ++ (le 4 j ++ blk)) := Lib.hid (by simp)
      have HFL : Hid ((le 4 sm ++ (le 4 j ++ blk)).length = 8 + x) := Lib.hid (by rw [List.length_append, List.length_append, le_length, le_length, HBL.out]; omega)
      have HBD := Lib.hid hbd
      have HX := Lib.hid hx
      have HXX := Lib.hid (HX4.out.trans hx)
      have hgt : ¬ ((n : Int) < (s : Int) + (x : Int) + 4) := by omega
      clear hxx hsp hsd hs hblk hA7 hf hfs hbd hx
      go_wp2_with fail
      clear hc6
      have hxd : Ext W W.drew := (Ext.refl W).drewN 1
      refine Grd.wp_region_mix (fun i => [3, 3, 3, 3, 3, 3, 3, 3, 1, 3, 1, 3, 1, 3, 3, 3, 3, 1, 1, 1, 3, 3].getD i 0) (fun w' => Ext W w') hmo (by kernel_rfl) (by kernel_rfl) hxd ?_
      refine Grd.mix_pure (.int .i64 ((s : Int) + (x : Int))) rfl (by kernel_rfl) (fun w' => by go_simp) ?_
      have wr1 : IntKind.i64.wrap ((s : Int) + (x : Int) + 4) = (s : Int) + (x : Int) + 4 := by rw [IntKind.wrap_i64]; omega
      refine Grd.mix_pure (.int .i64 ((s : Int) + (x : Int) + 4)) rfl (by kernel_rfl) (fun w' => by go_simp) ?_
      refine Grd.mix_pure (.slice A n c) rfl (by kernel_rfl) (fun w' => by go_simp) ?_
      refine Grd.mix_pure (.int .i64 (n : Int)) rfl (by kernel_rfl) (fun w' => by go_simp) ?_
      refine Grd.mix_pure (.bool false) rfl (by kernel_rfl) (fun w' => by go_simp) ?_
      refine Grd.mix_pure (.bool false) rfl (by kernel_rfl) (fun w' => by go_simp) ?_
      refine Grd.mix_pure (.slice A n c) rfl (by kernel_rfl) (fun w' => by go_simp) ?_
      refine Grd.mix_pure (.int .i64 ((s : Int) + (x : Int))) rfl (by kernel_rfl) (fun w' => by go_simp) ?_
      refine Grd.mix_call 161 #[.slice A n c, .int .i64 ((s : Int) + (x : Int)), .int .i64 4] rfl (by kernel_rfl) (by go_simp) ?_
      refine (number_n ((s : Int) + (x : Int)) 4 (s + x) 4 A n c b W.drew (by omega) rfl HN.out (HA.out.ext (HXX.out.trans hxd)) (by omega) (by decide) (by omega)).mono ?_
      rw [← HF.out]
      rintro e w5 ⟨rfl, hw⟩
      subst hw
      refine ⟨_, rfl, hxd, ?_⟩
      refine Grd.mix_pure (.int .i64 (sm : Int)) rfl (by kernel_rfl) (fun w' => by go_simp) ?_
      refine Grd.mix_call 164 #[.int .i64 (sm : Int), .int .i64 4] rfl (by kernel_rfl) (by go_simp) ?_
      refine (low_n 4 sm 4 W.drew rfl hsml (by decide)).mono ?_
      rintro e w5 ⟨u5, rfl, ho5, hx5⟩
      refine ⟨_, rfl, hxd.trans hx5, ?_⟩
      refine Grd.mix_pure (.int .i64 (j : Int)) rfl (by kernel_rfl) (fun w' => by go_simp) ?_
      refine Grd.mix_call 164 #[.int .i64 (j : Int), .int .i64 4] rfl (by kernel_rfl) (by go_simp) ?_
      refine (low_n 4 j 4 w5 rfl (by omega) (by decide)).mono ?_
      rintro e w6 ⟨u6, rfl, ho6, hx6⟩
      refine ⟨_, rfl, (hxd.trans hx5).trans hx6, ?_⟩
      obtain ⟨Aa, ca, rfl, ra⟩ := own_row ho5
      obtain ⟨Ab, cb, rfl, rb⟩ := own_row ho6
      have hx56 : Ext W w6 := (hxd.trans hx5).trans hx6
      refine Grd.mix_pure (.slice A n c) rfl (by kernel_rfl) (fun w' => by go_simp) ?_
      refine Grd.mix_pure (.int .i64 (s : Int)) rfl (by kernel_rfl) (fun w' => by go_simp) ?_
      refine Grd.mix_pure (.int .i64 ((s : Int) + (x : Int))) rfl (by kernel_rfl) (fun w' => by go_simp) ?_
      refine Grd.mix_pure (.slice A7 x (c - s)) rfl (by kernel_rfl) (fun w' => by go_simp) ?_
      refine Grd.mix_laid (.slice (some ⟨w6.heap.size, 0, none⟩) 3 3) (w6.alloc (.cells #[.slice Aa (le 4 sm).length ca, .slice Ab (le 4 j).length cb, .slice A7 x (c - s)] 24)) rfl (by kernel_rfl) (by go_simp) (hx56.alloc _) ?_
      have hrr := rdRows_new (w := w6) (V := [.slice Aa (le 4 sm).length ca, .slice Ab (le 4 j).length cb, .slice A7 x (c - s)]) (rs := [le 4 sm, le 4 j, blk]) ⟨⟨Aa, ca, rfl, ra.ext hx6⟩, ⟨Ab, cb, rfl, rb⟩, ⟨A7, c - s, by rw [HBL.out], HR7.out.ext (HXX.out.trans hx56)⟩, trivial⟩ 24
      refine Grd.mix_call 111 #[.slice (some ⟨w6.heap.size, 0, none⟩) 3 3] rfl (by kernel_rfl) (by go_simp) ?_
      refine (join_n (some ⟨w6.heap.size, 0, none⟩) 3 3 [le 4 sm, le 4 j, blk] _ rfl hrr (by decide) (by rw [HFT.out, HFL.out]; omega)).mono ?_
      rw [HFT.out]
      rintro e w7 ⟨u7, rfl, ho7, hx7⟩
      obtain ⟨Ac, cc, rfl, rc⟩ := own_row ho7
      have hx67 : Ext W w7 := (hx56.alloc _).trans hx7
      refine ⟨_, rfl, hx67, ?_⟩
      refine Grd.mix_call 162 #[.slice Ac (le 4 sm ++ (le 4 j ++ blk)).length cc] rfl (by kernel_rfl) (by go_simp) ?_
      refine (rsum_n Ac _ cc _ w7 rfl rc (by rw [HFL.out]; omega)).mono ?_
      rintro e w8 ⟨rfl, hw⟩
      subst hw
      have hfe : crcS (le 4 sm ++ (le 4 j ++ blk)) = fs := HFS.out.symm
      rw [hfe]
      refine ⟨_, rfl, hx67, ?_⟩
      refine Grd.mix_pure (.bool r) rfl (by kernel_rfl) (fun w' => by go_simp) ?_
      refine Grd.mix_pure (.bool r) rfl (by kernel_rfl) (fun w' => by go_simp) ?_
      refine Grd.mix_nil ?_
      have HX7 := Lib.hid hx67
      clear hx67 hrr ho5 hx5 ho6 hx6 ho7 hx7 hx56 ra rb rc hsl hfe
      go_simp
      obtain ⟨bad, hbo, hbl, hmj, hmk⟩ := HBD.out
      cases r with
      | true =>
        have hbo7 : Own w7 w4.heap.size 3 (.slice A1 m c1) (ints bad) := hbo.ext HX7.out
        have HO7 := Lib.hid hbo7
        have hle : w4.heap.size ≤ w7.heap.size := (HX.out.trans HX7.out).le
        have hbd : ((ints bad).length + 1) * 8 ≤ 140737488355328 := by rw [ints_length, hbl]; omega
        have HMJ := Lib.hid hmj
        have HBLL := Lib.hid hbl
        clear hbo hbl hmj hmk hbo7
        go_wp2_with (at_builtin; refine wpList_push2 w7 eltInt rfl _ _ (by rfl) w4.heap.size (.slice A1 m c1) _ (by rfl) (by exact HO7.out) (.int .i64 (j : Int)) w7.heap.size rfl (by rfl) rfl hbd hle ?_)
        intro v9 w9 k1 k2 k3 k4
        obtain ⟨A9, n9, c9, rfl⟩ : ∃ A n c, v9 = Value.slice A n c := by obtain ⟨A, c, h⟩ := k1.anySlice; exact ⟨_, _, _, h⟩
        have hn9 : n9 = m + 1 := by rw [k1.len, List.length_append, ints_length, HBLL.out]; rfl
        subst hn9
        have HB9 : Hid (Bads w4 w9 A9 (m + 1) c9 (okF sm 0 (ns.take (j + 1)) bb) (j + 1)) := Lib.hid ⟨bad ++ [j], by rw [ints_take_snoc]; exact k1, by rw [List.length_append, HBLL.out]; rfl, by have := HMJ.out; omega, by rw [HOK.out]; simp⟩
        have HX9 : Hid (Ext w4 w9) := Lib.hid ((HX.out.trans HX7.out).below.trans k3)
        clear k1 k2 k3 k4
        go_wp2_with fail
        go_roundw
        case rel => exact ⟨j + 1, A9, m + 1, c9, by omega, by go_num, by rw [HS1.out]; go_num, rfl, HB9.out, HX9.out⟩
        case measure => simp [intOf]; omega
      | false =>
        have HB9 : Hid (Bads w4 w7 A1 m c1 (okF sm 0 (ns.take (j + 1)) bb) (j + 1)) := Lib.hid ⟨bad, hbo.ext HX7.out, hbl, by omega, by rw [HOK.out]; simpa using hmk⟩
        have HX9 : Hid (Ext w4 w7) := Lib.hid (HX.out.trans HX7.out)
        clear hbo hbl hmj hmk
        go_wp2_with fail
        go_roundw
        case rel => exact ⟨j + 1, A1, m, c1, by omega, by go_num, by rw [HS1.out]; go_num, rfl, HB9.out, HX9.out⟩
        case measure => simp [intOf]; omega
    · obtain rfl : q = j := by omega
      obtain ⟨bad, -, -, -, hm⟩ := hbd
      rw [List.take_of_length_le (by rw [HQ.out]; exact Nat.le_refl _)] at hm
      have HM := Lib.hid hm
      have HX := Lib.hid (HX4.out.trans hx)
      clear hx hm
      go_wp2_with fail
      go_ret2
      exact ⟨⟨A1, m, c1, rfl, HM.out⟩, HX.out⟩
end Go.Proofs.Ytdoeelfcihdmbaa
