/-
  Texts of mine, merged: StrpE StrpF TopA TopB TopC.
-/
import Derived.Test.YtdoeelfcihdmbaaG3
import Derived.Test.YtdoeelfcihdmbaaG7
import Derived.Test.YtdoeelfcihdmbaaG11
/-
  Layer 4 and 10: the word of rows, however long they are; the blocks while they are cut.
-/
namespace Go.Proofs.Ytdoeelfcihdmbaa
open Go.RowKit Gf
set_option maxRecDepth 20000
set_option linter.unusedVariables false

/-- Rows that may be read, in a list of the call's own. -/
structure EncA (w w' : World) (gw n cw : Nat) (V : List Value) (word : List (List E)) : Prop where
  ext : Ext w w'
  hg : w.heap.size ≤ gw
  list : Own w' w.heap.size 24 (.slice (some ⟨gw, 0, none⟩) n cw) V
  len : V.length = n
  rows : ∀ (i : Nat) (u : Value), V[i]? = some u → ∃ B cc, u = .slice B (word.getD i []).length cc ∧ Rd w' B (bs (word.getD i [])) ∧ (word.getD i []).length ≤ cc ∧ ∀ ad, B = some ad → ad.block ≠ gw ∧ w.heap.size ≤ ad.block
def EncAOut (n : Nat) (word : List (List E)) (w : World) (e : Ending) (w' : World) : Prop := ∃ gw cw V, e = .returned (.tuple #[.slice (some ⟨gw, 0, none⟩) n cw, .int .i64 0]) ∧ EncA w w' gw n cw V word
set_option maxHeartbeats 2000000 in
theorem encodeA_n (g k n : Nat) (C : Option Addr) (cb L : Nat) (data : List (List E)) (w : World) (hc : CodeAt w g k n) (hk : data.length = k) (hs : RdRows w C data) (hd : ∀ r ∈ data, r.length = L) (hk0 : 0 < k) (hkn : k ≤ n) (hn2 : n ≤ 255) (hk2 : k ≤ 255) (hL : L ≤ 1000000000) :
    Calls Try.prog 145 #[.pointer (some ⟨g, 0, none⟩), .slice C k cb] w (EncAOut n (encM k n L data) w) := by
  rcases Nat.eq_zero_or_pos L with hL0 | hL0
  · subst hL0
    have hword : ∀ i, (encM k n 0 data).getD i [] = [] := fun i => by
      rcases Nat.lt_or_ge i n with h | h
      · rw [List.getD_eq_getElem?_getD, List.getElem?_eq_getElem (by rw [encM_length]; exact h)]
        exact List.eq_nil_of_length_eq_zero (prodM_rows _ _ _ _ (List.getElem_mem _))
      · rw [List.getD_eq_getElem?_getD, List.getElem?_eq_none (by rw [encM_length]; exact h)]; rfl
    have HW := Lib.hid hword
    obtain ⟨A, c, hb, hr⟩ := hc.ex
    have h0 : w.cell? ⟨g, 0, none⟩ = some (.int .i64 (k : Int)) := hb.cell 0
    have h1 : w.cell? ⟨g, 1, none⟩ = some (.int .i64 (n : Int)) := hb.cell 1
    have HK := Lib.hid hk
    have HD := Lib.hid hd
    have HS := Lib.hid hs
    have HC := Lib.hid hc
    obtain ⟨cd, D0, e0, hC, hz0, -, -, -⟩ := hs.at_ (show 0 < data.length by rw [hk]; exact hk0)
    subst hC
    rw [add_zero', hd _ (List.getElem_mem _)] at hz0
    have hkk : ((k : Int) != (k : Int)) = false := by simp
    have hk0' : (0 : Int) < (k : Int) := by omega
    have hmk : ∀ w, (Instr.makeSlice 32 (.int .i64 (n : Int)) (.int .i64 (n : Int))).run Try.prog w = .ok (.slice (some ⟨w.heap.size, 0, none⟩) n n) (w.alloc (.cells (zrow (.slice none 0 0) n) 24)) := fun w => run_make_elt eltRowU8 _ _ n (by omega) w
    have hown : Own (w.alloc (.cells (zrow (.slice none 0 0) n) 24)) w.heap.size 24 (.slice (some ⟨w.heap.size, 0, none⟩) n n) (List.replicate n (.slice none 0 0)) := by
      have h1 := (Blk.new w 24 (zrow (.slice none 0 0) n)).own (B := w.heap.size) (n := n) (cap := n) (Nat.le_refl _) (Nat.le_refl _) (by simp only [maxLen]; omega) (zrow_size _ _)
      rw [zrow_list, List.take_of_length_le (by simp)] at h1
      exact h1
    have HOUT : Hid (EncA w (w.alloc (.cells (zrow (.slice none 0 0) n) 24)) w.heap.size n n (List.replicate n (.slice none 0 0)) (encM k n 0 data)) := Lib.hid ⟨(Ext.refl w).alloc _, Nat.le_refl _, hown, List.length_replicate, fun i u hi => by
      rw [List.getElem?_replicate] at hi
      split at hi
      · cases hi
        rw [hword i]
        exact ⟨none, 0, rfl, Rd.nil _ _, Nat.le_refl _, fun ad e => by cases e⟩
      · cases hi⟩
    clear hk hd hs hc hr hb hown hword
    go_enter Try.func145, Try.ntmps145
    go_wp2_with fail
    refine (none_n g k n w hk0 HC.out).mono ?_
    rintro e w' ⟨rfl, rfl⟩
    go_wp2_with fail
    refine (even_n (some cd) k cb 0 data w HK.out HS.out HD.out (by omega)).mono ?_
    rintro e w' ⟨rfl, rfl⟩
    go_wp2_with fail
    go_ret2
    exact ⟨_, _, _, rfl, HOUT.out⟩
  · refine (encode_n g k n C cb L data w hc hk hs hd hk0 hL0 hn2 hk2 hL).mono ?_
    rintro e w1 ⟨v, rfl, hv, hx⟩
    obtain ⟨V, o1, o2, o3, o4⟩ := hv
    rw [encM_length] at o2
    obtain ⟨gw, cw, rfl, h1, h2, -, -⟩ := o1.some_ (by intro e; rw [e] at o2; simp at o2; omega)
    rw [o2] at o1 ⊢
    refine ⟨gw, cw, V, rfl, hx, h1, o1, o2, fun i u hi => ?_⟩
    obtain ⟨B, cc, e1, e2, e3, -, e5⟩ := (o3 i u hi).slice
    rw [bs_length] at e1 e3
    refine ⟨B, cc, e1, e2, e3, fun ad ea => ⟨?_, (e5 ad ea).1⟩⟩
    rcases (o3 i u hi).types o1 (by decide) with h5 | h5
    · rw [e1, ea] at h5; cases h5
    · intro e5
      apply h5
      rw [e1, ea, ← e5]; rfl
/-- The blocks while they are cut: shard i. -/
structure Cutting (W0 wr w : World) (gs gw N cw i : Nat) (hd : HeadP) (bl : Nat → List (List E)) (cur : List (List E)) (Bi : Nat) (l : List (HeadP × Value)) (V : List Value) (R : Nat → List E) : Prop where
  touch : Touch (fun b => b = gs ∨ b = gw) W0 wr
  base : Ext w W0 ∧ w.heap.size ≤ gs ∧ w.heap.size ≤ gw ∧ gs < W0.heap.size ∧ gw < W0.heap.size ∧ gs ≠ gw ∧ W0.heap.size ≤ Bi ∧ Bi ≤ wr.heap.size
  shd : Shds wr gs l
  len : l.length = N
  list : Own wr w.heap.size 24 (.slice (some ⟨gw, 0, none⟩) N cw) V
  vlen : V.length = N
  rows : ∀ (j : Nat) (u : Value), V[j]? = some u → ∃ B cc, u = .slice B (R j).length cc ∧ Rd W0 B (bs (R j)) ∧ (R j).length ≤ cc ∧ ∀ ad, B = some ad → ad.block ≠ gs ∧ ad.block ≠ gw
  heads : ∀ (j : Nat) (p : HeadP × Value), l[j]? = some p → p.1 = withIdx hd j
  done : ∀ (j : Nat) (p : HeadP × Value), l[j]? = some p → j < i → Rows8 W0.heap.size wr p.2 (bl j) ∧ ∀ g, p.2.ownBlock = some g → g < Bi
  cur_ : ∀ p : HeadP × Value, l[i]? = some p → Rows8 Bi wr p.2 cur
  todo : ∀ (j : Nat) (p : HeadP × Value), l[j]? = some p → i < j → p.2 = .slice none 0 0
section
variable {W0 wr w : World} {gs gw N cw i Bi : Nat} {hd : HeadP} {bl : Nat → List (List E)} {cur : List (List E)} {l : List (HeadP × Value)} {V : List Value} {R : Nat → List E}
theorem Cutting.ext (h : Cutting W0 wr w gs gw N cw i hd bl cur Bi l V R) : Ext w wr :=
  h.base.1.below.trans (h.touch.below (fun k _ e => by rcases e with rfl | rfl; exact h.base.2.1; exact h.base.2.2.1) h.base.1.le)
theorem Rows8.mono {B B' : Nat} {w : World} {v : Value} {rs : List (List E)} (h : Rows8 B w v rs) (hB : B' ≤ B) : Rows8 B' w v rs := by
  obtain ⟨V, h1, h2, h3⟩ := h
  exact ⟨V, h1.mono hB, h2, fun i u hi => (h3 i u hi).mono hB⟩
theorem Rows8.touch {B : Nat} {w w' : World} {S : Nat → Prop} {v : Value} {rs : List (List E)} (h : Rows8 B w v rs) (ht : Touch S w w') (hS : ∀ g, g < w.heap.size → S g → g < B) : Rows8 B w' v rs := by
  obtain ⟨V, h1, h2, h3⟩ := h
  refine ⟨V, h1.touch ht fun g hg e => ?_, h2, fun i u hi => (h3 i u hi).touch ht fun g hg e => ?_⟩
  · obtain ⟨a, b⟩ := h1.lt g hg
    have := hS g b e; omega
  · obtain ⟨a, b⟩ := (h3 i u hi).lt g hg
    have := hS g b e; omega
/-- The next shard. -/
theorem Cutting.next (h : Cutting W0 wr w gs gw N cw i hd bl cur Bi l V R) (hc : cur = bl i) : Cutting W0 wr w gs gw N cw (i + 1) hd bl [] wr.heap.size l V R := by
  refine ⟨h.touch, ⟨h.base.1, h.base.2.1, h.base.2.2.1, h.base.2.2.2.1, h.base.2.2.2.2.1, h.base.2.2.2.2.2.1, h.touch.size, Nat.le_refl _⟩, h.shd, h.len, h.list, h.vlen, h.rows, h.heads, fun j p hj hi => ?_, fun p hp => ?_, fun j p hj hi => h.todo j p hj (by omega)⟩
  · rcases Nat.lt_or_ge j i with h1 | h1
    · have := h.base.2.2.2.2.2.2.2
      exact ⟨(h.done j p hj h1).1, fun g hg => by have := (h.done j p hj h1).2 g hg; omega⟩
    · obtain rfl : j = i := by omega
      have h2 := h.cur_ p hj
      rw [hc] at h2
      refine ⟨h2.mono h.base.2.2.2.2.2.2.1, fun g hg => ?_⟩
      obtain ⟨V, k1, -⟩ := h2
      exact (k1.lt g hg).2
  · rw [h.todo (i + 1) p hp (by omega)]
    exact Rows8.nil _ _
theorem Rows8.moved {B B2 : Nat} {w w2 : World} {v vi v2 : Value} {rs : List (List E)} {Vv : List Value} (h : Rows8 B w v rs) (hV : Own w B2 24 vi Vv) (hm : Moved w w2 vi v2) (hne : v.ownBlock = none ∨ v.ownBlock ≠ vi.ownBlock) : Rows8 B w2 v rs := by
  obtain ⟨V, h1, h2, h3⟩ := h
  exact ⟨V, h1.kept hm.grown hne, h2, fun i u hi => (h3 i u hi).kept hm.grown ((h3 i u hi).types hV (by decide))⟩
/-- One block more. -/
theorem Cutting.app {w1 w2 : World} {v v2 u : Value} {r : List E} {Vv : List Value} (h : Cutting W0 wr w gs gw N cw i hd bl cur Bi l V R) (hp : l[i]? = some (withIdx hd i, v)) (hV : Own wr Bi 24 v Vv) (hl : Vv.length = cur.length)
    (hr : ∀ (j : Nat) (u : Value), Vv[j]? = some u → Own wr Bi 5 u (bs (cur.getD j []))) (hx : Ext wr w1) (hu : Own w1 Bi 5 u (bs r)) (h2 : Own w2 Bi 24 v2 (Vv ++ [u])) (hm : Moved (w1.alloc (.cells #[u] 24)) w2 v v2) :
    Cutting W0 (w2.setCell ⟨gs, i * 17 + 16, none⟩ v2) w gs gw N cw i hd bl (cur ++ [r]) Bi (l.set i (withIdx hd i, v2)) V R := by
  obtain ⟨b1, b2, b3, b4, b5, b6, b7, b8⟩ := h.base
  have hxa : Ext wr (w1.alloc (.cells #[u] 24)) := hx.alloc _
  have hV1 := hV.ext hxa
  have hbm : Below W0.heap.size (w1.alloc (.cells #[u] 24)) w2 := hm.below (Nat.le_trans h.touch.size hxa.le) fun g hg => by have := (hV1.lt g hg).1; omega
  have hshd2 : Shds w2 gs l := hm.blkFar (h.shd.ext hxa) hV1 (by decide)
  have hil : i < l.length := (List.getElem?_eq_some_iff.1 hp).1
  have hvgw : ∀ g, v.ownBlock = some g → g ≠ gw ∧ Bi ≤ g := fun g hg => by have := (hV.lt g hg).1; exact ⟨by omega, this⟩
  have hlist2 : Own w2 w.heap.size 24 (.slice (some ⟨gw, 0, none⟩) N cw) V := (h.list.ext hxa).kept hm.grown (.inr fun e => (hvgw gw e.symm).1 rfl)
  have hcur := Rows8.hang hV hl hr hx hu h2 hm
  refine ⟨?_, ⟨b1, b2, b3, b4, b5, b6, b7, ?_⟩, hshd2.put hp (by decide) (by simp [shardC]), by rw [List.length_set]; exact h.len, hlist2.far (p := ⟨gs, i * 17 + 16, none⟩) (fun e => b6 (Option.some.inj e).symm) _, h.vlen, h.rows, fun j p hj => ?_, fun j p hj hji => ?_, fun p hp2 => ?_, fun j p hj hji => ?_⟩
  · have t2 : Touch (fun b => b = gs ∨ b = gw) W0 w2 := ⟨hbm.os.trans (hxa.os.trans h.touch.os), hbm.tape.trans (hxa.tape.trans h.touch.tape), hbm.output.trans (hxa.output.trans h.touch.output), Nat.le_trans h.touch.size (Nat.le_trans hxa.le hbm.size), fun k hk hn => (hbm.block k hk).trans ((hxa.block k (Nat.lt_of_lt_of_le hk h.touch.size)).trans (h.touch.block k hk hn))⟩
    exact t2.trans (touch_set (S := fun b => b = gs ∨ b = gw) w2 ⟨gs, i * 17 + 16, none⟩ v2 (.inl rfl))
  · have : (w2.setCell ⟨gs, i * 17 + 16, none⟩ v2).heap.size = w2.heap.size := by simp
    have := hxa.le
    have := hm.grown.size
    omega
  · by_cases e : j = i
    · subst e; rw [List.getElem?_set_self hil] at hj; cases hj; rfl
    · rw [List.getElem?_set_ne (fun h => e h.symm)] at hj; exact h.heads j p hj
  · have e : j ≠ i := by omega
    rw [List.getElem?_set_ne (fun h => e h.symm)] at hj
    obtain ⟨k1, k2⟩ := h.done j p hj hji
    refine ⟨?_, k2⟩
    have k3 := (k1.ext hxa).moved hV1 hm (by
      cases e5 : p.2.ownBlock with
      | none => exact .inl rfl
      | some g =>
        right
        intro e6
        have := k2 g e5
        have := (hvgw g e6.symm).2
        omega)
    exact k3.far hshd2 (by decide) (by decide) _ _
  · rw [List.getElem?_set_self hil] at hp2
    cases hp2
    exact hcur.far hshd2 (by decide) (by decide) _ _
  · have e : j ≠ i := by omega
    rw [List.getElem?_set_ne (fun h => e h.symm)] at hj
    exact h.todo j p hj hji
/-- The row is shorter by a block. -/
theorem Cutting.cutW {B : Option Addr} {m cc s : Nat} {R' : Nat → List E} (h : Cutting W0 wr w gs gw N cw i hd bl cur Bi l V R) (hi : V[i]? = some (.slice B m cc)) (hs : s ≤ m) (hm : m ≤ cc) (hR : R' i = (R i).drop s) (hR2 : ∀ j, j ≠ i → R' j = R j) :
    Cutting W0 (wr.setCell ⟨gw, i, none⟩ (.slice (cutA B cc s) (m - s) (cc - s))) w gs gw N cw i hd bl cur Bi l (V.set i (.slice (cutA B cc s) (m - s) (cc - s))) R' := by
  obtain ⟨b1, b2, b3, b4, b5, b6, b7, b8⟩ := h.base
  have hiV : i < V.length := (List.getElem?_eq_some_iff.1 hi).1
  have ht : Touch (fun b => b = gw) wr (wr.setCell ⟨gw, i, none⟩ (.slice (cutA B cc s) (m - s) (cc - s))) := touch_set (S := fun b => b = gw) wr ⟨gw, i, none⟩ _ rfl
  refine ⟨h.touch.trans (touch_set (S := fun b => b = gs ∨ b = gw) wr ⟨gw, i, none⟩ _ (.inr rfl)), ⟨b1, b2, b3, b4, b5, b6, b7, by simpa using b8⟩, Blk.far h.shd (p := ⟨gw, i, none⟩) b6 _, h.len, h.list.set i _, by rw [List.length_set]; exact h.vlen, fun j u hj => ?_, h.heads, fun j p hj hji => ?_, fun p hp => ?_, h.todo⟩
  · by_cases e : j = i
    · subst e
      rw [List.getElem?_set_self hiV] at hj
      cases hj
      obtain ⟨B', cc', h1, h2, h3, h4⟩ := h.rows j _ hi
      injection h1 with e1 e2 e3
      subst e1 e3
      have hl : (R' j).length = m - s := by rw [hR, List.length_drop, ← e2]
      refine ⟨cutA B cc s, cc - s, by rw [hl], ?_, by rw [hl]; omega, fun ad e => ?_⟩
      · rw [hR, bs_drop]
        exact h2.cutA (by rw [bs_length, ← e2]; exact hs) (by rw [bs_length, ← e2]; exact hm)
      · obtain ⟨a0, e0, e5⟩ := cutA_block e
        rw [← e5]; exact h4 a0 e0
    · rw [List.getElem?_set_ne (fun h => e h.symm)] at hj
      rw [hR2 j e]
      exact h.rows j u hj
  · exact ⟨(h.done j p hj hji).1.touch ht fun g _ e => by rw [e]; omega, (h.done j p hj hji).2⟩
  · exact (h.cur_ p hp).touch ht fun g _ e => by rw [e]; omega
end
end Go.Proofs.Ytdoeelfcihdmbaa
/-
  Layer 10: an object is split.
-/
namespace Go.Proofs.Ytdoeelfcihdmbaa
open Go.RowKit Gf
set_option maxRecDepth 20000
set_option linter.unusedVariables false

/-- The head of the shards of that many bytes. -/
def splH (h : HeadP) (n : Nat) : HeadP := { h with size := n, idx := 0 }
theorem headC_siz (h : HeadP) (n : Nat) : ((headC h).setIfInBounds 12 (.int .i64 (n : Int))).setIfInBounds 13 (.int .i64 0) = headC (splH h n) := by simp [headC, splH]
/-- What Split answers. -/
def SplitOut (h : HeadP) (data : List E) (w : World) (e : Ending) (w' : World) : Prop :=
  ((¬ okHead (splH h data.length) ∧ ∃ z : Int, z ≠ 0 ∧ e = .returned (.tuple #[.slice none 0 0, .int .i64 z])) ∨
    (okHead (splH h data.length) ∧ ∃ g l, e = .returned (.tuple #[.slice (some ⟨g, 0, none⟩) (h.k + h.m) (h.k + h.m), .int .i64 0]) ∧ l.length = h.k + h.m ∧ (∀ (i : Nat) (p : HeadP × Value), l[i]? = some p → p.1 = withIdx (splH h data.length) i) ∧
      w.heap.size ≤ g ∧ g < w'.heap.size ∧ Parts w' g (splH h data.length) (sizesP h.k h.blk data.length) (blocksP h.k (h.k + h.m) (sizesP h.k h.blk data.length) data) l ∧ Shds w' g l ∧
        ∀ (i : Nat) (p : HeadP × Value), l[i]? = some p → Rows8 w.heap.size w' p.2 (blocksP h.k (h.k + h.m) (sizesP h.k h.blk data.length) data i))) ∧ Ext w w'
theorem Rows8.rd {B : Nat} {w : World} {v : Value} {rs : List (List E)} (h : Rows8 B w v rs) : ∃ A c, v = .slice A rs.length c ∧ RdRows w A rs ∧ rs.length ≤ c := by
  obtain ⟨V, h1, h2, h3⟩ := h
  obtain ⟨A, c, rfl, k1, k2, -, -⟩ := h1.slice
  rw [h2] at k2 ⊢
  refine ⟨A, c, rfl, ⟨V, h2, k1, fun i r hi => ?_⟩, k2⟩
  have hl : i < V.length := by rw [h2]; exact (List.getElem?_eq_some_iff.1 hi).1
  have hr := h3 i V[i] (List.getElem?_eq_getElem hl)
  rw [List.getD_eq_getElem?_getD, hi, Option.getD_some] at hr
  obtain ⟨A', c', hv, k3, k4, k5, _⟩ := hr.slice
  rw [bs_length] at hv k4
  exact ⟨A', c', by rw [List.getElem?_eq_getElem hl, hv], k3, k4, k5⟩
/-- The shards while their heads are laid. -/
def lst (hd : HeadP) (N j : Nat) : List (HeadP × Value) := (List.range N).map fun i => if i < j then (withIdx hd i, .slice none 0 0) else (zeroH, .slice none 0 0)
theorem lst_length (hd : HeadP) (N j : Nat) : (lst hd N j).length = N := by simp [lst]
theorem lst_get (hd : HeadP) (N j i : Nat) (h : i < N) : (lst hd N j)[i]? = some (if i < j then (withIdx hd i, .slice none 0 0) else (zeroH, .slice none 0 0)) := by rw [lst, List.getElem?_map, List.getElem?_range h]; rfl
theorem lst_zero (hd : HeadP) (N : Nat) : lst hd N 0 = List.replicate N (zeroH, .slice none 0 0) := by
  apply List.ext_getElem?
  intro i
  by_cases h : i < N
  · rw [lst_get _ _ _ _ h, if_neg (by omega), List.getElem?_replicate, if_pos h]
  · rw [List.getElem?_eq_none (by rw [lst_length]; omega), List.getElem?_eq_none (by simp; omega)]
theorem lst_step (hd : HeadP) (N j : Nat) (h : j < N) (p : HeadP × Value) : ((lst hd N j).set j p).set j (withIdx hd j, .slice none 0 0) = lst hd N (j + 1) := by
  rw [List.set_set]
  apply List.ext_getElem?
  intro i
  by_cases e : i = j
  · subst e
    rw [List.getElem?_set_self (by rw [lst_length]; exact h), lst_get _ _ _ _ h, if_pos (by omega)]
  · rw [List.getElem?_set_ne (fun h => e h.symm)]
    by_cases h2 : i < N
    · rw [lst_get _ _ _ _ h2, lst_get _ _ _ _ h2, if_lt_succ e]
    · rw [List.getElem?_eq_none (by rw [lst_length]; omega), List.getElem?_eq_none (by rw [lst_length]; omega)]
theorem lst_full {hd : HeadP} {N t : Nat} {p : HeadP × Value} (hp : (lst hd N N)[t]? = some p) : p = (withIdx hd t, .slice none 0 0) := by
  have hlt : t < N := by have := (List.getElem?_eq_some_iff.1 hp).1; rwa [lst_length] at this
  rw [lst_get _ _ _ _ hlt, if_pos hlt] at hp
  exact (Option.some.inj hp).symm
theorem pad_seg (x : Nat) (d : List E) : seg (zrow (.int .u8 0) x) 0 (bs (d.take (min d.length x))) = (bs (padR x d)).toArray := by
  have h1 : d.take (min d.length x) = d.take x := by rw [List.take_eq_take_iff]; omega
  rw [h1, seg, List.take_zero, List.nil_append, Nat.zero_add, zrow_list, bs_length, List.length_take, List.drop_replicate, padR, bs_append]
  congr 2
  rw [bs, List.map_replicate, show x - min x d.length = x - d.length by omega]; rfl
set_option maxHeartbeats 32000000 in
theorem split_n (h : HeadP) (A : Option Addr) (n c : Nat) (data : List E) (w : World) (hn : data.length = n) (hA : Rd w A (bs data)) (hc : n ≤ c) (hcm : c ≤ maxLen) (hst : h.store.length = 8) (hk : h.k ≤ 1000000) (hm : h.m ≤ 1000000) (hn2 : n ≤ 4294967296) (he : h.epoch ≤ 1000000000000) (hct : h.count ≤ 1000000000000) (hkl : h.key.length ≤ 1000000000000) :
    Calls Try.prog 96 #[.agg (headC h), .slice A n c] w (SplitOut h data w) := by
  have hmo : Try.prog.follows Departure.mixedOrders = true := by kernel_rfl
  have HN := Lib.hid hn
  have HA := Lib.hid hA
  have HST := Lib.hid hst
  obtain ⟨hd, hhd⟩ : ∃ hd, hd = splH h n := ⟨_, rfl⟩
  have hX : ((headC h).setIfInBounds 12 (.int .i64 (n : Int))).setIfInBounds 13 (.int .i64 0) = headC hd := by rw [headC_siz, hhd]
  have hb3 : ∀ (X Y : Array Value) (e : X = Y), Blk (w.alloc (.cells X 43)) w.heap.size 43 Y := fun X Y e => by subst e; exact Blk.new _ _ _
  have hb2 := hb3 _ _ hX
  have hx2 : Ext w (w.alloc (.cells (((headC h).setIfInBounds 12 (.int .i64 (n : Int))).setIfInBounds 13 (.int .i64 0)) 43)) := (Ext.refl w).alloc _
  have H2 := Lib.hid (And.intro hb2 hx2)
  have HHD := Lib.hid hhd
  have ek : hd.k = h.k := by rw [hhd]; rfl
  have em : hd.m = h.m := by rw [hhd]; rfl
  have es : hd.size = n := by rw [hhd]; rfl
  have eb : hd.blk = h.blk := by rw [hhd]; rfl
  have HE := Lib.hid (And.intro ek (And.intro em (And.intro es eb)))
  have HBD : Hid (hd.k ≤ 1000000 ∧ hd.m ≤ 1000000 ∧ hd.size ≤ 4294967296 ∧ hd.idx ≤ 1000000 ∧ hd.epoch ≤ 1000000000000 ∧ hd.count ≤ 1000000000000 ∧ hd.key.length ≤ 1000000000000) := Lib.hid (by rw [hhd]; exact ⟨hk, hm, hn2, Nat.zero_le _, he, hct, hkl⟩)
  clear hn hA hst hb2 hb3 hX hx2 hhd ek em es eb
  go_enter Try.func96, Try.ntmps96
  go_wp2_with (refine wpList_load_at rfl 43 _ rfl ⟨w.heap.size, 0, none⟩ rfl (headC hd) _ H2.out.1.cells Try.underlying43 rfl (by kernel_rfl) ?_)
  refine (fcheck_n hd _ HBD.out.1 HBD.out.2.1 HBD.out.2.2.1 HBD.out.2.2.2.1 HBD.out.2.2.2.2.1 HBD.out.2.2.2.2.2.1 HBD.out.2.2.2.2.2.2).mono ?_
  rintro e w3 ⟨⟨z, rfl, hz⟩, hx3⟩
  have H3 := Lib.hid (And.intro (H2.out.1.below hx3 H2.out.1.lt) (H2.out.2.trans hx3))
  clear hx3 H2
  by_cases hz0 : z = 0
  case neg =>
    have hnot : ¬ okHead (splH h data.length) := by rw [HN.out, ← HHD.out]; exact fun e => hz0 (hz.2 e)
    have HNOT := Lib.hid (And.intro hnot hz0)
    have g1 : (z != 0) = true := by rw [bne_iff_ne]; exact hz0
    clear hz hz0 hnot
    go_wp2_with fail
    go_ret2
    exact ⟨.inl ⟨HNOT.out.1, z, HNOT.out.2, rfl⟩, H3.out.2⟩
  subst hz0
  have hok := hz.1 rfl
  obtain ⟨ns, hns⟩ : ∃ ns, ns = sizesP hd.k hd.blk hd.size := ⟨_, rfl⟩
  have hw0 : withIdx hd 0 = hd := by rw [HHD.out]; rfl
  have hO : ObjH hd ns := ⟨hw0.symm ▸ hok, by rw [HHD.out]; exact HST.out, hns⟩
  have HO := Lib.hid hO
  have HOK := Lib.hid hok
  have HNS := Lib.hid hns
  obtain ⟨s1, s2, s3, s4, s5, s6, -, -, -⟩ := hO.small
  have hmk2 : hd.m ≤ hd.k := hok.1.2.1
  have c8 : w3.cell? ⟨w.heap.size, 8, none⟩ = some (.int .i64 (hd.k : Int)) := H3.out.1.cell 8
  have c9 : w3.cell? ⟨w.heap.size, 9, none⟩ = some (.int .i64 (hd.m : Int)) := H3.out.1.cell 9
  clear hz hok hns hO hk hm he hct hkl hw0
  go_wp2_with fail
  clear c8 c9
  refine (new_n hd.k hd.m w3 s2 hmk2 s3).mono ?_
  rintro e w4 ⟨gc, rfl, hc4, hx4⟩
  have H4 := Lib.hid (And.intro (H3.out.1.below hx4 H3.out.1.lt) (And.intro (H3.out.2.trans hx4) hc4))
  have c12 : w4.cell? ⟨w.heap.size, 12, none⟩ = some (.int .i64 (hd.size : Int)) := H4.out.1.cell 12
  clear hx4 hc4 H3
  go_wp2_with (refine wpList_load_at rfl 39 _ rfl ⟨w.heap.size, 8, none⟩ rfl (shapeC hd) _ (H4.out.1.sub 8 (shapeC hd) (shape_in hd)) Try.underlying39 rfl (by kernel_rfl) ?_)
  clear c12
  refine (sizes_n hd.k hd.m hd.blk hd.size w4 HOK.out.1 HOK.out.size_).mono ?_
  rintro e w5 ⟨v5, rfl, ho5, hx5⟩
  rw [← HNS.out] at ho5
  obtain ⟨q, hq⟩ : ∃ q, q = ns.length := ⟨_, rfl⟩
  have hq4 : q ≤ 4096 := by rw [hq]; exact HO.out.sizes.2.1
  obtain ⟨A5, c5, rfl, hr5, -, -, -⟩ := ho5.slice
  rw [ints_length, ← hq] at ho5 ⊢
  obtain ⟨N, hN⟩ : ∃ N, N = hd.k + hd.m := ⟨_, rfl⟩
  have hNI : (hd.k : Int) + (hd.m : Int) = (N : Int) := by rw [hN]; omega
  have hN255 : N ≤ 255 := by omega
  have hNW : IntKind.i64.wrap (N : Int) = (N : Int) := by rw [IntKind.wrap_i64]; omega
  have HQ := Lib.hid (And.intro hq hN)
  have H5 := Lib.hid (And.intro (H4.out.1.below hx5 H4.out.1.lt) (And.intro (H4.out.2.1.trans hx5) (And.intro (H4.out.2.2.ext hx5) (ho5.mono H4.out.2.1.le))))
  have hmkS := make_shards N hN255
  have c8 : w5.cell? ⟨w.heap.size, 8, none⟩ = some (.int .i64 (hd.k : Int)) := H5.out.1.cell 8
  have c9 : w5.cell? ⟨w.heap.size, 9, none⟩ = some (.int .i64 (hd.m : Int)) := H5.out.1.cell 9
  clear hx5 ho5 hr5 H4 hq hN
  go_wp2_with fail
  clear hmkS c8 c9
  obtain ⟨gs, hgs⟩ : ∃ g, g = w5.heap.size := ⟨_, rfl⟩
  have HGS := Lib.hid hgs
  have HS0 : Hid (Shds (w5.alloc (.cells (flatS (List.replicate N (zeroH, .slice none 0 0))).toArray 50)) gs (lst hd N 0)) := Lib.hid (by rw [lst_zero, hgs]; exact Blk.new _ _ _)
  rw [← hgs]
  clear hgs
  go_loopw [63] (fun i wr => ∃ j : Nat, j ≤ N ∧ i = .int .i64 j ∧ Ext w5 wr ∧ Shds wr gs (lst hd N j)) (fun i _ => N - (intOf i).toNat)
  case atStart => exact ⟨0, by omega, rfl, (Ext.refl w5).alloc _, HS0.out⟩
  case round =>
    clear HS0
    obtain ⟨W, rfl⟩ : ∃ W, W = wr := ⟨_, rfl⟩
    obtain ⟨j, hj, rfl, hx, hS⟩ := hrel
    by_cases hlt : j < N
    · have hlj := lst_get hd N j j hlt
      rw [if_neg (Nat.lt_irrefl _)] at hlj
      have HS := Lib.hid (And.intro hS (And.intro hx (And.intro (H5.out.1.below hx H5.out.1.lt) hlj)))
      have hfit : j * 17 + 16 ≤ (flatS (lst hd N j)).toArray.size := by rw [List.size_toArray, flatS_length, lst_length]; omega
      have hjN : (j : Int) < (N : Int) := by omega
      clear hS hx hlj
      go_wp2_with (first | (refine wpList_load_at rfl 43 _ rfl ⟨w.heap.size, 0, none⟩ rfl (headC hd) _ HS.out.2.2.1.cells Try.underlying43 rfl (by kernel_rfl) ?_) | (refine wpList_store_at rfl 43 _ _ rfl gs (j * 17) (headC hd) rfl rfl 50 (flatS (lst hd N j)).toArray HS.out.1 (by kernel_rfl) hfit (headC_ones hd) ?_; intro w6 k0 k2; have hS6 := HS.out.1.head HS.out.2.2.2 k0; have hl6 : ((lst hd N j).set j (hd, .slice none 0 0))[j]? = some (hd, .slice none 0 0) := List.getElem?_set_self (by rw [lst_length]; exact hlt); have f6 := Blk.frozen hS6 (j * 17 + 13); have c6 : w6.cell? ⟨gs, j * 17 + 13, none⟩ = some (.int .i64 (hd.idx : Int)) := hS6.rd j _ hl6 13 _ rfl))
      have hS7 := hS6.put hl6 (p' := (withIdx hd j, .slice none 0 0)) (j := 13) (u := .int .i64 (j : Int)) (by decide) (by simp [shardC, withIdx])
      rw [lst_step hd N j hlt] at hS7
      have HF : Hid (Shds (w6.setCell ⟨gs, j * 17 + 13, none⟩ (.int .i64 (j : Int))) gs (lst hd N (j + 1)) ∧ Ext w5 (w6.setCell ⟨gs, j * 17 + 13, none⟩ (.int .i64 (j : Int)))) := Lib.hid ⟨hS7, (k2.extNew HS.out.2.1 (by rw [HGS.out]; exact Nat.le_refl _)).new (p := ⟨gs, j * 17 + 13, none⟩) (by rw [HGS.out]; exact Nat.le_refl _) _⟩
      clear hS6 hS7 hl6 f6 c6 k0 k2
      go_roundw
      case rel => exact ⟨j + 1, by omega, by go_num, HF.out.2, HF.out.1⟩
      case measure => simp [intOf]; omega
    · obtain rfl : j = N := by omega
      have HS := Lib.hid (And.intro hS (And.intro hx (And.intro (H5.out.1.below hx H5.out.1.lt) (H5.out.2.1.trans hx))))
      have hmkR : ∀ w, (Instr.makeSlice 32 (.int .i64 (hd.k : Int)) (.int .i64 (hd.k : Int))).run Try.prog w = .ok (.slice (some ⟨w.heap.size, 0, none⟩) hd.k hd.k) (w.alloc (.cells (zrow (.slice none 0 0) hd.k) 24)) := fun w => run_make_elt eltRowU8 _ _ hd.k (by omega) w
      have c8 : W.cell? ⟨w.heap.size, 8, none⟩ = some (.int .i64 (hd.k : Int)) := HS.out.2.2.1.cell 8
      clear hS hx hj hlt
      go_wp2_with fail
      clear hmkR c8
      have HP0 := Lib.hid (PSt.start W hd.k (fun _ => []) (fun _ => rfl) (by omega))
      have hsz := HO.out.sizes
      have HSZ := Lib.hid hsz
      clear hsz
      go_loopw [1, 84] (fun dv i wr => ∃ (s : Nat) (A' : Option Addr) (n' c' : Nat) (V : List Value) (R : Nat → List E), dv = .slice A' n' c' ∧ s ≤ q ∧ i = .int .i64 s ∧ Rd w A' (bs (data.drop (hd.k * (ns.take s).sum))) ∧ n' = n - hd.k * (ns.take s).sum ∧ n' ≤ c' ∧ c' ≤ maxLen ∧ PSt W wr hd.k V R ∧ ∀ t, t < hd.k → R t = rowP hd.k (ns.take s) data t) (fun _ i _ => q - (intOf i).toNat)
      case atStart => exact ⟨0, A, n, c, _, _, rfl, by omega, rfl, by simpa using HA.out, by simp, hc, hcm, HP0.out, fun t ht => rfl⟩
      case round =>
        clear HP0
        obtain ⟨W7, rfl⟩ : ∃ W, W = wr := ⟨_, rfl⟩
        obtain ⟨s, A1, n1, c1, V, R, rfl, hs, rfl, hrd, hn1, hc1, hcm1, hP, hR⟩ := hrel
        have hx57 : Ext w5 W7 := HS.out.2.1.trans hP.ext
        by_cases hlts : s < q
        · have hsn : s < ns.length := by rw [← HQ.out.1]; exact hlts
          obtain ⟨x, hx⟩ : ∃ x, x = ns[s] := ⟨_, rfl⟩
          obtain ⟨da, rfl, hca⟩ := (H5.out.2.2.2.ext hx57).rd.at_ (k := s) (u := .int .i64 (x : Int)) (by rw [ints_at, List.getElem?_eq_getElem hsn, hx]; rfl)
          have hxb : 1 ≤ x ∧ x ≤ 65536 := by rw [hx]; exact HSZ.out.1 _ (List.getElem_mem hsn)
          have c8 : W7.cell? ⟨w.heap.size, 8, none⟩ = some (.int .i64 (hd.k : Int)) := (H5.out.1.below hx57 H5.out.1.lt).cell 8
          have hsq : (s : Int) < (q : Int) := by omega
          obtain ⟨base, hbase⟩ : ∃ b, b = hd.k * (ns.take s).sum := ⟨_, rfl⟩
          rw [← hbase] at hrd hn1
          have HB := Lib.hid hbase
          have HXX := Lib.hid hx
          have HJ := Lib.hid (And.intro hrd (And.intro hn1 (And.intro hP hR)))
          clear hrd hn1 hP hR hbase hx hx57
          go_wp2_with fail
          clear c8 hca
          go_loopw [1, 91] (fun dv i wr => ∃ (i' : Nat) (A' : Option Addr) (n' c' : Nat) (V : List Value) (R : Nat → List E), dv = .slice A' n' c' ∧ i' ≤ hd.k ∧ i = .int .i64 i' ∧ Rd w A' (bs (data.drop (base + i' * x))) ∧ n' = n - (base + i' * x) ∧ n' ≤ c' ∧ c' ≤ maxLen ∧ PSt W wr hd.k V R ∧ ∀ t, t < hd.k → R t = if t < i' then rowP hd.k (ns.take (s + 1)) data t else rowP hd.k (ns.take s) data t) (fun _ i _ => hd.k - (intOf i).toNat)
          case atStart => exact ⟨0, A1, n1, c1, V, R, rfl, by omega, rfl, by simpa using HJ.out.1, by rw [Nat.zero_mul, Nat.add_zero]; exact HJ.out.2.1, hc1, hcm1, HJ.out.2.2.1, fun t ht => by rw [if_neg (by omega)]; exact HJ.out.2.2.2 t ht⟩
          case round =>
            clear HJ
            obtain ⟨W8, rfl⟩ : ∃ W, W = wr := ⟨_, rfl⟩
            obtain ⟨i, A2, n2, c2, V, R, rfl, hi, rfl, hrd, hn2', hc2, hcm2, hP, hR⟩ := hrel
            by_cases hlti : i < hd.k
            · obtain ⟨d, hd'⟩ : ∃ d, d = data.drop (base + i * x) := ⟨_, rfl⟩
              have hdl : d.length = n2 := by rw [hd', List.length_drop, HN.out]; exact hn2'.symm
              rw [← hd'] at hrd
              obtain ⟨p, hp⟩ : ∃ p, p = min n2 x := ⟨_, rfl⟩
              have hpI : (if x < n2 then (x : Int) else (n2 : Int)) = (p : Int) := by
                rw [hp]; split <;> omega
              have hmkx : ∀ w, (Instr.makeSlice 24 (.int .i64 (x : Int)) (.int .i64 (x : Int))).run Try.prog w = .ok (.slice (some ⟨w.heap.size, 0, none⟩) x x) (w.alloc (.cells (zrow (.int .u8 0) x) 5)) := fun w => run_make_elt eltU8 _ _ x (by omega) w
              have hpn : p ≤ n2 := by rw [hp]; exact Nat.min_le_left _ _
              have hslp := fun w => slice_h tyU8 oneU8 A2 n2 c2 p .i64 (p : Int) rfl (by omega) w
              have hsll := fun w => slice_l tyU8 oneU8 A2 n2 c2 p .i64 (p : Int) rfl hpn hc2 w
              obtain ⟨A3, hA3⟩ : ∃ A3, A3 = cutA A2 c2 p := ⟨_, rfl⟩
              rw [← hA3] at hsll
              have hx8 : Ext w W8 := HS.out.2.2.2.trans hP.ext
              obtain ⟨w11, hrun, hb11, ht11⟩ := copy_at (P := Try.prog) eltU8 3 (W8.alloc (.cells (zrow (.int .u8 0) x) 5)) (some ⟨W8.heap.size, 0, none⟩) W8.heap.size 0 x x A2 p c2 5 (zrow (.int .u8 0) x) (bs (d.take p)) (Blk.new _ _ _) (fun _ => rfl) (by rw [bs_length, List.length_take, hdl, hp]; show min (min n2 x) n2 = min (min n2 x) x; omega) (by rw [bs_take]; exact ((hrd.ext hx8).alloc _).take p) (by rw [bs_length, List.length_take, zrow_size, hdl, hp]; omega) (bs_ones _)
              have hcnt : (bs (d.take p)).length = p := by rw [bs_length, List.length_take, hdl]; omega
              rw [hcnt] at hrun
              rw [hp, ← hdl, pad_seg] at hb11
              have hx811 : Ext W8 w11 := ht11.extNew ((Ext.refl W8).alloc _) (Nat.le_refl _)
              have hrow : Own w11 W.heap.size 5 (.slice (some ⟨W8.heap.size, 0, none⟩) x x) (bs (padR x d)) := by
                have := hb11.own (B := W.heap.size) (n := x) (cap := x) hP.ext.le (Nat.le_refl _) (by unfold maxLen; omega) (by rw [List.size_toArray, bs_length, padR_length])
                rw [List.take_of_length_le (by rw [bs_length, padR_length]; exact Nat.le_refl _)] at this
                exact this
              have hP11 := hP.beyond hx811
              have hiV : i < V.length := by rw [hP11.len]; exact hlti
              obtain ⟨vi, hvi⟩ : ∃ v, V[i]? = some v := ⟨_, List.getElem?_eq_getElem hiV⟩
              have hvo := hP11.rows.own i vi hvi
              obtain ⟨Ai, ni, ci, rfl⟩ : ∃ A n c, vi = Value.slice A n c := by obtain ⟨A, c, h⟩ := hvo.anySlice; exact ⟨_, _, _, h⟩
              have c11 : w11.cell? ⟨W.heap.size, i, none⟩ = some (.slice Ai ni ci) := hP11.list.cell hvi
              have hRi := hR i hlti
              rw [if_neg (Nat.lt_irrefl _)] at hRi
              have hRl : (R i).length ≤ 1000000000 := by rw [hRi, rowP_length]; have := sum_split ns s; have := HSZ.out.2.2; omega
              have hbd : ((bs (R i)).length + x) * 1 ≤ 140737488355328 := by rw [bs_length]; omega
              have hBle := hP11.ext.le
              have HH := Lib.hid (And.intro hP11 (And.intro hvi (And.intro hR hRi)))
              have HD := Lib.hid (And.intro hd' (And.intro hdl (And.intro hp (And.intro hA3 (And.intro hrd hn2')))))
              have HROW := Lib.hid hrow
              have HVO := Lib.hid hvo
              have hik : (i : Int) < (hd.k : Int) := by omega
              clear hP hR hrd hn2' hd' hdl hp hA3 hx8 hb11 ht11 hcnt hx811 hrow hP11 hvi hvo hRi hRl
              go_wp2_with (at_builtin; first | refine wpList_copied rfl _ _ 24 rfl _ _ rfl rfl hrun ?_ | (refine wpList_app w11 eltU8 rfl _ _ (by rfl) W.heap.size (.slice Ai ni ci) (bs (R i)) (by rfl) (by exact HVO.out) (some ⟨W8.heap.size, 0, none⟩) x x (bs (padR x d)) (by rfl) HROW.out.rd (by rw [bs_length, padR_length]) (bs_ones _) hbd hBle ?_))
              intro v12 w12 ho12 hm12
              have hg := HH.out.1.grow HH.out.2.1 ho12 hm12
              have hl12 := HH.out.1.list.kept hm12.grown (HH.out.1.list.types HVO.out (by decide))
              have f12 := hl12.frozen i
              have c12 : w12.cell? ⟨W.heap.size, i, none⟩ = some (.slice Ai ni ci) := hl12.cell HH.out.2.1
              obtain ⟨Av, nv, cv, rfl⟩ : ∃ A n c, v12 = Value.slice A n c := by obtain ⟨A, c, h⟩ := ho12.anySlice; exact ⟨_, _, _, h⟩
              have HF : Hid (PSt W (w12.setCell ⟨W.heap.size, i, none⟩ (.slice Av nv cv)) hd.k (V.set i (.slice Av nv cv)) (updR R i (R i ++ padR x d)) ∧ ∀ t, t < hd.k → updR R i (R i ++ padR x d) t = if t < i + 1 then rowP hd.k (ns.take (s + 1)) data t else rowP hd.k (ns.take s) data t) := Lib.hid ⟨hg, fun t ht => by
                by_cases e : t = i
                · subst e
                  rw [updR_same, if_pos (by omega), rowP_one hsn HXX.out, ← HB.out, ← HD.out.1, HH.out.2.2.2]
                · rw [updR_other _ _ _ e, if_lt_succ e]; exact HH.out.2.2.1 t ht⟩
              have HNX : Hid (Rd w A3 (bs (data.drop (base + (i + 1) * x))) ∧ n2 - p = n - (base + (i + 1) * x)) := Lib.hid (by
                obtain ⟨d1, d2, d3, d4, d5, d6⟩ := HD.out
                have e1 : base + (i + 1) * x = base + i * x + x := by rw [Nat.add_mul, Nat.one_mul]; omega
                refine ⟨?_, by omega⟩
                have e2 : data.drop (base + (i + 1) * x) = d.drop p := by
                  rw [e1, ← List.drop_drop, ← d1, d3]
                  rcases Nat.le_total n2 x with h5 | h5
                  · rw [Nat.min_eq_left h5, List.drop_of_length_le (by omega), List.drop_of_length_le (by omega)]
                  · rw [Nat.min_eq_right h5]
                rw [e2, bs_drop, d4]
                exact d5.cutA (by rw [bs_length]; omega) (by rw [bs_length]; omega))
              clear hg hl12 ho12 hm12 hrun c11 hslp hsll hmkx hpI
              go_wp2_with fail
              go_roundw
              case rel => exact ⟨i + 1, A3, n2 - p, c2 - p, _, _, rfl, by omega, by go_num, HNX.out.1, HNX.out.2, by omega, by omega, HF.out.1, HF.out.2⟩
              case measure => simp [intOf]; omega
            · obtain rfl : i = hd.k := by omega
              have e1 : hd.k * (ns.take (s + 1)).sum = base + hd.k * x := by rw [sum_take_at ns s hsn, Nat.mul_add, ← HB.out, ← HXX.out]
              rw [← e1] at hrd hn2'
              have hRf : ∀ t, t < hd.k → R t = rowP hd.k (ns.take (s + 1)) data t := fun t ht => by rw [hR t ht, if_pos ht]
              have HFIN := Lib.hid (And.intro hrd (And.intro hn2' (And.intro hP hRf)))
              clear hrd hn2' hP hR e1 hRf
              go_wp2_with fail
              go_roundw
              case rel => exact ⟨s + 1, A2, n2, c2, V, R, rfl, by omega, by go_num, HFIN.out.1, HFIN.out.2.1, hc2, hcm2, HFIN.out.2.2.1, HFIN.out.2.2.2⟩
              case measure => simp [intOf]; omega
        · obtain rfl : q = s := by omega
          rw [List.take_of_length_le (by rw [HQ.out.1]; exact Nat.le_refl _)] at hR
          have hPc : PSt W W7 hd.k V (fun i => (rowsP hd.k ns data).getD i []) := hP.congr fun i hi => by
            rw [hR i hi, List.getD_eq_getElem?_getD, rowsP_get hi]; rfl
          obtain ⟨A9, c9, e9, hr9, hc9, -⟩ := (hPc.rowsOut (rowsP_length _ _ _)).rd
          injection e9 with e91 e92 e93
          subst e91 e93
          have hx57' := HS.out.2.1.trans hP.ext
          have hWW : W.heap.size ≤ W7.heap.size := hP.ext.le
          obtain ⟨word, hword⟩ : ∃ wd, wd = wordP hd.k j ns data := ⟨_, rfl⟩
          have hwe : encM hd.k j ns.sum (rowsP hd.k ns data) = word := by rw [hword]; rfl
          have HR9 := Lib.hid (And.intro hr9 (And.intro hx57' (And.intro hWW (And.intro hword hwe))))
          have HS2 := Lib.hid (HS.out.1.ext hP.ext)
          clear hrd hn1 hP hR hPc hr9 hc9 hx57 hx57' hWW hword hwe e92
          go_wp2_with fail
          refine (encodeA_n gc hd.k j (some ⟨W.heap.size, 0, none⟩) hd.k ns.sum (rowsP hd.k ns data) W7 (by rw [HQ.out.2]; exact H5.out.2.2.1.ext HR9.out.2.1) (rowsP_length _ _ _) HR9.out.1 rowsP_rows s1 (by have := HQ.out.2; omega) hN255 (by omega) HSZ.out.2.2).mono ?_
          rintro e w8 ⟨gw, cw, V8, rfl, hE⟩
          rw [HR9.out.2.2.2.2] at hE
          obtain ⟨R0, hR0⟩ : ∃ R0 : Nat → List E, R0 = fun i => word.getD i [] := ⟨_, rfl⟩
          obtain ⟨bl, hbl⟩ : ∃ bl : Nat → List (List E), bl = blocksP hd.k j ns data := ⟨_, rfl⟩
          have hgsW : gs < W.heap.size := Blk.lt HS.out.1
          have hgw8 := (hE.list.lt gw rfl).2
          have hgsw : gs < gw := by have := hE.hg; have := HR9.out.2.2.1; omega
          have hw58 : Ext w w8 := H5.out.2.1.trans (HR9.out.2.1.trans hE.ext)
          have hgs5 : w.heap.size ≤ gs := by rw [HGS.out]; exact H5.out.2.1.le
          have hcut : Cutting w8 w8 w gs gw j cw 0 hd bl [] w8.heap.size (lst hd j j) V8 R0 := by
            refine ⟨Touch.refl _, ⟨hw58, hgs5, by omega, by omega, hgw8, by omega, Nat.le_refl _, Nat.le_refl _⟩, HS2.out.ext hE.ext, lst_length _ _ _, hE.list.mono (by have := HR9.out.2.1.le; have := H5.out.2.1.le; omega), hE.len, fun t u hu => ?_, fun t p hp => ?_, fun t p hp ht => by omega, fun p hp => ?_, fun t p hp ht => ?_⟩
            · obtain ⟨B, cc, e1, e2, e3, e4⟩ := hE.rows t u hu
              rw [hR0]
              exact ⟨B, cc, e1, e2, e3, fun ad ea => ⟨by have := (e4 ad ea).2; have := HR9.out.2.2.1; omega, (e4 ad ea).1⟩⟩
            · rw [lst_full hp]
            · rw [lst_full hp]; exact Rows8.nil _ _
            · rw [lst_full hp]
          have HC := Lib.hid (And.intro hcut hR0)
          have HBL : Hid ((∀ i, i < j → bl i = cutP ns (word.getD i [])) ∧ (∀ i, i < j → (word.getD i []).length = ns.sum)) := Lib.hid ⟨fun i _ => by rw [hbl, HR9.out.2.2.2.1]; rfl, fun i hi => by rw [HR9.out.2.2.2.1]; exact wordP_getD_length hi⟩
          have HBE := Lib.hid hbl
          have HX58 := Lib.hid (HR9.out.2.1.trans hE.ext)
          have HGW : Hid (w5.heap.size ≤ gw) := Lib.hid (by have := hE.hg; have := HR9.out.2.1.le; omega)
          clear hE hR0 hgsW hgw8 hgsw hw58 hgs5 hcut hbl
          go_wp2_with fail
          clear HS HS2 HR9
          go_loopw [125] (fun i wr => ∃ (i' Bi : Nat) (l : List (HeadP × Value)) (V : List Value) (R : Nat → List E), i' ≤ j ∧ i = .int .i64 i' ∧ Cutting w8 wr w gs gw j cw i' hd bl [] Bi l V R ∧ ∀ t, i' ≤ t → t < j → R t = word.getD t []) (fun i _ => j - (intOf i).toNat)
          case atStart => exact ⟨0, _, _, _, _, by omega, rfl, HC.out.1, fun t _ _ => by rw [HC.out.2]⟩
          case round =>
            clear HC
            obtain ⟨W9, rfl⟩ : ∃ W, W = wr := ⟨_, rfl⟩
            obtain ⟨i, Bi, l, V, R, hi, rfl, hcut, hR⟩ := hrel
            by_cases hlti : i < j
            · have HC := Lib.hid (And.intro hcut hR)
              have hij : (i : Int) < (j : Int) := by omega
              clear hcut hR
              go_wp2_with fail
              go_loopw [130] (fun s wr => ∃ (s' : Nat) (l : List (HeadP × Value)) (V : List Value) (R : Nat → List E), s' ≤ q ∧ s = .int .i64 s' ∧ Cutting w8 wr w gs gw j cw i hd bl (cutP (ns.take s') (word.getD i [])) Bi l V R ∧ R i = (word.getD i []).drop (ns.take s').sum ∧ ∀ t, i < t → t < j → R t = word.getD t []) (fun s _ => q - (intOf s).toNat)
              case atStart => exact ⟨0, l, V, R, by omega, rfl, HC.out.1, by rw [HC.out.2 i (Nat.le_refl _) hlti]; rfl, fun t h1 h2 => HC.out.2 t (by omega) h2⟩
              case round =>
                clear HC
                obtain ⟨Wa, rfl⟩ : ∃ W, W = wr := ⟨_, rfl⟩
                obtain ⟨s, l, V, R, hs, rfl, hcut, hRi, hR⟩ := hrel
                by_cases hlts : s < q
                · have hsn : s < ns.length := by rw [← HQ.out.1]; exact hlts
                  obtain ⟨x, hx⟩ : ∃ x, x = ns[s] := ⟨_, rfl⟩
                  have hx5a : Ext w5 Wa := HX58.out.below.trans (hcut.touch.below (fun k _ e => by
                    rcases e with rfl | rfl
                    · rw [HGS.out]; exact Nat.le_refl _
                    · exact HGW.out) HX58.out.le)
                  obtain ⟨da, rfl, hca⟩ := (H5.out.2.2.2.ext hx5a).rd.at_ (k := s) (u := .int .i64 (x : Int)) (by rw [ints_at, List.getElem?_eq_getElem hsn, hx]; rfl)
                  have hxb : 1 ≤ x ∧ x ≤ 65536 := by rw [hx]; exact HSZ.out.1 _ (List.getElem_mem hsn)
                  have hiV : i < V.length := by rw [hcut.vlen]; exact hlti
                  obtain ⟨B, cc, hVi, hrB, hccB, hneB⟩ := hcut.rows i V[i] (List.getElem?_eq_getElem hiV)
                  obtain ⟨m, hm⟩ : ∃ m, m = (R i).length := ⟨_, rfl⟩
                  have hms : m = x + (ns.drop (s + 1)).sum := by
                    have h1 := sum_split ns s
                    have h2 := sum_drop_at ns s hsn
                    rw [hm, hRi, List.length_drop, HBL.out.2 i hlti]; omega
                  have hxm : x ≤ m := by omega
                  rw [← hm] at hVi hccB
                  have hVi' : V[i]? = some (.slice B m cc) := by rw [List.getElem?_eq_getElem hiV, hVi]
                  have hil : i < l.length := by rw [hcut.len]; exact hlti
                  obtain ⟨pp, hpp⟩ : ∃ p, l[i]? = some p := ⟨_, List.getElem?_eq_getElem hil⟩
                  obtain ⟨h0, v0⟩ := pp
                  obtain rfl : h0 = withIdx hd i := hcut.heads i _ hpp
                  obtain ⟨Vv, hV, hVl, hVr⟩ := hcut.cur_ _ hpp
                  obtain ⟨Av, nv, cv, rfl⟩ : ∃ A n c, v0 = Value.slice A n c := by obtain ⟨A, c, h⟩ := hV.anySlice; exact ⟨_, _, _, h⟩
                  simp only at hV hVl hVr
                  have hvl : Vv.length = s := by rw [hVl, cutP_length, List.length_take]; omega
                  obtain ⟨blk, hblk⟩ : ∃ b, b = (R i).take x := ⟨_, rfl⟩
                  have hbl : blk.length = x := by rw [hblk, List.length_take, ← hm]; omega
                  have hne2 : ∀ ad, B = some ad → ¬ (ad.block = gs ∨ ad.block = gw) := fun ad e he => he.elim (hneB ad e).1 (hneB ad e).2
                  have hrdB : Rd Wa B (bs blk) := by rw [hblk, bs_take]; exact (hrB.touch hcut.touch hne2).take x
                  have hslx := fun w => slice_h tyU8 oneU8 B m cc x .i64 (x : Int) rfl (by omega) w
                  have hsll := fun w => slice_l tyU8 oneU8 B m cc x .i64 (x : Int) rfl hxm hccB w
                  have k16 : ∀ w', Ext Wa w' → w'.cell? ⟨gs, i * 17 + 16, none⟩ = some (.slice Av nv cv) := fun w' hx => (hcut.shd.ext hx).rd i _ hpp 16 _ rfl
                  have kgw : ∀ w', Ext Wa w' → w'.cell? ⟨gw, i, none⟩ = some (.slice B m cc) := fun w' hx => (hcut.list.ext hx).cell hVi'
                  have hcsn : cutP (ns.take (s + 1)) (word.getD i []) = cutP (ns.take s) (word.getD i []) ++ [blk] := by
                    rw [take_snoc' _ s hsn, cutP_snoc, hblk, hRi, hx]
                  have HK := Lib.hid (And.intro hcut (And.intro hVi' (And.intro hpp (And.intro hV (And.intro hVl (And.intro hVr hR))))))
                  have HB1 := Lib.hid (And.intro hbl (And.intro hrdB (And.intro hcsn (And.intro hvl (And.intro hccB (And.intro hRi hx))))))
                  have hij2 : (i : Int) < (j : Int) := by omega
                  have hsq : (s : Int) < (q : Int) := by omega
                  clear hcut hRi hR hx hx5a hVi hrB hneB hne2 hm hms hVi' hpp hV hVl hVr hblk hbl hrdB hcsn hvl
                  go_wp2_with fail
                  obtain ⟨Wb, hWb⟩ : ∃ Wb, Wb = Wa.drew := ⟨_, rfl⟩
                  have hxab : Ext Wa Wb := by rw [hWb]; exact (Ext.refl Wa).drewN 1
                  refine wp_region_mix (fun i => [3, 3, 3, 3, 3, 3, 0, 3, 3, 3, 0, 3, 3, 1, 1, 2, 3, 3, 2].getD i 0) (fun w' => Ext Wa w') hmo (by kernel_rfl) (by kernel_rfl) ((Ext.refl Wa).drewN 1) ?_
                  rw [← hWb]
                  clear hWb hca
                  refine mix_pure (.slice (some ⟨gs, 0, none⟩) j j) rfl (fun w' => by go_simp) ?_
                  refine mix_pure (.int .i64 (i : Int)) rfl (fun w' => by go_simp) ?_
                  refine mix_pure (.slice (some ⟨gs, 0, none⟩) j j) rfl (fun w' => by go_simp) ?_
                  refine mix_pure (.int .i64 (i : Int)) rfl (fun w' => by go_simp) ?_
                  refine mix_pure (.pointer (some ⟨gs, i * 17, none⟩)) rfl (fun w' => by go_simp) ?_
                  refine mix_pure (.pointer (some ⟨gs, i * 17 + 16, none⟩)) rfl (fun w' => by go_simp) ?_
                  refine mix_still (.slice Av nv cv) rfl (fun w' hw' => by have := k16 w' hw'; go_simp) ?_
                  refine mix_pure (.slice (some ⟨gw, 0, none⟩) j cw) rfl (fun w' => by go_simp) ?_
                  refine mix_pure (.int .i64 (i : Int)) rfl (fun w' => by go_simp) ?_
                  refine mix_pure (.pointer (some ⟨gw, i, none⟩)) rfl (fun w' => by go_simp) ?_
                  refine mix_still (.slice B m cc) rfl (fun w' hw' => by have := kgw w' hw'; go_simp) ?_
                  refine mix_pure (.int .i64 (x : Int)) rfl (fun w' => by go_simp) ?_
                  refine mix_pure (.slice B x cc) rfl (fun w' => by have := hslx w'; go_simp) ?_
                  refine mix_call 115 #[.slice B x cc] rfl (by go_simp) ?_
                  refine (bclone_n B x cc blk _ HB1.out.1 (HB1.out.2.1.ext hxab) (by omega)).mono ?_
                  rintro e w1 ⟨u, rfl, hu, hxu⟩
                  obtain ⟨Au, nu, cu, rfl⟩ : ∃ A n c, u = Value.slice A n c := by obtain ⟨A, c, h⟩ := hu.anySlice; exact ⟨_, _, _, h⟩
                  have hx1 : Ext Wa w1 := hxab.trans hxu
                  refine ⟨_, rfl, hx1, ?_⟩
                  refine mix_laid (.slice (some ⟨w1.heap.size, 0, none⟩) 1 1) (w1.alloc (.cells #[.slice Au nu cu] 24)) rfl (by go_simp) (hx1.alloc _) ?_
                  have hBi : Bi ≤ Wb.heap.size := Nat.le_trans HK.out.1.base.2.2.2.2.2.2.2 hxab.le
                  have hu' : Own w1 Bi 5 (.slice Au nu cu) (bs blk) := hu.mono hBi
                  have hbd : (Vv.length + 1) * 24 ≤ 140737488355328 := by rw [HB1.out.2.2.2.1]; omega
                  obtain ⟨v2, w2, hrun, h2, h3, -⟩ := run_app2 (P := Try.prog) (w1.alloc (.cells #[.slice Au nu cu] 24)) eltRowU8 32 Bi (.slice Av nv cv) Vv ((HK.out.2.2.2.1.ext hx1).alloc _) (some ⟨w1.heap.size, 0, none⟩) 1 1 [.slice Au nu cu] (rd_new w1 _ _) rfl (by simp [Value.oneCell']) hbd (by have := hxu.le; simp; omega)
                  obtain ⟨Aw, nw, cwn, rfl⟩ : ∃ A n c, v2 = Value.slice A n c := by obtain ⟨A, c, h⟩ := h2.anySlice; exact ⟨_, _, _, h⟩
                  refine mix_last (.slice Aw nw cwn) w2 rfl (append_run (by rfl) (by go_simp) (by go_simp) hrun) ?_
                  refine mix_pure (.pointer (some ⟨gs, i * 17, none⟩)) rfl (fun w' => by go_simp) ?_
                  refine mix_pure (.pointer (some ⟨gs, i * 17 + 16, none⟩)) rfl (fun w' => by go_simp) ?_
                  have hA := HK.out.1.app HK.out.2.2.1 HK.out.2.2.2.1 HK.out.2.2.2.2.1 HK.out.2.2.2.2.2.1 hx1 hu' h2 h3
                  have hb2 : Shds w2 gs l := h3.blkFar (HK.out.1.shd.ext (hx1.alloc _)) (HK.out.2.2.2.1.ext (hx1.alloc _)) (by decide)
                  have f16 := Blk.frozen hb2 (i * 17 + 16)
                  have c16 : w2.cell? ⟨gs, i * 17 + 16, none⟩ = some (.slice Av nv cv) := hb2.rd i _ HK.out.2.2.1 16 _ rfl
                  obtain ⟨WF, hWF⟩ : ∃ WF, WF = w2.setCell ⟨gs, i * 17 + 16, none⟩ (.slice Aw nw cwn) := ⟨_, rfl⟩
                  rw [← hWF] at hA
                  have HA2 := Lib.hid hA
                  have HRUN := Lib.hid hrun
                  clear hA hb2 hrun h2 h3 hbd hu' hBi hu hxu hxab hx1
                  refine mix_store WF rfl (by rw [hWF]; go_simp) ?_
                  clear hWF f16 c16 HRUN k16 kgw hslx
                  refine mix_nil ?_
                  have cF : WF.cell? ⟨gw, i, none⟩ = some (.slice B m cc) := HA2.out.list.cell HK.out.2.1
                  have fF := HA2.out.list.frozen i
                  obtain ⟨R', hR'⟩ : ∃ R' : Nat → List E, R' = fun t => if t = i then (R i).drop x else R t := ⟨_, rfl⟩
                  have hCW := HA2.out.cutW (s := x) (R' := R') HK.out.2.1 hxm HB1.out.2.2.2.2.1 (by rw [hR']; simp) (fun t ht => by rw [hR']; simp [ht])
                  obtain ⟨D, hD⟩ : ∃ D, D = cutA B cc x := ⟨_, rfl⟩
                  rw [← hD] at hsll hCW
                  rw [← HB1.out.2.2.1] at hCW
                  have HFIN : Hid (Cutting w8 (WF.setCell ⟨gw, i, none⟩ (.slice D (m - x) (cc - x))) w gs gw j cw i hd bl (cutP (ns.take (s + 1)) (word.getD i [])) Bi (l.set i (withIdx hd i, .slice Aw nw cwn)) (V.set i (.slice D (m - x) (cc - x))) R' ∧ R' i = (word.getD i []).drop (ns.take (s + 1)).sum ∧ ∀ t, i < t → t < j → R' t = word.getD t []) := Lib.hid ⟨hCW, by
                    rw [hR']
                    simp only [if_pos trivial]
                    rw [HB1.out.2.2.2.2.2.1, List.drop_drop, sum_take_at ns s hsn, HB1.out.2.2.2.2.2.2], fun t h1 h2 => by
                    rw [hR']
                    simp only [if_neg (show ¬ t = i by omega)]
                    exact HK.out.2.2.2.2.2.2 t h1 h2⟩
                  clear hCW hD hR' HA2
                  go_simp
                  go_wp2_with fail
                  go_roundw
                  case rel => exact ⟨s + 1, _, _, R', by omega, by go_num, HFIN.out.1, HFIN.out.2.1, HFIN.out.2.2⟩
                  case measure => simp [intOf]; omega
                · obtain rfl : s = q := by omega
                  rw [List.take_of_length_le (by rw [HQ.out.1]; exact Nat.le_refl _), ← HBL.out.1 i hlti] at hcut
                  have HN2 := Lib.hid (And.intro (hcut.next rfl) hR)
                  clear hcut hRi hR
                  go_wp2_with fail
                  go_roundw
                  case rel => exact ⟨i + 1, _, l, V, R, by omega, by go_num, HN2.out.1, fun t h1 h2 => HN2.out.2 t (by omega) h2⟩
                  case measure => simp [intOf]; omega
            · obtain rfl : i = j := by omega
              have hfin : SplitOut h data w (.returned (.tuple #[.slice (some ⟨gs, 0, none⟩) i i, .int .i64 0])) W9 := by
                have e1 : splH h data.length = hd := by rw [HN.out, HHD.out]
                have e2 : h.k + h.m = i := by rw [HQ.out.2, HE.out.1, HE.out.2.1]
                have e3 : sizesP h.k h.blk data.length = ns := by rw [HNS.out, HE.out.1, HE.out.2.2.2, HE.out.2.2.1, HN.out]
                refine ⟨.inr ⟨by rw [e1]; exact HOK.out, gs, l, by rw [e2], by rw [e2]; exact hcut.len, by rw [e1]; exact hcut.heads, hcut.base.2.1, Blk.lt hcut.shd, ?_⟩, hcut.ext⟩
                rw [e1, e2, e3]
                refine ⟨⟨hcut.shd.rd, fun t p hp => .inr ⟨hcut.heads t p hp, ?_⟩⟩, hcut.shd, fun t p hp => by
                  have ht : t < i := by have := (List.getElem?_eq_some_iff.1 hp).1; rwa [hcut.len] at this
                  have h9 := (hcut.done t p hp ht).1.mono (show w.heap.size ≤ _ from hcut.base.1.le)
                  rw [HBE.out] at h9
                  first | exact h9 | (rw [HE.out.1]; exact h9) | (rw [← HE.out.1]; exact h9) | (rw [HE.out.1] at h9; exact h9) | (rw [← HE.out.1] at h9; exact h9)⟩
                have ht : t < i := by have := (List.getElem?_eq_some_iff.1 hp).1; rwa [hcut.len] at this
                obtain ⟨A', c', k1, k2, k3⟩ := (hcut.done t p hp ht).1.rd
                have hbt : bl t = cutP ns (word.getD t []) := HBL.out.1 t ht
                have hlen : (bl t).length = ns.length := by rw [hbt, cutP_length]
                rw [hlen] at k1 k3
                have hml : (bl t).map List.length = ns := by rw [hbt]; exact cutP_lengths _ _ (HBL.out.2 t ht)
                rw [HBE.out, ← HE.out.1] at *
                exact ⟨A', c', k1, k2, hml, k3⟩
              have HF := Lib.hid hfin
              clear hcut hR hfin
              go_wp2_with fail
              go_ret2
              exact HF.out
end Go.Proofs.Ytdoeelfcihdmbaa
/-
  The law through the layers: numbers and shapes out of any numbers.
-/
namespace Go.Proofs.Ytdoeelfcihdmbaa
open Go.RowKit Gf
set_option maxRecDepth 20000
set_option linter.unusedVariables false

/-- A number from 0 to n - 1 out of any. -/
def pickP (k : Int) (n : Nat) : Nat := (k % (n : Int)).toNat
theorem pickP_lt (k : Int) {n : Nat} (h : 0 < n) : pickP k n < n := by
  have h1 := Int.emod_nonneg k (show (n : Int) ≠ 0 by omega)
  have h2 := Int.emod_lt_of_pos k (show (0 : Int) < (n : Int) by omega)
  unfold pickP; omega
theorem pickP_cast (k : Int) {n : Nat} (h : 0 < n) : ((pickP k n : Nat) : Int) = k % (n : Int) := by
  have h1 := Int.emod_nonneg k (show (n : Int) ≠ 0 by omega)
  unfold pickP; omega
theorem pick_n (z k : Int) (n : Nat) (w : World) (hk : (Lit.int .i64 k).wf = true) (hn : 1 ≤ n) (hn2 : n ≤ 4294967296) (hz : z = (n : Int)) :
    Calls Try.prog 34 #[.int .i64 k, .int .i64 z] w fun e w' => e = .returned (.int .i64 ((pickP k n : Nat) : Int)) ∧ w = w' := by
  subst hz
  have hp := pickP_cast k (show 0 < n by omega)
  have hpl := pickP_lt k (show 0 < n by omega)
  obtain ⟨p, hpp⟩ : ∃ p, p = pickP k n := ⟨_, rfl⟩
  rw [← hpp] at hp hpl ⊢
  have d1 : decide ((n : Int) < 1) = false := decide_eq_false (by omega)
  have hn0 : ((n : Int) == 0) = false := by rw [beq_eq_false_iff_ne]; omega
  obtain ⟨t, htt⟩ : ∃ t, Int.tmod k (n : Int) = t := ⟨_, rfl⟩
  have ht : (p : Int) = t ∨ (p : Int) = t + n := by
    have h := Int.emod_eq_tmod (a := k) (b := (n : Int))
    rw [htt] at h
    split at h
    · left; rw [hp, h]; simp
    · right; rw [hp, h]; simp
  have w1 : IntKind.i64.wrap (t + (n : Int)) = t + (n : Int) := by rw [IntKind.wrap_i64]; omega
  clear hpp hp
  by_cases ht0 : t < 0
  · have hpt : t + (n : Int) = (p : Int) := by omega
    have d2 : decide (t < 0) = true := decide_eq_true ht0
    have HPT := Lib.hid hpt
    clear ht hpt
    go_enter Try.func34, Try.ntmps34
    go_wp2
    go_ret
    exact ⟨by rw [← HPT.out]; rfl, rfl⟩
  · have hpt : t = (p : Int) := by omega
    subst hpt
    have d2 : decide ((p : Int) < 0) = false := decide_eq_false ht0
    clear ht ht0
    go_enter Try.func34, Try.ntmps34
    go_wp2
    go_ret
    exact ⟨rfl, rfl⟩
section
variable {P : Program}
theorem results_cell1 {fn : Func} {p : Tmp} {ty : TypeId} (h : fn.results = #[.cell p ty]) (tmps : Array Value) (w : World) (ad : Addr) (cs : Array Value) (d : TypeDesc) (hp : tmps.getD p undef = .pointer (some ad)) (hc : ∀ j v, cs[j]? = some v → w.cell? (ad.add j) = some v)
    (hu : P.underlying ty = some d) (hd : (match d with | .struct _ | .array _ _ => true | _ => false) = true) (hi : (P.info? ty).map (·.size) = some cs.size) : (results fn tmps).run P w = .ok (.agg cs) w := by
  have hp' : tmps[p]?.getD undef = .pointer (some ad) := by simpa using hp
  simp [results, h, hp', asAddr, run_loadVar_at w ad ty cs d hc hu hd hi]
end
/-- The shape that comes out of three numbers. -/
def shapeK (k : Int) : Nat := 1 + pickP k 254
def shapeM (k m : Int) : Nat := 1 + pickP m (min (shapeK k) (255 - shapeK k))
def shapeB (b : Int) : Nat := 1 + pickP b 65536
theorem shapeK_b (k : Int) : 1 ≤ shapeK k ∧ shapeK k ≤ 254 := by
  have := pickP_lt k (show 0 < 254 by decide)
  unfold shapeK; omega
theorem shape_ok (k m b : Int) : okShape (shapeK k) (shapeM k m) (shapeB b) := by
  obtain ⟨h1, h2⟩ := shapeK_b k
  have h3 := pickP_lt m (show 0 < min (shapeK k) (255 - shapeK k) by omega)
  have h4 := pickP_lt b (show 0 < 65536 by decide)
  unfold okShape shapeM shapeB
  omega
set_option maxHeartbeats 2000000 in
theorem shapeOf_n (k m b : Int) (w : World) (hk : (Lit.int .i64 k).wf = true) (hm : (Lit.int .i64 m).wf = true) (hb : (Lit.int .i64 b).wf = true) :
    Calls Try.prog 152 #[.int .i64 k, .int .i64 m, .int .i64 b] w fun e w' => e = .returned (.agg #[.int .i64 (shapeK k : Int), .int .i64 (shapeM k m : Int), .int .i64 (shapeB b : Int)]) ∧ Ext w w' := by
  have h1 := pick_n 254 k 254
  obtain ⟨a, ha⟩ : ∃ a, a = shapeK k := ⟨_, rfl⟩
  obtain ⟨mm, hmm⟩ : ∃ x, x = shapeM k m := ⟨_, rfl⟩
  obtain ⟨bb, hbb⟩ : ∃ x, x = shapeB b := ⟨_, rfl⟩
  have hab := shapeK_b k
  rw [← ha] at hab
  obtain ⟨mn, hmn⟩ : ∃ x, x = min a (255 - a) := ⟨_, rfl⟩
  have e1 : 1 + ((pickP k 254 : Nat) : Int) = (a : Int) := by rw [ha, shapeK]; omega
  have e2 : 1 + ((pickP m mn : Nat) : Int) = (mm : Int) := by rw [hmm, shapeM, hmn, ha]; omega
  have e3 : 1 + ((pickP b 65536 : Nat) : Int) = (bb : Int) := by rw [hbb, shapeB]; omega
  have b1 : pickP k 254 < 254 := pickP_lt k (by decide)
  have b2 : pickP m mn < mn := pickP_lt m (by omega)
  have b3 : pickP b 65536 < 65536 := pickP_lt b (by decide)
  rw [← ha, ← hmm, ← hbb]
  obtain ⟨p1, hp1⟩ : ∃ p, p = pickP k 254 := ⟨_, rfl⟩
  obtain ⟨p2, hp2⟩ : ∃ p, p = pickP m mn := ⟨_, rfl⟩
  obtain ⟨p3, hp3⟩ : ∃ p, p = pickP b 65536 := ⟨_, rfl⟩
  have H1 := Lib.hid fun w => pick_n 254 k 254 w hk (by decide) (by decide) rfl
  have H2 := Lib.hid fun w => pick_n (mn : Int) m mn w hm (by omega) (by omega) rfl
  have H3 := Lib.hid fun w => pick_n 65536 b 65536 w hb (by decide) (by decide) rfl
  rw [← hp1] at e1 b1 H1
  rw [← hp2] at e2 b2 H2
  rw [← hp3] at e3 b3 H3
  have w1 : IntKind.i64.wrap (a : Int) = (a : Int) := by rw [IntKind.wrap_i64]; omega
  have w2 : IntKind.i64.wrap (mm : Int) = (mm : Int) := by rw [IntKind.wrap_i64]; omega
  have w3 : IntKind.i64.wrap (bb : Int) = (bb : Int) := by rw [IntKind.wrap_i64]; omega
  have hmnI : (if 255 - (a : Int) < (a : Int) then 255 - (a : Int) else (a : Int)) = (mn : Int) := by rw [hmn]; split <;> omega
  clear ha hmm hbb hp1 hp2 hp3 h1 hmn
  go_enter Try.func152, Try.ntmps152
  go_wp2_with (go_at_call 34; first | (with_reducible refine (H1.out _).mono ?_; rintro e w' ⟨rfl, rfl⟩) | (with_reducible refine (H2.out _).mono ?_; rintro e w' ⟨rfl, rfl⟩) | (with_reducible refine (H3.out _).mono ?_; rintro e w' ⟨rfl, rfl⟩))
  exact bodyPost_ret (results_cell1 Try.results152 _ _ ⟨w.heap.size, 0, none⟩ #[.int .i64 (a : Int), .int .i64 (mm : Int), .int .i64 (bb : Int)] _ rfl (Blk.new _ _ _).cells Try.underlying39 rfl (by kernel_rfl)) rfl ⟨rfl, (Ext.refl w).alloc _⟩
theorem copied_top (A : Option Addr) (n c : Nat) (xs : List E) (w : World) (hn : xs.length = n) (hA : Rd w A (bs xs)) (hlen : n ≤ 140737488355328) :
    Calls Try.prog 35 #[.slice A n c] w fun e w' => ∃ v, e = .returned v ∧ Own w' w.heap.size 5 v (bs xs) ∧ Ext w w' := by
  have HN := Lib.hid hn
  have HA := Lib.hid hA
  have hbd : (([] : List Value).length + n) * 1 ≤ 140737488355328 := by simp; omega
  clear hn hA
  go_enter Try.func35, Try.ntmps35
  go_wp2_with (at_builtin; refine wpList_app w eltU8 rfl _ _ (by rfl) w.heap.size (.slice none 0 0) [] (by rfl) (by exact Own.nil _ _ _) A n c (bs xs) (by rfl) HA.out (by rw [bs_length, HN.out]) (bs_ones _) hbd (Nat.le_refl _) ?_)
  intro v w' ho hm
  have hx : Ext w w' := hm.below (Nat.le_refl _) fun g hg => by cases hg
  have HO := Lib.hid (And.intro ho hx)
  clear ho hm hx
  go_wp2_with fail
  go_ret
  exact ⟨v, rfl, HO.out.1, HO.out.2⟩
end Go.Proofs.Ytdoeelfcihdmbaa
/-
  The law through the layers: the head of an object.
-/
namespace Go.Proofs.Ytdoeelfcihdmbaa
open Go.RowKit Gf
set_option maxRecDepth 20000
set_option linter.unusedVariables false

/-- An object as it came in. -/
structure ObjX where
  k : Int
  m : Int
  b : Int
  key : List E
  ep : Int
  ct : Int
  Ad : Option Addr
  cd : Nat
  data : List E
  Ap : Option Addr
  cp : Nat
  places : List Int
  Ab : Option Addr
  cb : Nat
  bytes : List (List E)
def objC (x : ObjX) : Array Value := #[.int .i64 x.k, .int .i64 x.m, .int .i64 x.b, .string (strB x.key), .int .i64 x.ep, .int .i64 x.ct, .slice x.Ad x.data.length x.cd, .slice x.Ap x.places.length x.cp, .slice x.Ab x.bytes.length x.cb]
/-- What is known of it. -/
structure ObjOk (w : World) (x : ObjX) : Prop where
  k : (Lit.int .i64 x.k).wf = true
  m : (Lit.int .i64 x.m).wf = true
  b : (Lit.int .i64 x.b).wf = true
  ep : (Lit.int .i64 x.ep).wf = true
  ct : (Lit.int .i64 x.ct).wf = true
  key : x.key.length ≤ 1048576
  data : Rd w x.Ad (bs x.data) ∧ x.data.length ≤ x.cd ∧ x.cd ≤ 1048576
  places : Rd w x.Ap (intsZ x.places) ∧ x.places.length ≤ x.cp ∧ x.cp ≤ 1048576 ∧ ∀ z ∈ x.places, (Lit.int .i64 z).wf = true
  bytes : RdRows w x.Ab x.bytes ∧ x.bytes.length ≤ x.cb ∧ x.cb ≤ 1048576 ∧ ∀ r ∈ x.bytes, r.length ≤ 1048576
def storeX (k : Int) : List E := [E.of 7, E.of 7, E.of (pickP k 256), 0, 0, 0, 0, 0]
/-- Its head, but for the size. -/
def hdX (x : ObjX) : HeadP :=
  { store := storeX x.k, k := shapeK x.k, m := shapeM x.k x.m, blk := shapeB x.b, key := x.key, size := 0, idx := 0, epoch := 1 + pickP x.ep 4294967295, count := 1 + pickP x.ct 4294967295 }
theorem wrap_u8_pick (k : Int) : IntKind.u8.wrap k = ((E.of (pickP k 256)).val : Int) := by
  have h := pickP_lt k (show 0 < 256 by decide)
  have h2 := pickP_cast k (show 0 < 256 by decide)
  rw [E.val_of h, h2, IntKind.wrap_u8]; rfl
set_option maxHeartbeats 8000000 in
theorem headOf_n (x : ObjX) (w : World) (h : ObjOk w x) : Calls Try.prog 97 #[.agg (objC x)] w fun e w' => e = .returned (.agg (headC (hdX x))) ∧ Ext w w' := by
  have hmo : Try.prog.follows Departure.mixedOrders = true := by kernel_rfl
  have hw8 := wrap_u8_pick x.k
  obtain ⟨kb, hkb⟩ : ∃ e, e = E.of (pickP x.k 256) := ⟨_, rfl⟩
  rw [← hkb] at hw8
  have H1 := Lib.hid fun w => shapeOf_n x.k x.m x.b w h.k h.m h.b
  have H2 := Lib.hid fun w => pick_n 4294967295 x.ep 4294967295 w h.ep (by decide) (by decide) rfl
  have H3 := Lib.hid fun w => pick_n 4294967295 x.ct 4294967295 w h.ct (by decide) (by decide) rfl
  have b2 : pickP x.ep 4294967295 < 4294967295 := pickP_lt x.ep (by decide)
  have b3 : pickP x.ct 4294967295 < 4294967295 := pickP_lt x.ct (by decide)
  obtain ⟨p2, hp2⟩ : ∃ p, p = pickP x.ep 4294967295 := ⟨_, rfl⟩
  obtain ⟨p3, hp3⟩ : ∃ p, p = pickP x.ct 4294967295 := ⟨_, rfl⟩
  obtain ⟨sk, hsk⟩ : ∃ p, p = shapeK x.k := ⟨_, rfl⟩
  obtain ⟨sm, hsm⟩ : ∃ p, p = shapeM x.k x.m := ⟨_, rfl⟩
  obtain ⟨sb, hsb⟩ : ∃ p, p = shapeB x.b := ⟨_, rfl⟩
  rw [← hp2] at H2 b2
  rw [← hp3] at H3 b3
  rw [← hsk, ← hsm, ← hsb] at H1
  have HHD : Hid (hdX x = { store := [E.of 7, E.of 7, kb, 0, 0, 0, 0, 0], k := sk, m := sm, blk := sb, key := x.key, size := 0, idx := 0, epoch := 1 + p2, count := 1 + p3 }) := Lib.hid (by rw [hkb, hp2, hp3, hsk, hsm, hsb]; rfl)
  have w2 : IntKind.i64.wrap (1 + (p2 : Int)) = 1 + (p2 : Int) := by rw [IntKind.wrap_i64]; omega
  have w3 : IntKind.i64.wrap (1 + (p3 : Int)) = 1 + (p3 : Int) := by rw [IntKind.wrap_i64]; omega
  have hb0 : Blk (w.alloc (.cells (objC x) 34)) w.heap.size 34 (objC x) := Blk.new _ _ _
  have HB : Hid (Blk ((w.alloc (.cells (objC x) 34)).alloc (.cells (headC zeroH) 43)) w.heap.size 34 (objC x)) := Lib.hid (hb0.alloc _)
  have HR : Hid (Blk ((w.alloc (.cells (objC x) 34)).alloc (.cells (headC zeroH) 43)) (w.heap.size + 1) 43 (headC zeroH)) := Lib.hid (by
    have := Blk.new (w.alloc (.cells (objC x) 34)) 43 (headC zeroH)
    simpa using this)
  have HX : Hid (Ext w ((w.alloc (.cells (objC x) 34)).alloc (.cells (headC zeroH) 43))) := Lib.hid (((Ext.refl w).alloc _).alloc _)
  clear hkb hp2 hp3 hsk hsm hsb hb0 h
  go_enter Try.func97, Try.ntmps97
  go_wp2_with fail
  obtain ⟨W0, hW0⟩ : ∃ W0, W0 = (w.alloc (.cells (objC x) 34)).alloc (.cells (headC zeroH) 43) := ⟨_, rfl⟩
  obtain ⟨g, hg⟩ : ∃ g, g = w.heap.size := ⟨_, rfl⟩
  have c0 : ∀ w', Ext W0 w' → w'.cell? ⟨g, 0, none⟩ = some (.int .i64 x.k) := fun w' hx => by rw [hg]; exact Blk.cell (Blk.ext (hW0 ▸ HB.out) hx) 0
  have c1 : ∀ w', Ext W0 w' → w'.cell? ⟨g, 1, none⟩ = some (.int .i64 x.m) := fun w' hx => by rw [hg]; exact Blk.cell (Blk.ext (hW0 ▸ HB.out) hx) 1
  have c2 : ∀ w', Ext W0 w' → w'.cell? ⟨g, 2, none⟩ = some (.int .i64 x.b) := fun w' hx => by rw [hg]; exact Blk.cell (Blk.ext (hW0 ▸ HB.out) hx) 2
  have c3 : ∀ w', Ext W0 w' → w'.cell? ⟨g, 3, none⟩ = some (.string (strB x.key)) := fun w' hx => by rw [hg]; exact Blk.cell (Blk.ext (hW0 ▸ HB.out) hx) 3
  have c4 : ∀ w', Ext W0 w' → w'.cell? ⟨g, 4, none⟩ = some (.int .i64 x.ep) := fun w' hx => by rw [hg]; exact Blk.cell (Blk.ext (hW0 ▸ HB.out) hx) 4
  have c5 : ∀ w', Ext W0 w' → w'.cell? ⟨g, 5, none⟩ = some (.int .i64 x.ct) := fun w' hx => by rw [hg]; exact Blk.cell (Blk.ext (hW0 ▸ HB.out) hx) 5
  refine wp_region_mix (fun i => [3, 0, 3, 3, 3, 0, 3, 0, 3, 0, 1, 3, 0, 3, 0, 1, 3, 3, 0, 1, 3, 3, 3, 2].getD i 0) (fun w' => Ext W0 w') hmo (by kernel_rfl) (by kernel_rfl) (by rw [hW0]; exact (Ext.refl _).drewN 1) ?_
  have ez : (#[.int .u8 0, .int .u8 0, .int .u8 0, .int .u8 0, .int .u8 0, .int .u8 0, .int .u8 0, .int .u8 0, .int .i64 0, .int .i64 0, .int .i64 0, .string { data := #[] }, .int .i64 0, .int .i64 0, .int .i64 0, .int .i64 0] : Array Value) = headC zeroH := rfl
  rw [ez, ← hW0, ← hg]
  have HR0 : Hid (Blk W0 (g + 1) 43 (headC zeroH) ∧ Ext w W0 ∧ w.heap.size ≤ g + 1) := Lib.hid ⟨by rw [hg, hW0]; exact HR.out, by rw [hW0]; exact HX.out, by rw [hg]; omega⟩
  clear hg hW0 ez HB HR HX
  refine mix_pure (.pointer (some ⟨g, 0, none⟩)) rfl (fun w' => by go_simp) ?_
  refine mix_still (.int .i64 x.k) rfl (fun w' hw' => by have := c0 w' hw'; go_simp) ?_
  refine mix_pure (.int .u8 (kb.val : Int)) rfl (fun w' => by go_simp) ?_
  refine mix_pure (.agg #[.int .u8 7, .int .u8 7, .int .u8 (kb.val : Int), .int .u8 0, .int .u8 0, .int .u8 0, .int .u8 0, .int .u8 0]) rfl (fun w' => by go_simp) ?_
  refine mix_pure (.pointer (some ⟨g, 0, none⟩)) rfl (fun w' => by go_simp) ?_
  refine mix_still (.int .i64 x.k) rfl (fun w' hw' => by have := c0 w' hw'; go_simp) ?_
  refine mix_pure (.pointer (some ⟨g, 1, none⟩)) rfl (fun w' => by go_simp) ?_
  refine mix_still (.int .i64 x.m) rfl (fun w' hw' => by have := c1 w' hw'; go_simp) ?_
  refine mix_pure (.pointer (some ⟨g, 2, none⟩)) rfl (fun w' => by go_simp) ?_
  refine mix_still (.int .i64 x.b) rfl (fun w' hw' => by have := c2 w' hw'; go_simp) ?_
  refine mix_call 152 #[.int .i64 x.k, .int .i64 x.m, .int .i64 x.b] rfl (by go_simp) ?_
  refine (H1.out _).mono ?_
  rintro e w1 ⟨rfl, hx1⟩
  have hxd : Ext W0 w1 := ((Ext.refl W0).drewN 1).trans hx1
  refine ⟨_, rfl, hxd, ?_⟩
  refine mix_pure (.pointer (some ⟨g, 3, none⟩)) rfl (fun w' => by go_simp) ?_
  refine mix_still (.string (strB x.key)) rfl (fun w' hw' => by have := c3 w' hw'; go_simp) ?_
  refine mix_pure (.pointer (some ⟨g, 4, none⟩)) rfl (fun w' => by go_simp) ?_
  refine mix_still (.int .i64 x.ep) rfl (fun w' hw' => by have := c4 w' hw'; go_simp) ?_
  refine mix_call 34 #[.int .i64 x.ep, .int .i64 4294967295] rfl (by go_simp) ?_
  refine (H2.out _).mono ?_
  rintro e w2' ⟨rfl, rfl⟩
  refine ⟨_, rfl, hxd, ?_⟩
  refine mix_pure (.int .i64 (1 + (p2 : Int))) rfl (fun w' => by go_simp) ?_
  refine mix_pure (.pointer (some ⟨g, 5, none⟩)) rfl (fun w' => by go_simp) ?_
  refine mix_still (.int .i64 x.ct) rfl (fun w' hw' => by have := c5 w' hw'; go_simp) ?_
  refine mix_call 34 #[.int .i64 x.ct, .int .i64 4294967295] rfl (by go_simp) ?_
  refine (H3.out _).mono ?_
  rintro e w3' ⟨rfl, rfl⟩
  refine ⟨_, rfl, hxd, ?_⟩
  refine mix_pure (.int .i64 (1 + (p3 : Int))) rfl (fun w' => by go_simp) ?_
  refine mix_pure (.agg #[.int .i64 (1 + (p2 : Int)), .int .i64 (1 + (p3 : Int))]) rfl (fun w' => by go_simp) ?_
  refine mix_pure (.agg #[.int .u8 7, .int .u8 7, .int .u8 (kb.val : Int), .int .u8 0, .int .u8 0, .int .u8 0, .int .u8 0, .int .u8 0, .int .i64 (sk : Int), .int .i64 (sm : Int), .int .i64 (sb : Int), .string (strB x.key), .int .i64 0, .int .i64 0, .int .i64 (1 + (p2 : Int)), .int .i64 (1 + (p3 : Int))]) rfl (fun w' => by go_simp) ?_
  have hR1 : Blk w1 (g + 1) 43 (headC zeroH) := HR0.out.1.ext hxd
  have hC : (#[.int .u8 7, .int .u8 7, .int .u8 (kb.val : Int), .int .u8 0, .int .u8 0, .int .u8 0, .int .u8 0, .int .u8 0, .int .i64 (sk : Int), .int .i64 (sm : Int), .int .i64 (sb : Int), .string (strB x.key), .int .i64 0, .int .i64 0, .int .i64 (1 + (p2 : Int)), .int .i64 (1 + (p3 : Int))] : Array Value) = headC (hdX x) := by
    rw [HHD.out, headC]
    have e2 : ((1 + p2 : Nat) : Int) = 1 + (p2 : Int) := by omega
    have e3 : ((1 + p3 : Nat) : Int) = 1 + (p3 : Int) := by omega
    simp only [e2, e3]
    rfl
  rw [hC]
  obtain ⟨hd, hhd⟩ : ∃ h, h = hdX x := ⟨_, rfl⟩
  rw [← hhd]
  have hhd2 := Lib.hid hhd
  clear hhd
  have k0 := setRow_blk w1 (g + 1) 43 (headC zeroH) (seg (headC zeroH) 0 (headC hd).toList) hR1
  have k1 : Blk (w1.setRow (g + 1) (seg (headC zeroH) 0 (headC hd).toList)) (g + 1) 43 (headC hd) := (seg_all (headC zeroH) (headC hd) rfl) ▸ k0
  have k2 := setRow_touch w1 (g + 1) (seg (headC zeroH) 0 (headC hd).toList)
  obtain ⟨W9, hW9⟩ : ∃ W9, W9 = w1.setRow (g + 1) (seg (headC zeroH) 0 (headC hd).toList) := ⟨_, rfl⟩
  rw [← hW9] at k1 k2
  clear k0 hC
  have hxw : Ext w W9 := k2.extNew (HR0.out.2.1.trans hxd) HR0.out.2.2
  refine mix_store W9 rfl (by rw [hW9]; exact store_run 43 _ _ rfl (g + 1) 0 (headC hd) (by go_simp) (by go_simp) 43 (headC zeroH) hR1 (by kernel_rfl) (Nat.le_refl 16) (headC_ones hd)) ?_
  clear hW9
  refine mix_nil ?_
  go_simp
  go_wp2_with fail
  exact bodyPost_ret (results_cell1 Try.results97 _ W9 ⟨g + 1, 0, none⟩ (headC hd) _ rfl k1.cells Try.underlying43 rfl (by kernel_rfl)) rfl ⟨by rw [hhd2.out], hxw⟩
end Go.Proofs.Ytdoeelfcihdmbaa
/-
  The law through the layers: an object is split.
-/
namespace Go.Proofs.Ytdoeelfcihdmbaa
open Go.RowKit Gf
set_option maxRecDepth 20000
set_option linter.unusedVariables false
section
variable {P : Program}
theorem results_cellM {fn : Func} {p a b : Tmp} {ty : TypeId} (h : fn.results = #[.tmp a, .cell p ty, .tmp b]) (tmps : Array Value) (w : World) (ad : Addr) (cs : Array Value) (d : TypeDesc) (hp : tmps.getD p undef = .pointer (some ad)) (hc : ∀ j v, cs[j]? = some v → w.cell? (ad.add j) = some v)
    (hu : P.underlying ty = some d) (hd : (match d with | .struct _ | .array _ _ => true | _ => false) = true) (hi : (P.info? ty).map (·.size) = some cs.size) :
    (results fn tmps).run P w = .ok (.tuple #[tmps.getD a undef, .agg cs, tmps.getD b undef]) w := by
  have hp' : tmps[p]?.getD undef = .pointer (some ad) := by simpa using hp
  simp [results, h, hp', asAddr, run_loadVar_at w ad ty cs d hc hu hd hi]
end
namespace Grd
section
variable {P : Program} {ops : Array Oper} {C : World → Prop} {L : Nat → Nat} {Q : Act → World → Prop}
theorem mix_store {k : Nat} {o : Oper} {rest : List Oper} {a : Act} {w : World} (w' : World) (hL : L k = 2) (hg : Region.wanted o (yielded ops a.tmps) = true) (hr : (execOp a.eval o).run P w = .ok .skip w')
    (h : wpMix P ops C L Q (k + 1) rest (a.put o.dst undef) w') : wpMix P ops C L Q k (o :: rest) a w :=
  ⟨hg, .inr ⟨by unfold isQ; omega, .inr (.inl ⟨w', hr, fun e => by omega, h⟩)⟩⟩
theorem mix_storeC {k : Nat} {o : Oper} {rest : List Oper} {a : Act} {w : World} (w' : World) (hL : L k = 1) (hg : Region.wanted o (yielded ops a.tmps) = true) (hr : (execOp a.eval o).run P w = .ok .skip w') (hc : C w')
    (h : wpMix P ops C L Q (k + 1) rest (a.put o.dst undef) w') : wpMix P ops C L Q k (o :: rest) a w :=
  ⟨hg, .inr ⟨by unfold isQ; omega, .inr (.inl ⟨w', hr, fun _ => hc, h⟩)⟩⟩
end
end Grd
theorem ObjOk.ext {w w' : World} {x : ObjX} (h : ObjOk w x) (hx : Ext w w') : ObjOk w' x :=
  ⟨h.k, h.m, h.b, h.ep, h.ct, h.key, ⟨h.data.1.ext hx, h.data.2⟩, ⟨h.places.1.ext hx, h.places.2⟩, ⟨h.bytes.1.ext hx, h.bytes.2⟩⟩
/-- The head of the shards of an object. -/
def hdS (x : ObjX) : HeadP := splH (hdX x) x.data.length
def TopSplit (x : ObjX) (w : World) (e : Ending) (w' : World) : Prop :=
  ((¬ okHead (hdS x) ∧ e = .returned (.tuple #[.slice none 0 0, .agg (headC (hdS x)), .bool true])) ∨
    (okHead (hdS x) ∧ ∃ g l, e = .returned (.tuple #[.slice (some ⟨g, 0, none⟩) ((hdS x).k + (hdS x).m) ((hdS x).k + (hdS x).m), .agg (headC (hdS x)), .bool true]) ∧ l.length = (hdS x).k + (hdS x).m ∧ (∀ (i : Nat) (p : HeadP × Value), l[i]? = some p → p.1 = withIdx (hdS x) i) ∧
      w.heap.size ≤ g ∧ g < w'.heap.size ∧ Parts w' g (hdS x) (sizesP (hdS x).k (hdS x).blk x.data.length) (blocksP (hdS x).k ((hdS x).k + (hdS x).m) (sizesP (hdS x).k (hdS x).blk x.data.length) x.data) l)) ∧ Ext w w'
theorem Parts.mk8 {B : Nat} {w : World} {g n : Nat} {hd : HeadP} {ns : List Nat} {data : List E} {l : List (HeadP × Value)} (hs : Shds w g l) (hl : l.length = n) (hh : ∀ (i : Nat) (p : HeadP × Value), l[i]? = some p → p.1 = withIdx hd i)
    (h8 : ∀ (i : Nat) (p : HeadP × Value), l[i]? = some p → Rows8 B w p.2 (blocksP hd.k n ns data i)) : Parts w g hd ns (blocksP hd.k n ns data) l :=
  ⟨hs.rd, fun i p hp => .inr ⟨hh i p hp, by
    have hi : i < n := by rw [← hl]; exact (List.getElem?_eq_some_iff.1 hp).1
    obtain ⟨A, c, e1, e2, e3⟩ := (h8 i p hp).rd
    have hm := blocksP_lengths (k := hd.k) (ns := ns) (data := data) hi
    have hn : (blocksP hd.k n ns data i).length = ns.length := by have := congrArg List.length hm; rwa [List.length_map] at this
    rw [hn] at e1 e3
    exact ⟨A, c, e1, e2, hm, e3⟩⟩⟩
theorem hdX_small (x : ObjX) (hk : x.key.length ≤ 1048576) : (hdX x).store.length = 8 ∧ (hdX x).k ≤ 254 ∧ (hdX x).m ≤ 254 ∧ (hdX x).epoch ≤ 4294967295 ∧ (hdX x).count ≤ 4294967295 ∧ (hdX x).key.length ≤ 1048576 := by
  have h1 := shapeK_b x.k
  obtain ⟨h2, h3, -⟩ := shape_ok x.k x.m x.b
  have h4 := pickP_lt x.ep (show 0 < 4294967295 by decide)
  have h5 := pickP_lt x.ct (show 0 < 4294967295 by decide)
  refine ⟨rfl, h1.2, ?_, ?_, ?_, hk⟩
  · show shapeM x.k x.m ≤ 254; omega
  · show 1 + pickP x.ep 4294967295 ≤ 4294967295; omega
  · show 1 + pickP x.ct 4294967295 ≤ 4294967295; omega
set_option maxHeartbeats 8000000 in
theorem splitTop_n (x : ObjX) (w : World) (h : ObjOk w x) : Calls Try.prog 32 #[.agg (objC x)] w (TopSplit x w) := by
  have hmo : Try.prog.follows Departure.mixedOrders = true := by kernel_rfl
  obtain ⟨W0, hW0⟩ : ∃ W0, W0 = (w.alloc (.cells (objC x) 34)).alloc (.cells (headC zeroH) 43) := ⟨_, rfl⟩
  have hx0 : Ext w W0 := by rw [hW0]; exact ((Ext.refl w).alloc _).alloc _
  have hb0 : Blk W0 w.heap.size 34 (objC x) := by rw [hW0]; exact (Blk.new _ _ _).alloc _
  have hr0 : Blk W0 (w.heap.size + 1) 43 (headC zeroH) := by
    have := Blk.new (w.alloc (.cells (objC x) 34)) 43 (headC zeroH)
    rw [hW0]; simpa using this
  have hs0 : W0.heap.size = w.heap.size + 2 := by rw [hW0]; simp
  have HH := Lib.hid (And.intro (headOf_n x W0 (h.ext hx0)) (And.intro hb0 (And.intro hr0 (And.intro hx0 (And.intro hs0 h)))))
  rw [hW0] at HH
  clear hW0 hx0 hb0 hr0 hs0 h W0
  go_enter Try.func32, Try.ntmps32
  go_wp2_with (first | (refine wpList_load_at rfl 34 _ rfl ⟨w.heap.size, 0, none⟩ rfl (objC x) _ HH.out.2.1.cells Try.underlying34 rfl (by kernel_rfl) ?_) | (go_at_call 97; refine HH.out.1.mono ?_; rintro e w1 ⟨rfl, hx1⟩; have HX1 := Lib.hid hx1; clear hx1) | (refine wpList_store_at rfl 43 _ _ rfl w1.heap.size 0 (headC (hdX x)) rfl rfl 43 (headC zeroH) (Blk.new _ _ _) (by kernel_rfl) (Nat.le_refl 16) (headC_ones _) ?_; intro w2 k0 k2; have k1 : Blk w2 w1.heap.size 43 (headC (hdX x)) := (seg_all (headC zeroH) (headC (hdX x)) rfl) ▸ k0; have hx2 : Ext w w2 := HH.out.2.2.2.1.trans (k2.extNew (HX1.out.alloc _) HX1.out.le); have hb2 : Blk w2 w.heap.size 34 (objC x) := HH.out.2.1.ext (k2.extNew (HX1.out.alloc _) HX1.out.le); have hr2 : Blk w2 (w.heap.size + 1) 43 (headC zeroH) := HH.out.2.2.1.ext (k2.extNew (HX1.out.alloc _) HX1.out.le); have hg1 : w.heap.size + 2 ≤ w1.heap.size := by { have := HX1.out.le; have h5 := HH.out.2.2.2.2.1; omega }; have HF := Lib.hid (And.intro k1 (And.intro hx2 (And.intro hb2 (And.intro hr2 hg1)))); have f12 := Blk.frozen k1 12; have c6 : w2.cell? ⟨w.heap.size, 6, none⟩ = some (.slice x.Ad x.data.length x.cd) := Blk.cell hb2 6; have c12 : w2.cell? ⟨w1.heap.size, 12, none⟩ = some (.int .i64 0) := Blk.cell k1 12; clear k0 k1 k2 hx2 hb2 hr2 hg1))
  have HO := Lib.hid HH.out.2.2.2.2.2
  obtain ⟨W3, hW3⟩ : ∃ W3, W3 = w2.setCell ⟨w1.heap.size, 12, none⟩ (.int .i64 (x.data.length : Int)) := ⟨_, rfl⟩
  have hx3 : Ext w W3 := by rw [hW3]; exact HF.out.2.1.setCell (p := ⟨w1.heap.size, 12, none⟩) (by have := HF.out.2.2.2.2; show w.heap.size ≤ w1.heap.size; omega) _
  have hb3 : Blk W3 w.heap.size 34 (objC x) := by rw [hW3]; exact HF.out.2.2.1.far (by have := HF.out.2.2.2.2; simp; omega) _
  have hr3 : Blk W3 (w.heap.size + 1) 43 (headC zeroH) := by rw [hW3]; exact HF.out.2.2.2.1.far (by have := HF.out.2.2.2.2; simp; omega) _
  have hh3 : Blk W3 w1.heap.size 43 (headC (hdS x)) := by
    rw [hW3]
    exact Blk.set_eq HF.out.1 12 _ (by simp [headC, hdS, splH, hdX])
  have hsz3 : w.heap.size + 2 ≤ w1.heap.size := HF.out.2.2.2.2
  rw [← hW3]
  obtain ⟨gh, hgh⟩ : ∃ gh, gh = w1.heap.size := ⟨_, rfl⟩
  rw [← hgh] at hh3 hsz3 ⊢
  obtain ⟨g, hg⟩ : ∃ g, g = w.heap.size := ⟨_, rfl⟩
  rw [← hg] at hb3 hr3 hsz3 ⊢
  have HL := Lib.hid (And.intro hh3 (And.intro hb3 (And.intro hr3 (And.intro hx3 (And.intro hsz3 hg)))))
  clear hW3 hgh hg hh3 hb3 hr3 hx3 hsz3 f12 c6 c12 HF HH HX1 w1 w2
  have c6 : ∀ w', Ext W3 w' → w'.cell? ⟨g, 6, none⟩ = some (.slice x.Ad x.data.length x.cd) := fun w' hx => Blk.cell (HL.out.2.1.ext hx) 6
  have ch : ∀ w', Ext W3 w' → Blk w' gh 43 (headC (hdS x)) := fun w' hx => HL.out.1.ext hx
  have CH := Lib.hid ch
  clear ch
  refine wp_region_mix (fun i => [0, 3, 0, 1, 1, 3, 3, 3, 3, 3].getD i 0) (fun w' => Ext W3 w') hmo (by kernel_rfl) (by kernel_rfl) ((Ext.refl W3).drewN 1) ?_
  refine mix_still (.agg (headC (hdS x))) rfl (fun w' hw' => load_run rfl (by go_simp) (CH.out w' hw').cells Try.underlying43 rfl (by kernel_rfl)) ?_
  refine mix_pure (.pointer (some ⟨g, 6, none⟩)) rfl (fun w' => by go_simp) ?_
  refine mix_still (.slice x.Ad x.data.length x.cd) rfl (fun w' hw' => by have := c6 w' hw'; go_simp) ?_
  refine mix_call 35 #[.slice x.Ad x.data.length x.cd] rfl (by go_simp) ?_
  obtain ⟨Wd, hWd⟩ : ∃ Wd, Wd = W3.drew := ⟨_, rfl⟩
  have hxd : Ext W3 Wd := by rw [hWd]; exact (Ext.refl W3).drewN 1
  rw [← hWd]
  clear hWd
  refine (copied_top x.Ad x.data.length x.cd x.data Wd rfl ((HO.out.data.1.ext HL.out.2.2.2.1).ext hxd) (by have := HO.out.data.2; omega)).mono ?_
  rintro e w4 ⟨u, rfl, hu, hxu⟩
  refine ⟨_, rfl, hxd.trans hxu, ?_⟩
  obtain ⟨Au, cu, rfl, hru, hlu, hmu, -⟩ := hu.slice
  rw [bs_length] at hlu
  have hx4 : Ext W3 w4 := hxd.trans hxu
  obtain ⟨q1, q2, q3, q4, q5, q6⟩ := hdX_small x HO.out.key
  have hdn : x.data.length ≤ 1048576 := by have := HO.out.data.2; omega
  have HSP := Lib.hid (split_n (hdS x) Au x.data.length cu x.data w4 rfl hru hlu hmu q1 (Nat.le_trans q2 (by decide)) (Nat.le_trans q3 (by decide)) (by omega) (Nat.le_trans q4 (by decide)) (Nat.le_trans q5 (by decide)) (Nat.le_trans q6 (by decide)))
  have HX4 := Lib.hid hx4
  have HCK := Lib.hid fun w => rcheck_n (hdS x) w (Nat.le_trans q2 (by decide)) (Nat.le_trans q3 (by decide)) (Nat.le_trans hdn (by decide)) (Nat.zero_le _) (Nat.le_trans q4 (by decide)) (Nat.le_trans q5 (by decide)) (Nat.le_trans q6 (by decide))
  clear q1 q2 q3 q4 q5 q6 hdn hu hru hlu hmu hxu hx4 hxd
  rw [bs_length]
  refine mix_call 96 #[.agg (headC (hdS x)), .slice Au x.data.length cu] rfl (by go_simp) ?_
  refine HSP.out.mono ?_
  rintro e w5 ⟨hcase, hx5⟩
  have HX5 := Lib.hid (HX4.out.trans hx5)
  have HX45 := Lib.hid hx5.le
  clear HSP hx5
  rcases hcase with ⟨hno, z, hz, rfl⟩ | ⟨hok, gs, l, rfl, h1, h2, h3, h4, -, h6, h7⟩
  · refine ⟨_, rfl, HX5.out, ?_⟩
    have HNO := Lib.hid hno
    clear hno
    refine mix_pure (.tuple #[.slice none 0 0, .int .i64 z]) rfl (fun w' => by go_simp) ?_
    refine mix_pure (.slice none 0 0) rfl (fun w' => by go_simp) ?_
    refine mix_pure (.int .i64 z) rfl (fun w' => by go_simp) ?_
    refine mix_pure (.slice none 0 0) rfl (fun w' => by go_simp) ?_
    refine mix_pure (.int .i64 z) rfl (fun w' => by go_simp) ?_
    refine mix_nil ?_
    have HH5 := Lib.hid (HL.out.1.ext HX5.out)
    clear c6 CH
    go_simp
    go_wp2_with (first | (refine wpList_load_at rfl 43 _ rfl ⟨gh, 0, none⟩ rfl (headC (hdS x)) _ HH5.out.cells Try.underlying43 rfl (by kernel_rfl) ?_) | (go_at_call 98; refine (HCK.out _).mono ?_; rintro e w6 ⟨⟨zc, rfl, hzc⟩, hx6⟩; have hzc0 : zc ≠ 0 := fun e => HNO.out (hzc.1 e); have HX6 := Lib.hid hx6; clear hx6 hzc))
    have HX56 := Lib.hid (HX5.out.trans HX6.out)
    have CH6 : ∀ w', Ext w6 w' → Blk w' gh 43 (headC (hdS x)) := fun w' hx => HL.out.1.ext (HX56.out.trans hx)
    have CHH := Lib.hid CH6
    clear CH6
    refine Grd.wp_region_mix (fun i => [0, 3, 3, 3, 3, 3, 3, 3, 3, 2, 3].getD i 0) (fun w' => Ext w6 w') hmo (by kernel_rfl) (by kernel_rfl) ((Ext.refl w6).drewN 1) ?_
    obtain ⟨Wd6, hWd⟩ : ∃ Wd, Wd = w6.drew := ⟨_, rfl⟩
    have hxd : Ext w6 Wd6 := by rw [hWd]; exact (Ext.refl w6).drewN 1
    rw [← hWd]
    clear hWd
    have HXD := Lib.hid hxd
    clear hxd
    refine Grd.mix_still (.agg (headC (hdS x))) rfl (by kernel_rfl) (fun w' hw' => load_run rfl (by go_simp) (CHH.out w' hw').cells Try.underlying43 rfl (by kernel_rfl)) ?_
    refine Grd.mix_pure (.int .i64 z) rfl (by kernel_rfl) (fun w' => by go_simp) ?_
    refine Grd.mix_pure (.bool true) rfl (by kernel_rfl) (fun w' => by go_simp) ?_
    refine Grd.mix_pure (.bool true) rfl (by kernel_rfl) (fun w' => by go_simp) ?_
    refine Grd.mix_pure (.slice none 0 0) rfl (by kernel_rfl) (fun w' => by go_simp) ?_
    refine Grd.mix_pure (.int .i64 0) rfl (by kernel_rfl) (fun w' => by go_simp) ?_
    refine Grd.mix_pure (.bool true) rfl (by kernel_rfl) (fun w' => by go_simp) ?_
    refine Grd.mix_pure (.bool true) rfl (by kernel_rfl) (fun w' => by go_simp) ?_
    refine Grd.mix_pure (.slice none 0 0) rfl (by kernel_rfl) (fun w' => by go_simp) ?_
    have hrr : Blk Wd6 (g + 1) 43 (headC zeroH) := (HL.out.2.2.1.ext HX56.out).ext HXD.out
    have k0 := setRow_blk Wd6 (g + 1) 43 (headC zeroH) (seg (headC zeroH) 0 (headC (hdS x)).toList) hrr
    have k1 : Blk (Wd6.setRow (g + 1) (seg (headC zeroH) 0 (headC (hdS x)).toList)) (g + 1) 43 (headC (hdS x)) := (seg_all (headC zeroH) (headC (hdS x)) rfl) ▸ k0
    have k2 := setRow_touch Wd6 (g + 1) (seg (headC zeroH) 0 (headC (hdS x)).toList)
    obtain ⟨W9, hW9⟩ : ∃ W9, W9 = Wd6.setRow (g + 1) (seg (headC zeroH) 0 (headC (hdS x)).toList) := ⟨_, rfl⟩
    rw [← hW9] at k1 k2
    have hx9 : Ext w W9 := k2.extNew ((HL.out.2.2.2.1.trans HX56.out).trans HXD.out) (by rw [HL.out.2.2.2.2.2]; omega)
    have HW9 := Lib.hid hW9
    clear k0 hW9
    refine Grd.mix_store W9 rfl (by kernel_rfl) (by rw [HW9.out]; exact store_run 43 _ _ rfl (g + 1) 0 (headC (hdS x)) (by go_simp) (by go_simp) 43 (headC zeroH) hrr (by kernel_rfl) (Nat.le_refl 16) (headC_ones _)) ?_
    clear HW9
    refine Grd.mix_pure (.bool true) rfl (by kernel_rfl) (fun w' => by go_simp) ?_
    refine Grd.mix_nil ?_
    go_simp
    go_wp2_with fail
    exact bodyPost_ret (results_cellM Try.results32 _ W9 ⟨g + 1, 0, none⟩ (headC (hdS x)) _ rfl k1.cells Try.underlying43 rfl (by kernel_rfl)) rfl ⟨.inl ⟨HNO.out, rfl⟩, hx9⟩
  · obtain ⟨n, hn⟩ : ∃ n, n = (hdS x).k + (hdS x).m := ⟨_, rfl⟩
    have hn254 : n ≤ 1000 := by
      have := hdX_small x HO.out.key
      have e1 : (hdS x).k = (hdX x).k := rfl
      have e2 : (hdS x).m = (hdX x).m := rfl
      omega
    have HFIN := Lib.hid (And.intro hok (And.intro h1 (And.intro h2 (And.intro (Nat.le_trans HX4.out.le h3) (And.intro h4 (And.intro h6 (And.intro h7 h3)))))))
    clear hok h1 h2 h3 h4 h6 h7
    rw [← hn]
    refine ⟨_, rfl, HX5.out, ?_⟩
    refine mix_pure (.tuple #[.slice (some ⟨gs, 0, none⟩) n n, .int .i64 0]) rfl (fun w' => by go_simp) ?_
    refine mix_pure (.slice (some ⟨gs, 0, none⟩) n n) rfl (fun w' => by go_simp) ?_
    refine mix_pure (.int .i64 0) rfl (fun w' => by go_simp) ?_
    refine mix_pure (.slice (some ⟨gs, 0, none⟩) n n) rfl (fun w' => by go_simp) ?_
    refine mix_pure (.int .i64 0) rfl (fun w' => by go_simp) ?_
    refine mix_nil ?_
    have HH5 := Lib.hid (HL.out.1.ext HX5.out)
    have HN := Lib.hid hn
    clear c6 CH hn
    go_simp
    go_wp2_with (first | (refine wpList_load_at rfl 43 _ rfl ⟨gh, 0, none⟩ rfl (headC (hdS x)) _ HH5.out.cells Try.underlying43 rfl (by kernel_rfl) ?_) | (go_at_call 98; refine (HCK.out _).mono ?_; rintro e w6 ⟨⟨zc, rfl, hzc⟩, hx6⟩; obtain rfl : zc = 0 := hzc.2 HFIN.out.1; have HX6 := Lib.hid hx6; clear hx6 hzc))
    have HX56 := Lib.hid (HX5.out.trans HX6.out)
    have CH6 : ∀ w', Ext w6 w' → Blk w' gh 43 (headC (hdS x)) := fun w' hx => HL.out.1.ext (HX56.out.trans hx)
    have CHH := Lib.hid CH6
    have k8 : ∀ w', Blk w' gh 43 (headC (hdS x)) → w'.cell? ⟨gh, 8, none⟩ = some (.int .i64 ((hdS x).k : Int)) := fun w' hx => Blk.cell hx 8
    have k9 : ∀ w', Blk w' gh 43 (headC (hdS x)) → w'.cell? ⟨gh, 9, none⟩ = some (.int .i64 ((hdS x).m : Int)) := fun w' hx => Blk.cell hx 9
    clear CH6
    obtain ⟨kk, hkk⟩ : ∃ k, k = (hdS x).k := ⟨_, rfl⟩
    obtain ⟨mm, hmm⟩ : ∃ k, k = (hdS x).m := ⟨_, rfl⟩
    rw [← hkk] at k8
    rw [← hmm] at k9
    have hkm : kk + mm = n := by rw [hkk, hmm, HN.out]
    have hwr : IntKind.i64.wrap ((kk : Int) + (mm : Int)) = (n : Int) := by rw [IntKind.wrap_i64]; omega
    clear hkk hmm
    refine Grd.wp_region_mix (fun i => [3, 0, 3, 3, 3, 3, 3, 3, 3, 0, 3, 3, 0, 3, 3, 3, 3, 1, 3].getD i 0) (fun w' => Blk w' gh 43 (headC (hdS x))) hmo (by kernel_rfl) (by kernel_rfl) (CHH.out _ ((Ext.refl w6).drewN 1)) ?_
    obtain ⟨Wd6, hWd⟩ : ∃ Wd, Wd = w6.drew := ⟨_, rfl⟩
    have hxd : Ext w6 Wd6 := by rw [hWd]; exact (Ext.refl w6).drewN 1
    rw [← hWd]
    clear hWd
    have HXD := Lib.hid hxd
    clear hxd
    refine Grd.mix_pure (.slice (some ⟨gs, 0, none⟩) n n) rfl (by kernel_rfl) (fun w' => by go_simp) ?_
    refine Grd.mix_still (.agg (headC (hdS x))) rfl (by kernel_rfl) (fun w' hw' => load_run rfl (by go_simp) hw'.cells Try.underlying43 rfl (by kernel_rfl)) ?_
    refine Grd.mix_pure (.int .i64 0) rfl (by kernel_rfl) (fun w' => by go_simp) ?_
    refine Grd.mix_pure (.bool true) rfl (by kernel_rfl) (fun w' => by go_simp) ?_
    refine Grd.mix_pure (.bool true) rfl (by kernel_rfl) (fun w' => by go_simp) ?_
    refine Grd.mix_pure (.slice (some ⟨gs, 0, none⟩) n n) rfl (by kernel_rfl) (fun w' => by go_simp) ?_
    refine Grd.mix_pure (.int .i64 (n : Int)) rfl (by kernel_rfl) (fun w' => by go_simp) ?_
    refine Grd.mix_pure (.pointer (some ⟨gh, 8, none⟩)) rfl (by kernel_rfl) (fun w' => by go_simp) ?_
    refine Grd.mix_pure (.pointer (some ⟨gh, 8, none⟩)) rfl (by kernel_rfl) (fun w' => by go_simp) ?_
    refine Grd.mix_still (.int .i64 (kk : Int)) rfl (by kernel_rfl) (fun w' hw' => by have := k8 w' hw'; go_simp) ?_
    refine Grd.mix_pure (.pointer (some ⟨gh, 8, none⟩)) rfl (by kernel_rfl) (fun w' => by go_simp) ?_
    refine Grd.mix_pure (.pointer (some ⟨gh, 9, none⟩)) rfl (by kernel_rfl) (fun w' => by go_simp) ?_
    refine Grd.mix_still (.int .i64 (mm : Int)) rfl (by kernel_rfl) (fun w' hw' => by have := k9 w' hw'; go_simp) ?_
    refine Grd.mix_pure (.int .i64 (n : Int)) rfl (by kernel_rfl) (fun w' => by go_simp) ?_
    refine Grd.mix_pure (.bool true) rfl (by kernel_rfl) (fun w' => by go_simp) ?_
    refine Grd.mix_pure (.bool true) rfl (by kernel_rfl) (fun w' => by go_simp) ?_
    refine Grd.mix_pure (.slice (some ⟨gs, 0, none⟩) n n) rfl (by kernel_rfl) (fun w' => by go_simp) ?_
    have hrr : Blk Wd6 (g + 1) 43 (headC zeroH) := (HL.out.2.2.1.ext HX56.out).ext HXD.out
    have k0 := setRow_blk Wd6 (g + 1) 43 (headC zeroH) (seg (headC zeroH) 0 (headC (hdS x)).toList) hrr
    have k1 : Blk (Wd6.setRow (g + 1) (seg (headC zeroH) 0 (headC (hdS x)).toList)) (g + 1) 43 (headC (hdS x)) := (seg_all (headC zeroH) (headC (hdS x)) rfl) ▸ k0
    have k2 := setRow_touch Wd6 (g + 1) (seg (headC zeroH) 0 (headC (hdS x)).toList)
    obtain ⟨W9, hW9⟩ : ∃ W9, W9 = Wd6.setRow (g + 1) (seg (headC zeroH) 0 (headC (hdS x)).toList) := ⟨_, rfl⟩
    rw [← hW9] at k1 k2
    have hx9 : Ext w W9 := k2.extNew ((HL.out.2.2.2.1.trans HX56.out).trans HXD.out) (by rw [HL.out.2.2.2.2.2]; omega)
    have hle : w5.heap.size ≤ W9.heap.size := Nat.le_trans HX6.out.le (Nat.le_trans HXD.out.le k2.size)
    have hg4 : g + 1 < w4.heap.size := Nat.lt_of_lt_of_le (Blk.lt HL.out.2.2.1) HX4.out.le
    have h69 : Ext w5 Wd6 := HX6.out.trans HXD.out
    have hT : Touch (fun b => b = g + 1) w5 W9 := ⟨k2.os.trans h69.os, k2.tape.trans h69.tape, k2.output.trans h69.output, hle, fun k hk hne => (k2.block k (Nat.lt_of_lt_of_le hk h69.le) hne).trans (h69.block k hk)⟩
    have hb9 : Blk W9 gh 43 (headC (hdS x)) := Blk.touch (CHH.out _ HXD.out) k2 (by have := HL.out.2.2.2.2.1; omega)
    have HT := Lib.hid (And.intro hT (And.intro hg4 (And.intro hle hb9)))
    clear hT hg4 hle h69 hb9
    have HW9 := Lib.hid hW9
    clear k0 hW9
    refine Grd.mix_storeC W9 rfl (by kernel_rfl) (by rw [HW9.out]; exact store_run 43 _ _ rfl (g + 1) 0 (headC (hdS x)) (by go_simp) (by go_simp) 43 (headC zeroH) hrr (by kernel_rfl) (Nat.le_refl 16) (headC_ones _)) HT.out.2.2.2 ?_
    clear HW9
    refine Grd.mix_pure (.bool true) rfl (by kernel_rfl) (fun w' => by go_simp) ?_
    refine Grd.mix_nil ?_
    go_simp
    go_wp2_with fail
    refine bodyPost_ret (results_cellM Try.results32 _ W9 ⟨g + 1, 0, none⟩ (headC (hdS x)) _ rfl k1.cells Try.underlying43 rfl (by kernel_rfl)) rfl ⟨.inr ⟨HFIN.out.1, gs, l, ?_, HFIN.out.2.1, HFIN.out.2.2.1, ?_, ?_, ?_⟩, hx9⟩
    · rw [HN.out]; rfl
    · exact Nat.le_trans (by rw [← HL.out.2.2.2.2.2]; exact Nat.le_trans (Nat.le_of_lt (Blk.lt HL.out.2.1)) HX4.out.le) HFIN.out.2.2.2.2.2.2.2
    · exact Nat.lt_of_lt_of_le HFIN.out.2.2.2.2.1 HT.out.2.2.1
    · refine Parts.mk8 (B := w4.heap.size) (Blk.touch HFIN.out.2.2.2.2.2.1 HT.out.1 (by have := HT.out.2.1; have := HFIN.out.2.2.2.2.2.2.2; omega)) HFIN.out.2.1 HFIN.out.2.2.1 fun i p hp => ?_
      exact (HFIN.out.2.2.2.2.2.2.1 i p hp).touch HT.out.1 fun b _ e => by rw [e]; exact HT.out.2.1
end Go.Proofs.Ytdoeelfcihdmbaa
