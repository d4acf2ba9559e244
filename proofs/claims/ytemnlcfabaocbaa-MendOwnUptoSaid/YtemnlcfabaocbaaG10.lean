/-
  Texts of mine, merged: MendV MendR Ask Own0.
-/
import Derived.Test.YtemnlcfabaocbaaG3
import Derived.Test.YtemnlcfabaocbaaG4
import Derived.Test.YtemnlcfabaocbaaG5
import Derived.Test.YtemnlcfabaocbaaG6
import Derived.Test.YtemnlcfabaocbaaG9
import Derived.WalkMore
import Derived.Deep.LoopGhost
/-
  Layer 5, plain: how mend.Mend's memory goes on by a column.
-/
namespace Go.Proofs.Ytemnlcfabaocbaa
open Go.RowKit Gf
set_option maxRecDepth 20000
set_option linter.unusedVariables false

def updC {α : Type} (f : Nat → α) (c : Nat) (x : α) : Nat → α := fun c' => if c' = c then x else f c'
theorem updC_same {α : Type} (f : Nat → α) (c : Nat) (x : α) : updC f c x c = x := if_pos rfl
theorem updC_below {α : Type} (f : Nat → α) (c : Nat) (x : α) {c' : Nat} (h : c' < c) : updC f c x c' = f c' := if_neg (by omega)
def markL (M : List Bool) (l : List Nat) : List Bool := l.foldl (fun M i => M.set i true) M
theorem markL_nil (M : List Bool) : markL M [] = M := rfl
theorem markL_snoc (M : List Bool) (l : List Nat) (i : Nat) : markL M (l ++ [i]) = (markL M l).set i true := by simp [markL]
theorem markL_get (i : Nat) : ∀ (l : List Nat) (M : List Bool) , (markL M l)[i]? = (M[i]?).map fun b => b || decide (i ∈ l)
  | [], M => by simp [markL]
  | a :: l, M => by
    show (markL (M.set a true) l)[i]? = _
    rw [markL_get i l (M.set a true), List.getElem?_set]
    by_cases e : a = i
    · subst e
      by_cases h : a < M.length
      · simp [h]
      · simp [h]
    · have e' : i ≠ a := fun h => e h.symm
      simp [e, e']
theorem markL_length (M : List Bool) (l : List Nat) : (markL M l).length = M.length := by
  induction l generalizing M with
  | nil => rfl
  | cons a l ih => show (markL (M.set a true) l).length = _; rw [ih, List.length_set]
theorem metTo_length (n : Nat) (B : Nat → List Nat) (L : Nat) : (metTo n B L).length = n := by simp [metTo]
theorem metTo_get {n : Nat} (B : Nat → List Nat) (L : Nat) {i : Nat} (h : i < n) : (metTo n B L)[i]? = some ((List.range L).any fun c => decide (i ∈ B c)) := by simp [metTo, h]
theorem metTo_step (n : Nat) (B : Nat → List Nat) (c : Nat) (bad : List Nat) : markL (metTo n B c) bad = metTo n (updC B c bad) (c + 1) := by
  apply List.ext_getElem?
  intro i
  rw [markL_get]
  by_cases h : i < n
  · rw [metTo_get B c h, metTo_get _ _ h, Option.map_some, List.range_succ, List.any_append, any_congr (B := updC B c bad) (B' := B) (L := c) (fun c' hc => updC_below _ _ _ hc)]
    simp [updC_same]
  · rw [List.getElem?_eq_none (by rw [metTo_length]; omega), List.getElem?_eq_none (by rw [metTo_length]; omega)]; rfl
theorem metTo_skip (n : Nat) (B : Nat → List Nat) (c : Nat) : metTo n B c = metTo n (updC B c []) (c + 1) := by rw [← metTo_step, markL_nil]
/-- The places that were wrong, below k. -/
def badP (B : Nat → List Nat) (L k : Nat) : List Nat := (List.range k).filter fun i => (List.range L).any fun c => decide (i ∈ B c)
theorem badP_all (n : Nat) (B : Nat → List Nat) (L : Nat) : badP B L n = badTo n B L := rfl
theorem badP_yes {B : Nat → List Nat} {L k : Nat} (h : ((List.range L).any fun c => decide (k ∈ B c)) = true) : badP B L (k + 1) = badP B L k ++ [k] := by
  simp only [badP, List.range_succ, List.filter_append, List.filter_cons, h, List.filter_nil, if_true]
theorem badP_no {B : Nat → List Nat} {L k : Nat} (h : ((List.range L).any fun c => decide (k ∈ B c)) = false) : badP B L (k + 1) = badP B L k := by
  simp only [badP, List.range_succ, List.filter_append, List.filter_cons, h, List.filter_nil, Bool.false_eq_true, if_false, List.append_nil]
theorem badP_le (B : Nat → List Nat) (L k : Nat) : (badP B L k).length ≤ k := by
  have := List.length_filter_le (fun i => (List.range L).any fun c => decide (i ∈ B c)) (List.range k)
  simpa [badP] using this
theorem rowTo_put (O : Nat → List E) (L c i : Nat) (hc : c < L) (o : List E) : (rowTo O L c i).set c (o.getD i 0) = rowTo (updC O c o) L (c + 1) i :=
  rowTo_set O L c i _ o hc rfl _ (fun _ _ => rfl) (rowTo_length _ _ _ _)
theorem MSt.congr {W0 wr : World} {N L m : Nat} {pts : List E} {R R' : Nat → List E} {M : List Bool} (h : MSt W0 wr N L m pts R M) (e : ∀ i, i < N → R i = R' i) : MSt W0 wr N L m pts R' M :=
  ⟨h.ext, h.list, fun i hi => by rw [← e i hi]; exact h.rows i hi, h.met, h.wl, h.wrows⟩
theorem MSt.col {W0 wr : World} {N L m c : Nat} {pts : List E} {O : Nat → List E} {o : List E} {M : List Bool} (h : MSt W0 wr N L m pts (fun i' => (rowTo O L c i').set c (o.getD i' 0)) M) (hc : c < L) : MSt W0 wr N L m pts (rowTo (updC O c o) L (c + 1)) M :=
  h.congr fun i _ => rowTo_put O L c i hc o
theorem cols_step {k : Int} {rs : List (List E)} {O : Nat → List E} {B : Nat → List Nat} {c : Nat} {o : List E} {bad : List Nat} (h : ∀ c', c' < c → ColR k rs c' (O c') (B c') 0) (h2 : ColR k rs c o bad 0) : ∀ c', c' < c + 1 → ColR k rs c' (updC O c o c') (updC B c bad c') 0 := fun c' hc' => by
  by_cases e : c' = c
  · subst e; rw [updC_same, updC_same]; exact h2
  · rw [updC_below _ _ _ (by omega), updC_below _ _ _ (by omega)]; exact h c' (by omega)
theorem col_straight {kn c : Nat} {rs : List (List E)} {ats : List Nat} {f : List E} (hg : GoodR (kn : Int) rs) (hats : ats = (thereL (lostL rs)).take kn) (hk : kn ≤ (thereL (lostL rs)).length) (hf1 : f.length = (ptsL ats).length)
    (hf2 : ∀ i, i < (ptsL ats).length → evL f ((ptsL ats).getD i 0) = if i < (ptsL ats).length then (valsL (colL rs c) ats).getD i 0 else 0)
    (hrest : ∀ j (h : j < (thereL (lostL rs)).length), kn ≤ j → evL f (E.of (thereL (lostL rs))[j]) = (colL rs c).getD (thereL (lostL rs))[j] 0) : ColR (kn : Int) rs c (colTo f rs.length) [] 0 := by
  have hal : ats.length = kn := by rw [hats, List.length_take]; omega
  have := straight_col (k := kn) (word := colL rs c) (lost := lostL rs) (hg.col c) hk (f := f) (by rw [hf1, pts_length, hal]) fun i hi => by
    obtain ⟨j, hj, rfl⟩ := List.getElem_of_mem hi
    by_cases h : kn ≤ j
    · exact hrest j hj h
    · have hja : j < ats.length := by omega
      have haj : ats[j] = (thereL (lostL rs))[j] := by subst hats; simp
      have := hf2 j (by rw [pts_length]; exact hja)
      rw [pts_length, if_pos hja] at this
      simp only [ptsL, valsL, List.getD_eq_getElem?_getD, List.getElem?_map, List.getElem?_eq_getElem hja, Option.map_some, Option.getD_some, haj] at this
      rw [List.getD_eq_getElem?_getD]
      exact this
  rw [colL_length] at this
  exact this
theorem ColR.fine {k : Int} {rs : List (List E)} {c : Nat} {o : List E} {bad : List Nat} (h : ColR k rs c o bad 0) : o.length = rs.length ∧ (∀ i ∈ bad, i < rs.length) ∧ bad.length ≤ rs.length := by
  rcases h with ⟨_, _, _, h⟩ | ⟨_, _, _, _, h⟩ | ⟨_, _, _, _, _, h⟩ | ⟨hg, _, p, _, rfl, rfl, _⟩
  · omega
  · omega
  · omega
  · refine ⟨by rw [colTo_length, colL_length], fun i hi => ?_, ?_⟩
    · have := there_mem (List.mem_filter.1 hi).1
      rwa [lostL_length] at this
    · have h1 := badAt_le p (colL rs c) (thereL (lostL rs))
      have h2 := there_le (lostL rs)
      rw [lostL_length] at h2
      omega
end Go.Proofs.Ytemnlcfabaocbaa
/-
  Layer 5: mend.Mend.
-/
namespace Go.Proofs.Ytemnlcfabaocbaa
open Go.RowKit Gf
set_option maxRecDepth 20000
set_option linter.unusedVariables false

/-- The rows that are answered: each of its own, no two of one block. -/
structure RowsOut (w : World) (B : Nat) (v : Value) (rs : List (List E)) : Prop where
  vals : ∃ V : List Value, Own w B 24 v V ∧ V.length = rs.length ∧ (∀ i u, V[i]? = some u → Own w B 5 u (bs (rs.getD i []))) ∧ FarApart V
def MendOut (k : Int) (rs : List (List E)) (w : World) (e : Ending) (w' : World) : Prop :=
  ∃ va vb out bad ee, e = .returned (.tuple #[va, vb, .int .i64 ee]) ∧ MendSpec k rs out bad ee ∧ RowsOut w' w.heap.size va out ∧ Own w' w.heap.size 3 vb (ints bad) ∧ Ext w w'
theorem RowsOut.none (w : World) (B : Nat) : RowsOut w B (.slice none 0 0) [] := ⟨[], Own.nil _ _ _, rfl, fun i u h => by simp at h, by intro i j a b h; simp at *⟩
theorem mendOut_bad {k : Int} {rs : List (List E)} {w w' : World} {ee : Int} (h : MendSpec k rs [] [] ee) (hx : Ext w w') : MendOut k rs w (.returned (.tuple #[.slice none 0 0, .slice none 0 0, .int .i64 ee])) w' :=
  ⟨_, _, [], [], ee, rfl, h, RowsOut.none _ _, Own.nil _ _ _, hx⟩

theorem MSt.rowsOut {W0 wr : World} {B N L m : Nat} {pts : List E} {O : Nat → List E} {M : List Bool} {rs : List (List E)} (h : MSt W0 wr N L m pts (rowTo O L L) M) (hN : rs.length = N) (hB : B ≤ W0.heap.size) : RowsOut wr B (.slice (some ⟨W0.heap.size, 0, none⟩) N N) (outTo rs O L) := by
  refine ⟨rowsV (W0.heap.size + 1) L N, h.list.mono hB, by rw [rowsV_length, outTo, List.length_map, List.length_range, hN], fun i u hu => ?_, fun i j a b ha hb hne => ?_⟩
  · have hi : i < N := by
      have := (List.getElem?_eq_some_iff.1 hu).1
      rwa [rowsV_length] at this
    rw [rowsV_get _ _ _ _ hi] at hu
    cases hu
    have h1 := (h.rows i hi).mono hB
    rw [rowTo_all] at h1
    have e : (outTo rs O L).getD i [] = (List.range L).map fun c => (O c).getD i 0 := by
      rw [List.getD_eq_getElem?_getD, outTo, List.getElem?_map, List.getElem?_range (by omega)]; rfl
    rw [e]; exact h1
  · have hi : i < N := by
      have := (List.getElem?_eq_some_iff.1 ha).1
      rwa [rowsV_length] at this
    have hj : j < N := by
      have := (List.getElem?_eq_some_iff.1 hb).1
      rwa [rowsV_length] at this
    rw [rowsV_get _ _ _ _ hi] at ha
    rw [rowsV_get _ _ _ _ hj] at hb
    cases ha
    cases hb
    right
    simp only [Value.ownBlock, ne_eq, Option.some.injEq]
    omega
set_option maxHeartbeats 8000000 in
theorem mendR_n (k : Int) (A : Option Addr) (N ca : Nat) (rs : List (List E)) (w : World) (hN : rs.length = N) (hr : RdRows w A rs) (hwk : (Lit.int .i64 k).wf = true) (hNN : N ≤ 9000000000000000000) (hb : ∀ r ∈ rs, r.length ≤ 1000000000) :
    Calls Try.prog 68 #[.int .i64 k, .slice A N ca] w (MendOut k rs w) := by
  have HN := Lib.hid hN
  have HB := Lib.hid hb
  have HR := Lib.hid hr
  clear hN hb hr
  have hmo : Try.prog.follows Departure.mixedOrders = true := by kernel_rfl
  rcases (show k < 1 ∨ 1 ≤ k by omega) with h1 | h1
  · have d1 : decide (k < 1) = true := decide_eq_true h1
    go_enter Try.func68, Try.ntmps68
    go_wp2
    go_step3
    go_wp2
    rw [Exit.noGoto_ret]
    go_ret3
    exact mendOut_bad (.inl ⟨fun h => by have := h.1; omega, rfl, rfl, rfl⟩) (Ext.refl _)
  obtain ⟨kn, rfl⟩ := Int.eq_ofNat_of_zero_le (show 0 ≤ k by omega)
  have d1 : decide ((kn : Int) < 1) = false := decide_eq_false (by omega)
  rcases (show N < kn ∨ kn ≤ N by omega) with h2 | h2
  · have d2 : decide ((N : Int) < (kn : Int)) = true := decide_eq_true (by omega)
    go_enter Try.func68, Try.ntmps68
    go_wp2
    go_step3
    go_wp2
    rw [Exit.noGoto_ret]
    go_ret3
    exact mendOut_bad (.inl ⟨fun h => by have := h.2.1; rw [HN.out] at this; omega, rfl, rfl, rfl⟩) (Ext.refl _)
  have d2 : decide ((N : Int) < (kn : Int)) = false := decide_eq_false (by omega)
  rcases (show 255 < N ∨ N ≤ 255 by omega) with h3 | h3
  · have d3 : decide (255 < (N : Int)) = true := decide_eq_true (by omega)
    go_enter Try.func68, Try.ntmps68
    go_wp2
    go_step3
    go_wp2
    rw [Exit.noGoto_ret]
    go_ret3
    exact mendOut_bad (.inl ⟨fun h => by have := h.2.2; rw [HN.out] at this; omega, rfl, rfl, rfl⟩) (Ext.refl _)
  have d3 : decide (255 < (N : Int)) = false := decide_eq_false (by omega)
  have HG : Hid (GoodR (kn : Int) rs) := Lib.hid ⟨by omega, by rw [HN.out]; omega, by rw [HN.out]; omega⟩
  go_enter Try.func68, Try.ntmps68
  go_wp2
  go_step3
  go_wp2_with fail
  refine (measure_n A N ca rs _ HN.out HR.out (by omega) (fun r hr => by have := HB.out r hr; omega)).mono ?_
  rintro e w1 (⟨L, v, rfl, hm, ho, hx⟩ | ⟨rfl, hm, hx⟩)
  case inr =>
    have HX := Lib.hid hx
    have HM := Lib.hid hm
    clear hx hm
    go_wp2_with fail
    rw [Exit.noGoto_ret]
    go_ret3
    exact mendOut_bad (.inr (.inl ⟨HG.out, HM.out, rfl, rfl, rfl⟩)) HX.out
  obtain ⟨Al, cl, rfl, hrl, hcl, hml, -⟩ := ho.slice
  rw [bools_length, lostL_length, HN.out]
  have HLL := Lib.hid hrl
  have HM := Lib.hid hm
  have HX := Lib.hid hx
  clear hrl hm hx ho
  go_wp2_with fail
  refine (there_n Al N cl (lostL rs) _ (by rw [lostL_length, HN.out]) HLL.out (by omega)).mono ?_
  rintro e w2 ⟨v, rfl, ho, hx2⟩
  obtain ⟨At, ct, rfl, hrt, hct, hmt, -⟩ := ho.slice
  rw [ints_length] at hct ⊢
  obtain ⟨nt, hnt⟩ : ∃ n, n = (thereL (lostL rs)).length := ⟨_, rfl⟩
  rw [← hnt] at hct ⊢
  have HNT := Lib.hid hnt
  have HRT := Lib.hid hrt
  have HX2 := Lib.hid (HX.out.trans hx2)
  replace HLL := Lib.hid (HLL.out.ext hx2)
  have hntN : nt ≤ N := by rw [hnt]; have := there_le (lostL rs); rw [lostL_length, HN.out] at this; exact this
  clear hnt hrt hx2 ho
  rcases (show nt < kn ∨ kn ≤ nt by omega) with h4 | h4
  · have d4 : decide ((nt : Int) < (kn : Int)) = true := decide_eq_true (by omega)
    go_wp2_with fail
    rw [Exit.noGoto_ret]
    go_ret3
    exact mendOut_bad (.inr (.inr (.inl ⟨L, HG.out, HM.out, by rw [← HNT.out]; omega, rfl, rfl, rfl⟩))) HX2.out
  have d4 : decide ((nt : Int) < (kn : Int)) = false := decide_eq_false (by omega)
  have hmkN : ∀ w, (Instr.makeSlice 77 (.int .i64 (N : Int)) (.int .i64 (N : Int))).run Try.prog w = .ok (.slice (some ⟨w.heap.size, 0, none⟩) N N) (w.alloc (.cells (zrow (.slice none 0 0) N) 24)) := fun w => run_make_elt eltRowU8 _ _ N (by omega) w
  have hLb : L ≤ 1000000000 := by
    rcases HM.out.2 with h | ⟨r, hr, hl⟩
    · omega
    · rw [← hl]; exact HB.out r hr
  have hmkL : ∀ w, (Instr.makeSlice 24 (.int .i64 (L : Int)) (.int .i64 (L : Int))).run Try.prog w = .ok (.slice (some ⟨w.heap.size, 0, none⟩) L L) (w.alloc (.cells (zrow (.int .u8 0) L) 5)) := fun w => run_make_elt eltU8 _ _ L (by omega) w
  have hl0 : Own (w2.alloc (.cells (zrow (.slice none 0 0) N) 24)) w2.heap.size 24 (.slice (some ⟨w2.heap.size, 0, none⟩) N N) (half (rowsV (w2.heap.size + 1) L N) (.slice none 0 0) 0) := by
    have h1 := (Blk.new w2 24 (zrow (.slice none 0 0) N)).own (B := w2.heap.size) (n := N) (cap := N) (Nat.le_refl _) (Nat.le_refl _) (by simp only [maxLen]; omega) (zrow_size _ _)
    rw [zrow_list, List.take_of_length_le (by simp)] at h1
    rw [half_zero, rowsV_length]; exact h1
  have H0 := Lib.hid (And.intro ((Ext.refl w2).alloc (.cells (zrow (.slice none 0 0) N) 24)) hl0)
  clear hl0
  go_wp2_with fail
  go_loopw [64] (fun i wr => ∃ k : Nat, k ≤ N ∧ i = .int .i64 k ∧ Ext w2 wr ∧ wr.heap.size = w2.heap.size + 1 + k ∧ Own wr w2.heap.size 24 (.slice (some ⟨w2.heap.size, 0, none⟩) N N) (half (rowsV (w2.heap.size + 1) L N) (.slice none 0 0) k) ∧ ∀ i', i' < k → Own wr w2.heap.size 5 (.slice (some ⟨w2.heap.size + 1 + i', 0, none⟩) L L) (bs (List.replicate L 0))) (fun i _ => N - (intOf i).toNat)
  case atStart => exact ⟨0, by omega, rfl, H0.out.1, by simp, H0.out.2, fun i' h => by omega⟩
  case round =>
    clear H0
    obtain ⟨W, rfl⟩ : ∃ W, W = wr := ⟨_, rfl⟩
    obtain ⟨i, hi, rfl, hx, hsz, hol, hor⟩ := hrel
    by_cases hlt : i < N
    · have hxa : Ext W (W.alloc (.cells (zrow (.int .u8 0) L) 5)) := (Ext.refl W).alloc _
      have hol1 := hol.ext hxa
      have f1 := hol1.frozen i
      have hrl : i < (rowsV (w2.heap.size + 1) L N).length := by rw [rowsV_length]; exact hlt
      obtain ⟨u1, c1⟩ : ∃ u, (W.alloc (.cells (zrow (.int .u8 0) L) 5)).cell? ⟨w2.heap.size, i, none⟩ = some u := ⟨_, hol1.cell (List.getElem?_eq_getElem (show i < (half (rowsV (w2.heap.size + 1) L N) (.slice none 0 0) i).length by rw [half_length _ _ _ (by omega)]; exact hrl))⟩
      have hrow := (Blk.new W 5 (zrow (.int .u8 0) L)).own (B := w2.heap.size) (n := L) (cap := L) (by rw [hsz]; omega) (Nat.le_refl _) (by simp only [maxLen]; omega) (zrow_size _ _)
      rw [zrow_list, List.take_of_length_le (by simp), hsz] at hrow
      have hz : (List.replicate L (.int .u8 0) : List Value) = bs (List.replicate L 0) := by rw [bs, List.map_replicate]; rfl
      rw [hz] at hrow
      have hrow2 := hrow.far (p := ⟨w2.heap.size, i, none⟩) (by simp only [Value.ownBlock, ne_eq, Option.some.injEq]; omega) (.slice (some ⟨w2.heap.size + 1 + i, 0, none⟩) L L)
      have hol2 := hol1.set i (.slice (some ⟨w2.heap.size + 1 + i, 0, none⟩) L L)
      have e := half_step (rowsV (w2.heap.size + 1) L N) (.slice none 0 0) i hrl
      have e2 := rowsV_get (w2.heap.size + 1) L N i hlt
      rw [List.getElem?_eq_getElem hrl] at e2
      rw [Option.some.inj e2] at e
      rw [e] at hol2
      have hx2 := (hx.trans hxa).new (p := ⟨w2.heap.size, i, none⟩) (Nat.le_refl _) (.slice (some ⟨w2.heap.size + 1 + i, 0, none⟩) L L)
      have hor2 : ∀ i', i' < i + 1 → Own ((W.alloc (.cells (zrow (.int .u8 0) L) 5)).setCell ⟨w2.heap.size, i, none⟩ (.slice (some ⟨w2.heap.size + 1 + i, 0, none⟩) L L)) w2.heap.size 5 (.slice (some ⟨w2.heap.size + 1 + i', 0, none⟩) L L) (bs (List.replicate L 0)) := fun i' hi' => by
        rcases (show i' < i ∨ i' = i by omega) with h | rfl
        · exact ((hor i' h).ext hxa).far (p := ⟨w2.heap.size, i, none⟩) (by simp only [Value.ownBlock, ne_eq, Option.some.injEq]; omega) _
        · exact hrow2
      have HS := Lib.hid (And.intro hx2 (And.intro hol2 hor2))
      have HSZ := Lib.hid hsz
      have hiN : (i : Int) < (N : Int) := by omega
      clear hx hsz hol hor hxa hol1 hrow hrow2 hol2 e e2 hx2 hor2 hz
      go_wp2_with fail
      rw [HSZ.out]
      go_roundw
      case rel => exact ⟨i + 1, by omega, by go_num, HS.out.1, by simp [HSZ.out]; omega, HS.out.2.1, HS.out.2.2⟩
      case measure => simp [intOf]; omega
    · obtain rfl : N = i := by omega
      have hfull : half (rowsV (w2.heap.size + 1) L N) (.slice none 0 0) N = rowsV (w2.heap.size + 1) L N := by
        have := half_done (rowsV (w2.heap.size + 1) L N) (.slice none 0 0)
        rwa [rowsV_length] at this
      rw [hfull] at hol
      have HS := Lib.hid (And.intro hx (And.intro hol hor))
      have HSZ := Lib.hid hsz
      clear hx hol hor hsz hfull
      have hmkB : ∀ w, (Instr.makeSlice 67 (.int .i64 (N : Int)) (.int .i64 (N : Int))).run Try.prog w = .ok (.slice (some ⟨w.heap.size, 0, none⟩) N N) (w.alloc (.cells (zrow (.bool false) N) 4)) := fun w => run_make_elt eltBool _ _ N (by omega) w
      go_wp2_with fail
      obtain ⟨Wm, hWm⟩ : ∃ x, x = W.alloc (.cells (zrow (.bool false) N) 4) := ⟨_, rfl⟩
      have hszm : Wm.heap.size = w2.heap.size + N + 2 := by rw [hWm]; simp [HSZ.out]; omega
      have hxm : Ext W Wm := by rw [hWm]; exact (Ext.refl W).alloc _
      have hmet : Own Wm w2.heap.size 4 (.slice (some ⟨w2.heap.size + 1 + N, 0, none⟩) N N) (bools (List.replicate N false)) := by
        have h1 := (Blk.new W 4 (zrow (.bool false) N)).own (B := w2.heap.size) (n := N) (cap := N) (by rw [HSZ.out]; omega) (Nat.le_refl _) (by simp only [maxLen]; omega) (zrow_size _ _)
        rw [zrow_list, List.take_of_length_le (by simp), HSZ.out, ← hWm] at h1
        have e : bools (List.replicate N false) = List.replicate N (.bool false) := by rw [bools, List.map_replicate]
        rw [e]; exact h1
      have hrdk : Rd Wm At (ints ((thereL (lostL rs)).take kn)) := by
        have h1 := (HRT.out.ext (HS.out.1.trans hxm)).take kn
        rwa [show (ints (thereL (lostL rs))).take kn = ints ((thereL (lostL rs)).take kn) from by simp [ints, List.map_take]] at h1
      have hlk : ((thereL (lostL rs)).take kn).length = kn := by rw [List.length_take, ← HNT.out]; omega
      rw [← hWm, HSZ.out]
      clear hWm
      refine (weights_n At N kn ct ((thereL (lostL rs)).take kn) Wm hlk hrdk (by omega) (by omega) ((there_nodup _).sublist (List.take_sublist _ _)) (fun a ha => by have := there_mem (List.mem_of_mem_take ha); rw [lostL_length, HN.out] at this; exact this)).mono ?_
      rintro e w3 ⟨rfl, hst⟩
      have HMS : Hid (MSt w2 w3 N L kn (ptsL ((thereL (lostL rs)).take kn)) (fun _ => List.replicate L 0) (List.replicate N false)) := Lib.hid (by
        have hx3 := hxm.trans hst.ext
        have hfull : half (rowsV (Wm.heap.size + 2) kn N) (.slice none 0 0) N = rowsV (Wm.heap.size + 2) kn N := by
          have := half_done (rowsV (Wm.heap.size + 2) kn N) (.slice none 0 0)
          rwa [rowsV_length] at this
        refine ⟨HS.out.1.trans hx3, HS.out.2.1.ext hx3, fun i hi => (HS.out.2.2 i hi).ext hx3, hmet.ext hst.ext, ?_, fun i hi => ?_⟩
        · have h1 := hst.list.mono (show w2.heap.size ≤ Wm.heap.size by omega)
          rwa [hfull, hszm] at h1
        · have h1 := (hst.rows i hi).mono (show w2.heap.size ≤ Wm.heap.size by omega)
          rwa [hszm] at h1)
      rw [hszm]
      clear hst hmet hrdk hxm hszm HS HSZ
      go_wp2_with fail
      go_step3
      go_wp2_with fail
      go_loopg [81] L (fun g i wr => ∃ (c : Nat) (O : Nat → List E) (B : Nat → List Nat), c + g = L ∧ i = .int .i64 c ∧ (∀ c', c' < c → ColR (kn : Int) rs c' (O c') (B c') 0) ∧ MSt w2 wr N L kn (ptsL ((thereL (lostL rs)).take kn)) (rowTo O L c) (metTo N B c))
      case atStart =>
        refine ⟨0, fun _ => [], fun _ => [], by omega, rfl, fun c' h => by omega, ?_⟩
        have e1 : (rowTo (fun _ => []) L 0) = fun _ => List.replicate L 0 := funext fun i => rowTo_zero _ _ _
        have e2 : metTo N (fun _ => []) 0 = List.replicate N false := by
          apply List.ext_getElem
          · simp [metTo]
          · intro j h1 h2; simp [metTo]
        rw [e1, e2]; exact HMS.out
      case round =>
        clear HMS
        obtain ⟨W1, rfl⟩ : ∃ W, W = wr := ⟨_, rfl⟩
        obtain ⟨c, O, Bd, hc, rfl, hcols, hms⟩ := hrel
        have HC := Lib.hid hcols
        have HMS := Lib.hid hms
        clear hcols hms
        by_cases hlt : c < L
        · obtain ⟨g, rfl⟩ : ∃ g, gk = g + 1 := ⟨gk - 1, by omega⟩
          obtain ⟨ats, hats⟩ : ∃ l, l = (thereL (lostL rs)).take kn := ⟨_, rfl⟩
          rw [← hats] at HMS hlk
          have hpn : (ptsL ats).Nodup := pts_nodup (by rw [hats]; exact (there_nodup _).sublist (List.take_sublist _ _)) fun i hi => by
            rw [hats] at hi
            have := there_mem (List.mem_of_mem_take hi)
            rw [lostL_length, HN.out] at this; omega
          obtain ⟨f, hf1, hf2, hf3⟩ := lagrange hpn (valsL (colL rs c) ats) (ptsL ats).length (Nat.le_refl _)
          have HAT := Lib.hid hats
          have HF := Lib.hid (And.intro hf1 (And.intro hf2 hf3))
          clear hats hpn hf1 hf2 hf3
          go_wp2_with fail
          go_loopw [85] (fun i85 wr => ∃ i : Nat, i ≤ N ∧ i85 = .int .i64 i ∧ MSt w2 wr N L kn (ptsL ats) (fun i' => if i' < i then (rowTo O L c i').set c (evL f (E.of i')) else rowTo O L c i') (metTo N Bd c)) (fun i85 _ => N - (intOf i85).toNat)
          case atStart => exact ⟨0, by omega, rfl, by simpa using HMS.out⟩
          case round =>
            clear HMS
            obtain ⟨W2, rfl⟩ : ∃ W, W = wr := ⟨_, rfl⟩
            obtain ⟨i, hi, rfl, hms⟩ := hrel
            have HMS := Lib.hid hms
            clear hms
            by_cases hlt2 : i < N
            · have hknt : kn ≤ nt := h4
              go_wp2_with fail
              go_loopw [18, 92] (fun sm i92 wr => ∃ j : Nat, j ≤ kn ∧ i92 = .int .i64 j ∧ sm = .int .u8 ((sumN j (fun x => wgt (ptsL ats) (E.of i) x * (valsL (colL rs c) ats).getD x 0)).val : Int) ∧ Ext W2 wr) (fun _ i92 _ => kn - (intOf i92).toNat)
              case atStart => exact ⟨0, by omega, rfl, rfl, Ext.refl _⟩
              case round =>
                obtain ⟨W3, rfl⟩ : ∃ W, W = wr := ⟨_, rfl⟩
                obtain ⟨j, hj, rfl, rfl, hx3⟩ := hrel
                have HMS3 := Lib.hid (HMS.out.beyond hx3)
                have HX3 := Lib.hid hx3
                clear hx3
                by_cases hlt3 : j < kn
                · have hjt : j < (thereL (lostL rs)).length := by rw [← HNT.out]; omega
                  obtain ⟨ad, rfl, hc1⟩ := (HRT.out.ext HMS3.out.ext).at_ (ints_get (thereL (lostL rs)) j hjt)
                  obtain ⟨av, hav⟩ : ∃ x, x = (thereL (lostL rs))[j] := ⟨_, rfl⟩
                  have hmem : av ∈ thereL (lostL rs) := by rw [hav]; exact List.getElem_mem hjt
                  have hjat : j < ats.length := by rw [hlk]; exact hlt3
                  have haj : ats[j] = av := by
                    have : ∀ (l : List Nat) (e : l = (thereL (lostL rs)).take kn) (h : j < l.length), l[j] = (thereL (lostL rs))[j] := fun l e h => by subst e; simp
                    rw [hav]; exact this ats HAT.out hjat
                  rw [← hav] at hc1
                  clear hav
                  obtain ⟨ha1, ha2⟩ := there_mem_iff.1 hmem
                  rw [lostL_length] at ha1
                  have haN : av < N := by rw [← HN.out]; exact ha1
                  have hcr : c < rs[av].length := by
                    have h0 : rs[av].length ≠ 0 := by simpa [lostL] using ha2
                    rcases HM.out.1 rs[av] (List.getElem_mem ha1) with h | h
                    · exact absurd h h0
                    · omega
                  obtain ⟨bd, B1, c1, hA, hc2, hr2, -, -⟩ := (HR.out.ext (HX2.out.trans HMS3.out.ext)).at_ ha1
                  subst hA
                  obtain ⟨dd, rfl, hc3⟩ := hr2.byte hcr
                  have hc4 := HMS3.out.wl.cell (j := i) (rowsV_get (w2.heap.size + N + 4) kn N i hlt2)
                  have hc5 := (HMS3.out.wrows i hlt2).cell (j := j) (bs_get _ j (by rw [wrow_length]; exact hlt3))
                  rw [wrow_get] at hc5
                  obtain ⟨wv, hwv⟩ : ∃ x, x = wgt (ptsL ats) (E.of i) j := ⟨_, rfl⟩
                  obtain ⟨rv, hrv⟩ : ∃ x, x = (rs[av])[c] := ⟨_, rfl⟩
                  obtain ⟨sv, hsv⟩ : ∃ x, x = sumN j (fun x => wgt (ptsL ats) (E.of i) x * (valsL (colL rs c) ats).getD x 0) := ⟨_, rfl⟩
                  have HNX : Hid (sumN (j + 1) (fun x => wgt (ptsL ats) (E.of i) x * (valsL (colL rs c) ats).getD x 0) = sv + wv * rv) := Lib.hid (by
                    have e1 : (valsL (colL rs c) ats).getD j 0 = rv := by
                      rw [hrv, List.getD_eq_getElem?_getD, valsL, List.getElem?_map, List.getElem?_eq_getElem hjat, haj]
                      simp [colL, ha1, hcr]
                    rw [sumN, e1, ← hsv, ← hwv])
                  rw [← hwv] at hc5
                  rw [← hrv] at hc3
                  rw [← hsv]
                  have hl1 := wv.lt
                  have hl2 := rv.lt
                  have hl3 := sv.lt
                  have hcc : (c : Int) < (rs[av].length : Int) := by omega
                  have hiN : (i : Int) < (N : Int) := by omega
                  have hjk : (j : Int) < (kn : Int) := by omega
                  have haN2 : (av : Int) < (N : Int) := by omega
                  clear hwv hrv hsv hmem haj ha2 hr2
                  go_wp2_with fail
                  go_quiet ((first | (go_at_call 58; with_reducible exact quiet_left (times_any _ _ _)) | (go_at_call 57; with_reducible exact quiet_left (plus_any _ _ _))))
                  have HX4 := Lib.hid (HX3.out.drewN (w := W3) nq)
                  clear hc1 hc2 hc3 hc4 hc5
                  go_wp2_with fail
                  go_roundw
                  case rel => exact ⟨j + 1, by omega, by go_num, by rw [HNX.out], HX4.out⟩
                  case measure => simp [intOf]; omega
                · obtain rfl : kn = j := by omega
                  have hev : sumN kn (fun x => wgt (ptsL ats) (E.of i) x * (valsL (colL rs c) ats).getD x 0) = evL f (E.of i) := by
                    have := HF.out.2.2 (E.of i)
                    rw [pts_length, hlk] at this
                    exact this.symm
                  rw [hev]
                  clear hev
                  have hel := (evL f (E.of i)).lt
                  have hc4 := HMS3.out.list.cell (j := i) (rowsV_get (w2.heap.size + 1) L N i hlt2)
                  have f1 := (HMS3.out.rows i hlt2).frozen c
                  have hrl : c < (bs (if i < i then (rowTo O L c i).set c (evL f (E.of i)) else rowTo O L c i)).length := by
                    rw [if_neg (by omega), bs_length, rowTo_length]; exact hlt
                  obtain ⟨u1, hu1⟩ : ∃ u, W3.cell? ⟨w2.heap.size + 1 + i, c, none⟩ = some u := ⟨_, (HMS3.out.rows i hlt2).cell (List.getElem?_eq_getElem hrl)⟩
                  have hput := HMS3.out.put hlt2 c (evL f (E.of i))
                  have HP := Lib.hid (hput.congr (R' := fun i' => if i' < i + 1 then (rowTo O L c i').set c (evL f (E.of i')) else rowTo O L c i') fun i' _ => by
                    by_cases e : i' = i
                    · subst e; simp
                    · by_cases e2 : i' < i
                      · simp [e, e2, show i' < i + 1 by omega]
                      · simp [e, e2, show ¬ i' < i + 1 by omega])
                  have hcL : (c : Int) < (L : Int) := by omega
                  have hiN : (i : Int) < (N : Int) := by omega
                  clear hput hrl HX3
                  go_wp2_with fail
                  go_roundw
                  case rel => exact ⟨i + 1, by omega, by go_num, HP.out⟩
                  case measure => simp [intOf]; omega
            · obtain rfl : N = i := by omega
              have HMF := Lib.hid (HMS.out.congr (R' := fun i' => (rowTo O L c i').set c ((colTo f N).getD i' 0)) fun i' hi' => by
                rw [if_pos hi', List.getD_eq_getElem?_getD, List.getElem?_eq_getElem (by rw [colTo_length]; exact hi'), colTo_get]
                rfl)
              clear HMS
              have hcS : Hid (∀ o bad, ColR (kn : Int) rs c o bad 0 → ∀ c', c' < c + 1 → ColR (kn : Int) rs c' (updC O c o c') (updC Bd c bad c') 0) := Lib.hid fun o bad h => cols_step HC.out h
              by_cases hnt0 : nt = kn
              · have HCOL := Lib.hid (hcS.out _ _ (by
                  have h := col_straight (c := c) HG.out HAT.out (by rw [← HNT.out]; omega) HF.out.1 HF.out.2.1 (fun j h hk => by rw [← HNT.out] at h; omega)
                  rwa [HN.out] at h))
                have HFIN := Lib.hid (HMF.out.col hlt)
                have hnk : (nt : Int) - (kn : Int) = 0 := by omega
                have hnk2 : nt - kn = 0 := by omega
                have hkn2 : kn ≤ nt := h4
                clear HC HMF hcS hnt0
                by_cases hcut : ct = kn
                all_goals
                  go_wp2_with fail
                  go_loopw [127] (fun i wr => i = .int .i64 0 ∧ W2 = wr) (fun _ _ => 0)
                  case atStart => exact ⟨rfl, rfl⟩
                  case round =>
                    obtain ⟨rfl, rfl⟩ := hrel
                    go_wp2_with fail
                    go_roundg g
                    case measure => omega
                    case rel => exact ⟨c + 1, _, _, by omega, by go_num, HCOL.out, by rw [← HAT.out, ← metTo_skip]; exact HFIN.out⟩
              · obtain ⟨m, hm⟩ : ∃ m, nt = kn + m := ⟨nt - kn, by omega⟩
                have hcut : ¬ ct = kn := by omega
                have hm0 : 0 < m := by omega
                have hjt0 : 0 < (thereL (lostL rs)).length := by rw [← HNT.out]; omega
                obtain ⟨ad, hA, -⟩ := HRT.out.at_ (ints_get (thereL (lostL rs)) 0 hjt0)
                subst hA
                have hkn2 : kn ≤ nt := h4
                go_wp2_with fail
                have HNM := Lib.hid hm
                have HRC : Hid (Rd W2 (some (ad.add kn)) (ints ((thereL (lostL rs)).drop kn))) := Lib.hid (by
                  have h := (HRT.out.ext HMF.out.ext).cut (k := kn) (cap := ct) (by rw [ints_length, ← HNT.out]; omega) (by rw [ints_length, ← HNT.out]; exact hct)
                  rw [if_neg hcut] at h
                  simpa [ints, List.map_drop] using h)
                have hmN : kn + m ≤ N := by omega
                clear hm hcut hjt0 hnt0
                go_loopw [127] (fun i wr => ∃ j : Nat, j ≤ m ∧ i = .int .i64 j ∧ Ext W2 wr ∧ ∀ t (h : t < (thereL (lostL rs)).length), kn ≤ t → t < kn + j → evL f (E.of (thereL (lostL rs))[t]) = (colL rs c).getD (thereL (lostL rs))[t] 0) (fun i _ => m - (intOf i).toNat)
                case atStart => exact ⟨0, by omega, rfl, Ext.refl _, fun t h h1 h2 => by omega⟩
                case round =>
                  obtain ⟨W3, rfl⟩ : ∃ W, W = wr := ⟨_, rfl⟩
                  obtain ⟨j, hj, rfl, hx3, hag⟩ := hrel
                  have HAG := Lib.hid hag
                  have HX3 := Lib.hid hx3
                  have HM3 := Lib.hid (HMF.out.beyond hx3)
                  clear hag hx3
                  by_cases hlt3 : j < m
                  · have hjt : kn + j < (thereL (lostL rs)).length := by rw [← HNT.out, HNM.out]; omega
                    obtain ⟨av, hav⟩ : ∃ x, x = (thereL (lostL rs))[kn + j] := ⟨_, rfl⟩
                    have hmem : av ∈ thereL (lostL rs) := by rw [hav]; exact List.getElem_mem hjt
                    have hc1 : W3.cell? ((ad.add kn).add j) = some (.int .i64 (av : Int)) := by
                      have hjd : j < ((thereL (lostL rs)).drop kn).length := by rw [List.length_drop]; omega
                      obtain ⟨ad', e', h'⟩ := (HRC.out.ext HX3.out).at_ (ints_get _ j hjd)
                      injection e' with e'
                      subst e'
                      rw [h', List.getElem_drop, hav]
                    have HAV := Lib.hid hav
                    clear hav
                    obtain ⟨ha1, ha2⟩ := there_mem_iff.1 hmem
                    rw [lostL_length] at ha1
                    have haN : av < N := by rw [← HN.out]; exact ha1
                    have hcr : c < rs[av].length := by
                      have h0 : rs[av].length ≠ 0 := by simpa [lostL] using ha2
                      rcases HM.out.1 rs[av] (List.getElem_mem ha1) with h | h
                      · exact absurd h h0
                      · omega
                    obtain ⟨bd, B1, c1, hA, hc2, hr2, -, -⟩ := (HR.out.ext (HX2.out.trans HM3.out.ext)).at_ ha1
                    subst hA
                    obtain ⟨dd, rfl, hc3⟩ := hr2.byte hcr
                    have hc4 := HM3.out.list.cell (j := av) (rowsV_get (w2.heap.size + 1) L N av haN)
                    have hc5 : W3.cell? ⟨w2.heap.size + 1 + av, c, none⟩ = some (.int .u8 ((evL f (E.of av)).val : Int)) := by
                      refine (HM3.out.rows av haN).cell (j := c) ?_
                      have hgl : c < ((rowTo O L c av).set c ((colTo f N).getD av 0)).length := by rw [List.length_set, rowTo_length]; exact hlt
                      rw [bs_get _ _ hgl, List.getElem_set_self, List.getD_eq_getElem?_getD, List.getElem?_eq_getElem (by rw [colTo_length]; exact haN), colTo_get]
                      rfl
                    obtain ⟨rv, hrv⟩ : ∃ x, x = (rs[av])[c] := ⟨_, rfl⟩
                    obtain ⟨ev, hev⟩ : ∃ x, x = evL f (E.of av) := ⟨_, rfl⟩
                    rw [← hrv] at hc3
                    rw [← hev] at hc5
                    have HCG : Hid ((colL rs c).getD av 0 = rv) := Lib.hid (by
                      rw [hrv]; simp [colL, ha1, hcr])
                    have HEV := Lib.hid hev
                    have hl1 := rv.lt
                    have hl2 := ev.lt
                    have hcc : (c : Int) < (rs[av].length : Int) := by omega
                    have hcL : (c : Int) < (L : Int) := by omega
                    have hjm : (j : Int) < (m : Int) := by omega
                    have haN2 : (av : Int) < (N : Int) := by omega
                    clear hrv hev hmem ha2 hr2
                    by_cases he : ev = rv
                    · have hb : ((ev.val : Int) == (rv.val : Int)) = true := by rw [he]; simp
                      have HE := Lib.hid he
                      clear he
                      go_wp2_with fail
                      go_quiet (fail)
                      have HX4 := Lib.hid (HX3.out.drewN (w := W3) nq)
                      clear hc1 hc2 hc3 hc4 hc5 hb
                      go_wp2_with fail
                      go_roundw
                      case rel => exact ⟨j + 1, by omega, by go_num, HX4.out, fun t h h1 h2 => by
                        rcases (show t < kn + j ∨ t = kn + j by omega) with h3 | rfl
                        · exact HAG.out t h h1 h3
                        · rw [← HAV.out, HCG.out, ← HEV.out, HE.out]⟩
                      case measure => simp [intOf]; omega
                    · have hb : ((ev.val : Int) == (rv.val : Int)) = false := by
                        rw [beq_eq_false_iff_ne]
                        intro e
                        exact he (E.ext (by omega))
                      clear he
                      go_wp2_with fail
                      go_quiet (fail)
                      obtain ⟨W4, hW4⟩ : ∃ W, W = W3.drewN nq := ⟨_, rfl⟩
                      have HM4 : Hid (MSt w2 W4 N L kn (ptsL ats) (fun i' => (rowTo O L c i').set c ((colTo f N).getD i' 0)) (metTo N Bd c)) := Lib.hid (by rw [hW4]; exact HM3.out.beyond ((Ext.refl W3).drewN nq))
                      rw [← hW4]
                      clear hc1 hc2 hc3 hc4 hc5 hb hW4 HM3 HX3 HAG HAV HCG HEV
                      go_wp2_with fail
                      refine (colRow_n (some bd) N ca c rs _ HN.out (HR.out.ext (HX2.out.trans HM4.out.ext)) (by omega) (fun r hr => by
                        rcases HM.out.1 r hr with h | h
                        · exact .inl h
                        · right; omega) (fun r hr => by have := HB.out r hr; omega)).mono ?_
                      rintro e W5 ⟨v, rfl, ho5, hx5⟩
                      obtain ⟨A5, c5, rfl, hr5, -, -, -⟩ := ho5.slice
                      rw [bs_length, colL_length, HN.out]
                      have hB5 : w2.heap.size + 1 + N < W5.heap.size := by
                        have h1 := (HM4.out.met.lt (w2.heap.size + 1 + N) rfl).2
                        have h2 := hx5.le
                        omega
                      have HM5 := Lib.hid (HM4.out.beyond hx5)
                      have HR5 := Lib.hid hr5
                      clear HM4 hr5 ho5 hx5
                      go_wp2_with fail
                      refine (column_n A5 Al N N c5 cl (kn : Int) (colL rs c) (lostL rs) _ (by rw [colL_length, HN.out]) (by rw [lostL_length, HN.out]) HR5.out (HLL.out.ext HM5.out.ext) (by omega) (by omega) hwk).mono ?_
                      rintro e W6 ⟨va, vb, out, bad, ee, rfl, hsp, hoa, hob, hx6⟩
                      have HM6 := Lib.hid (HM5.out.beyond hx6)
                      clear HM5 HR5 hx6
                      by_cases hee : ee = 0
                      case neg =>
                        have hb : (ee != 0) = true := by rw [bne_iff_ne]; exact hee
                        have HSP := Lib.hid hsp
                        have HEE := Lib.hid hee
                        clear hsp hee hoa hob
                        go_wp2_with fail
                        rw [Exit.noGoto_ret]
                        go_ret3
                        exact mendOut_bad (.inr (.inr (.inr (.inl ⟨L, c, HG.out, HM.out, by rw [← HNT.out]; omega, hlt, fun c' h => ⟨_, _, HC.out c' h⟩, ⟨out, bad, HSP.out⟩, HEE.out, rfl, rfl⟩)))) (HX2.out.trans HM6.out.ext)
                      subst hee
                      obtain ⟨hol, hbn, hbl⟩ := ColR.fine hsp
                      rw [HN.out] at hol hbl
                      have HBN := Lib.hid hbn
                      have HCOL := Lib.hid (hcS.out _ _ hsp)
                      have HFA : Hid (∀ b, b ≤ w2.heap.size + 1 + N → va.ownBlock ≠ some b) := Lib.hid fun b hb h => by have := (hoa.lt _ h).1; omega
                      have HFB : Hid (∀ b, b ≤ w2.heap.size + 1 + N → vb.ownBlock ≠ some b) := Lib.hid fun b hb h => by have := (hob.lt _ h).1; omega
                      obtain ⟨bn, hbn'⟩ : ∃ n, n = bad.length := ⟨_, rfl⟩
                      obtain ⟨Ao, co, hva, -, -, -, -⟩ := hoa.slice
                      obtain ⟨Ab, cb, hvb, -, -, -, -⟩ := hob.slice
                      rw [bs_length, hol] at hva
                      rw [ints_length, ← hbn'] at hvb
                      subst hva
                      subst hvb
                      have HOA := Lib.hid hoa
                      have HOB := Lib.hid hob
                      have HOL := Lib.hid hol
                      have HBL := Lib.hid hbn'
                      rw [← hbn'] at hbl
                      clear hsp hoa hob hol hbn hbn' hcS
                      go_wp2_with fail
                      go_loopw [160] (fun i wr => ∃ q : Nat, q ≤ N ∧ i = .int .i64 q ∧ MSt w2 wr N L kn (ptsL ats) (fun i' => (rowTo O L c i').set c (if i' < q then out.getD i' 0 else (colTo f N).getD i' 0)) (metTo N Bd c) ∧ Own wr W5.heap.size 34 (.slice Ao N co) (bs out) ∧ Own wr W5.heap.size 3 (.slice Ab bn cb) (ints bad)) (fun i _ => N - (intOf i).toNat)
                      case atStart => exact ⟨0, by omega, rfl, HM6.out.congr (fun i' _ => by rw [if_neg (by omega)]), HOA.out, HOB.out⟩
                      case round =>
                        obtain ⟨W7, rfl⟩ : ∃ W, W = wr := ⟨_, rfl⟩
                        obtain ⟨q, hq, rfl, hm7, hoa, hob⟩ := hrel
                        clear HM6 HOA HOB
                        by_cases hlt4 : q < N
                        · have hqo : q < out.length := by rw [HOL.out]; exact hlt4
                          obtain ⟨ad7, rfl, hc1⟩ := hoa.rd.byte hqo
                          have hc2 := hm7.list.cell (j := q) (rowsV_get (w2.heap.size + 1) L N q hlt4)
                          obtain ⟨ov, hov⟩ : ∃ x, x = out[q] := ⟨_, rfl⟩
                          rw [← hov] at hc1
                          have hogd : out.getD q 0 = ov := by rw [hov, List.getD_eq_getElem?_getD, List.getElem?_eq_getElem hqo]; rfl
                          have hl1 := ov.lt
                          have HM7 := Lib.hid hm7
                          have HOA := Lib.hid hoa
                          have HOB := Lib.hid hob
                          have HGD := Lib.hid hogd
                          have hcL : (c : Int) < (L : Int) := by omega
                          have hqN : (q : Int) < (N : Int) := by omega
                          clear hm7 hoa hob hov hogd
                          go_wp2_with fail
                          refine region_store_plain hmo (by kernel_rfl) (by kernel_rfl) (by kernel_rfl) ?_
                          dsimp only [muted, mute, List.dropLast]
                          repeat (gi_big_quiet_step (fail))
                          refine wpQuietIn_nil ?_
                          rintro _ ⟨nq, rfl⟩ s hs'
                          simp only [List.getLast?_cons_cons, List.getLast?_singleton, Option.some.injEq] at hs'
                          subst hs'
                          obtain ⟨W8, hW8⟩ : ∃ W, W = W7.drewN nq := ⟨_, rfl⟩
                          have hx8 : Ext W7 W8 := by rw [hW8]; exact (Ext.refl W7).drewN nq
                          rw [← hW8]
                          clear hW8 hc1 hc2
                          have hm8 := HM7.out.beyond hx8
                          have f1 := (hm8.rows q hlt4).frozen c
                          have hrl : c < (bs ((rowTo O L c q).set c (if q < q then out.getD q 0 else (colTo f N).getD q 0))).length := by
                            rw [bs_length, List.length_set, rowTo_length]; exact hlt
                          obtain ⟨u1, hu1⟩ : ∃ u, W8.cell? ⟨w2.heap.size + 1 + q, c, none⟩ = some u := ⟨_, (hm8.rows q hlt4).cell (List.getElem?_eq_getElem hrl)⟩
                          have hput := hm8.put hlt4 c ov
                          have HP := Lib.hid (And.intro (hput.congr (R' := fun i' => (rowTo O L c i').set c (if i' < q + 1 then out.getD i' 0 else (colTo f N).getD i' 0)) fun i' _ => by
                            by_cases e : i' = q
                            · subst e; rw [if_pos rfl, List.set_set, if_pos (show i' < i' + 1 by omega), HGD.out]
                            · by_cases e2 : i' < q
                              · simp [e, e2, show i' < q + 1 by omega]
                              · simp [e, e2, show ¬ i' < q + 1 by omega]) (And.intro ((HOA.out.ext hx8).far (p := ⟨w2.heap.size + 1 + q, c, none⟩) (HFA.out (w2.heap.size + 1 + q) (by omega)) (.int .u8 (ov.val : Int))) ((HOB.out.ext hx8).far (p := ⟨w2.heap.size + 1 + q, c, none⟩) (HFB.out (w2.heap.size + 1 + q) (by omega)) (.int .u8 (ov.val : Int)))))
                          clear hput hrl hm8 hx8 HM7 HOA HOB
                          go_simp
                          go_wp2_with fail
                          go_roundw
                          case rel => exact ⟨q + 1, by omega, by go_num, HP.out.1, HP.out.2.1, HP.out.2.2⟩
                          case measure => simp [intOf]; omega
                        · obtain rfl : N = q := by omega
                          have HM7 : Hid (MSt w2 W7 N L kn (ptsL ats) (rowTo (updC O c out) L (c + 1)) (metTo N Bd c)) := Lib.hid (MSt.col (hm7.congr fun i' hi' => by rw [if_pos hi']) hlt)
                          have HOB := Lib.hid hob
                          clear hm7 hoa hob HFA
                          go_wp2_with fail
                          go_loopw [176] (fun i wr => ∃ q : Nat, q ≤ bn ∧ i = .int .i64 q ∧ MSt w2 wr N L kn (ptsL ats) (rowTo (updC O c out) L (c + 1)) (markL (metTo N Bd c) (bad.take q)) ∧ Own wr W5.heap.size 3 (.slice Ab bn cb) (ints bad)) (fun i _ => bn - (intOf i).toNat)
                          case atStart => exact ⟨0, by omega, rfl, HM7.out, HOB.out⟩
                          case round =>
                            obtain ⟨W9, rfl⟩ : ∃ W, W = wr := ⟨_, rfl⟩
                            obtain ⟨q, hq, rfl, hm9, hob⟩ := hrel
                            clear HM7 HOB
                            by_cases hlt5 : q < bn
                            · have hqo : q < bad.length := by rw [← HBL.out]; exact hlt5
                              obtain ⟨ad9, rfl, hc1⟩ := hob.rd.at_ (ints_get bad q hqo)
                              obtain ⟨bv9, hbv⟩ : ∃ x, x = bad[q] := ⟨_, rfl⟩
                              have hbN : bv9 < N := by rw [hbv, ← HN.out]; exact HBN.out _ (List.getElem_mem hqo)
                              rw [← hbv] at hc1
                              have hml : bv9 < (bools (markL (metTo N Bd c) (bad.take q))).length := by rw [bools_length, markL_length, metTo_length]; exact hbN
                              obtain ⟨u1, hu1⟩ : ∃ u, W9.cell? ⟨w2.heap.size + 1 + N, bv9, none⟩ = some u := ⟨_, hm9.met.cell (List.getElem?_eq_getElem hml)⟩
                              have f1 := hm9.met.frozen bv9
                              have hmk := hm9.mark bv9
                              rw [hbv, ← markL_snoc, ← take_snoc' bad q hqo, ← hbv] at hmk
                              have HP := Lib.hid (And.intro hmk (hob.far (p := ⟨w2.heap.size + 1 + N, bv9, none⟩) (HFB.out (w2.heap.size + 1 + N) (by omega)) (.bool true)))
                              have hbN2 : (bv9 : Int) < (N : Int) := by omega
                              have hqb : (q : Int) < (bn : Int) := by omega
                              clear hmk hm9 hob hbv hml
                              go_wp2_with fail
                              go_roundw
                              case rel => exact ⟨q + 1, by omega, by go_num, HP.out.1, HP.out.2⟩
                              case measure => simp [intOf]; omega
                            · obtain rfl : bn = q := by omega
                              rw [List.take_of_length_le (by rw [HBL.out]; exact Nat.le_refl _), metTo_step] at hm9
                              have HFIN := Lib.hid hm9
                              clear hm9 hob HC HMF HFB
                              go_wp2_with fail
                              go_roundg g
                              case measure => omega
                              case rel => exact ⟨c + 1, _, _, by omega, by go_num, HCOL.out, by rw [← HAT.out]; exact HFIN.out⟩
                  · obtain rfl : m = j := by omega
                    have HCOL := Lib.hid (hcS.out _ _ (by
                      have h := col_straight (c := c) HG.out HAT.out (by rw [← HNT.out]; exact hkn2) HF.out.1 HF.out.2.1 (fun j h hk => HAG.out j h hk (by rw [← HNT.out, HNM.out] at h; exact h))
                      rwa [HN.out] at h))
                    have HFIN := Lib.hid (HM3.out.col hlt)
                    clear HC HMF HM3 hcS HAG HX3
                    go_wp2_with fail
                    go_roundg g
                    case measure => omega
                    case rel => exact ⟨c + 1, _, _, by omega, by go_num, HCOL.out, by rw [← HAT.out, ← metTo_skip]; exact HFIN.out⟩
        · obtain rfl : L = c := by omega
          clear hlt
          go_wp2_with fail
          go_loopw [29, 188] (fun v i wr => ∃ (q : Nat) (V : Value), V = v ∧ q ≤ N ∧ i = .int .i64 q ∧ Ext W1 wr ∧ Own wr W1.heap.size 3 V (ints (badP Bd L q))) (fun _ i _ => N - (intOf i).toNat)
          case atStart => exact ⟨0, _, rfl, by omega, rfl, Ext.refl _, Own.nil _ _ _⟩
          case round =>
            obtain ⟨W3, rfl⟩ : ∃ W, W = wr := ⟨_, rfl⟩
            obtain ⟨q, V, rfl, hq, rfl, hx, ho⟩ := hrel
            by_cases hlt : q < N
            · have hc1 : W3.cell? ⟨w2.heap.size + 1 + N, q, none⟩ = some (.bool ((List.range L).any fun c => decide (q ∈ Bd c))) := (HMS.out.met.ext hx).cell (by rw [bools, List.getElem?_map, metTo_get Bd L hlt]; rfl)
              have hle := hx.le
              have hbd : ((ints (badP Bd L q)).length + 1) * 8 ≤ 140737488355328 := by rw [ints_length]; have := badP_le Bd L q; omega
              have hqN : (q : Int) < (N : Int) := by omega
              obtain ⟨b, hb⟩ : ∃ b, b = ((List.range L).any fun c => decide (q ∈ Bd c)) := ⟨_, rfl⟩
              rw [← hb] at hc1
              cases b with
              | true =>
                have HT := Lib.hid (badP_yes hb.symm)
                have HX := Lib.hid hx
                clear hb hx
                go_wp2_with (at_builtin; refine wpList_push W3 eltInt rfl _ _ (by rfl) W1.heap.size V _ (by rfl) (by exact ho) (.int .i64 q) (by rfl) rfl hbd hle ?_; intro v' w' ho' _ hb' _)
                go_roundw
                case rel => exact ⟨q + 1, _, rfl, by omega, by go_num, Below.trans HX.out hb', by rw [HT.out, ints_snoc]; exact ho'⟩
                case measure => simp [intOf]; omega
              | false =>
                have HT := Lib.hid (badP_no hb.symm)
                have HX := Lib.hid hx
                clear hb hx
                go_wp2_with fail
                go_roundw
                case rel => exact ⟨q + 1, _, rfl, by omega, by go_num, HX.out, by rw [HT.out]; exact ho⟩
                case measure => simp [intOf]; omega
            · obtain rfl : N = q := by omega
              have HO := Lib.hid ho
              have HX := Lib.hid hx
              clear ho hx
              go_wp2_with fail
              first | rw [Exit.noGoto_ret] | skip
              go_ret3
              have hsz : w.heap.size ≤ w2.heap.size := HX2.out.le
              have hsz2 : w2.heap.size ≤ W1.heap.size := HMS.out.ext.le
              exact ⟨_, _, outTo rs O L, badTo rs.length Bd L, 0, rfl, .inr (.inr (.inr (.inr ⟨L, O, Bd, HG.out, HM.out, by rw [← HNT.out]; omega, HC.out, rfl, rfl, rfl⟩))), (HMS.out.beyond HX.out).rowsOut HN.out hsz, by rw [HN.out, ← badP_all]; exact HO.out.mono (Nat.le_trans hsz hsz2), HX2.out.trans (HMS.out.ext.trans HX.out)⟩
end Go.Proofs.Ytemnlcfabaocbaa
/-
  The walk of the laws' own helper ask of chapter 2: what each question answers, in new memory, no two of the lists in one block.
-/
namespace Go.Proofs.Ytemnlcfabaocbaa
open Go.RowKit Gf
set_option maxRecDepth 20000
set_option linter.unusedVariables false

/-- What question i answers. -/
def Ans (i : Nat) (p q : List E) (c : E) (below : Int) (rs : List (List E)) : Prop :=
  match i with
  | 0 => rs = [trim p]
  | 1 => rs = [plusL p q]
  | 2 => rs = [scaleL p c]
  | 3 => rs = [timesL p q]
  | 4 => ∃ s r k, DivAny p q s r k ∧ rs = [s, r]
  | 5 => rs = [deriveL p]
  | 6 => rs = [vanishL p]
  | 7 => ∃ t k, ThAny p q t k ∧ rs = [t]
  | 8 => rs = [rootsL p]
  | 9 => (below < 0 ∧ rs = [[], [], []]) ∨ ∃ k : Nat, below = k ∧ ∃ r, PartRes p q k r ∧ rs = [r.g, r.u, r.v]
  | 10 => rs = [[E.of (dg p % 256), E.of (dg p / 256 % 256)]]
  | 11 => rs = [[evL p c]]
  | 12 => rs = [plusL p []]
  | 13 => rs = [plusL [] p]
  | 14 => rs = [scaleL p 1]
  | _ => rs = [timesL p [1]]
theorem Ans.uniq {i : Nat} {p q : List E} {c : E} {b : Int} {rs rs' : List (List E)} (h : Ans i p q c b rs) (h' : Ans i p q c b rs') : rs = rs' := by
  unfold Ans at h h'
  split at h
  case h_5 =>
    obtain ⟨s, r, k, h1, rfl⟩ := h
    obtain ⟨s', r', k', h1', rfl⟩ := h'
    obtain ⟨rfl, rfl, _⟩ := h1.uniq h1'
    rfl
  case h_8 =>
    obtain ⟨t, k, h1, rfl⟩ := h
    obtain ⟨t', k', h1', rfl⟩ := h'
    rw [(h1.uniq h1').1]
  case h_10 =>
    rcases h with ⟨h0, rfl⟩ | ⟨k, rfl, r, h1, rfl⟩ <;> rcases h' with ⟨h0', rfl⟩ | ⟨k', h2, r', h1', rfl⟩
    · rfl
    · omega
    · omega
    · obtain rfl : k = k' := by omega
      rw [h1.uniq h1']
  all_goals (simp only at h'; rw [h, h'])
/-- What ask leaves. -/
def Asked (i : Nat) (p q : List E) (c : E) (b : Int) (w : World) (e : Ending) (w' : World) : Prop :=
  ∃ G cap V rs, e = .returned (.slice (some ⟨G, 0, none⟩) rs.length cap) ∧ Ans i p q c b rs ∧ OwnList w' w.heap.size G cap V rs ∧ Ext w w' ∧ (∀ r ∈ rs, r.length ≤ 100000000000000) ∧ 0 < rs.length ∧ rs.length ≤ 3
theorem rowsOne {w : World} {B : Nat} {v : Value} {r : List E} (h : Own w B 34 v (bs r)) (hB : B ≤ w.heap.size) : OwnList (w.alloc (.cells #[v] 26)) B w.heap.size 1 [v] [r] := by
  refine ⟨(Blk.new w 26 #[v]).own hB (Nat.le_refl _) (by decide) rfl, rfl, fun i u hi => ?_, fun i j vi vj hi hj hne => ?_⟩
  · match i with
    | 0 => simp at hi; subst hi; exact h.alloc _
    | i + 1 => simp at hi
  · match i, j with
    | 0, 0 => exact absurd rfl hne
    | i + 1, _ => simp at hi
    | 0, j + 1 => simp at hj
theorem rowsTwo {w : World} {B : Nat} {u v : Value} {r s : List E} (h : Own w B 34 u (bs r)) (k : Own w B 34 v (bs s)) (hf : ∀ g, u.ownBlock = some g → v.ownBlock ≠ some g) (hB : B ≤ w.heap.size) :
    OwnList (w.alloc (.cells #[u, v] 26)) B w.heap.size 2 [u, v] [r, s] := by
  refine ⟨(Blk.new w 26 #[u, v]).own hB (Nat.le_refl _) (by decide) rfl, rfl, fun i x hi => ?_, ?_⟩
  · match i with
    | 0 => simp at hi; subst hi; exact h.alloc _
    | 1 => simp at hi; subst hi; exact k.alloc _
    | i + 2 => simp at hi
  · have : FarApart ([u] ++ [v]) := FarApart.snoc (fun i j vi vj hi hj hne => by
      match i, j with
      | 0, 0 => exact absurd rfl hne
      | i + 1, _ => simp at hi
      | 0, j + 1 => simp at hj) fun i x hi => by
        match i with
        | 0 =>
          simp at hi; subst hi
          constructor
          · cases e : u.ownBlock with
            | none => exact .inl rfl
            | some g => exact .inr fun e' => hf g e e'.symm
          · cases e : v.ownBlock with
            | none => exact .inl rfl
            | some g => exact .inr fun e' => hf g e'.symm e
        | i + 1 => simp at hi
    exact this
theorem rowsThree {w : World} {B n1 n2 : Nat} {u v x : Value} {r s t : List E} (h : Own w B 34 u (bs r)) (k : Own w B 34 v (bs s)) (l : Own w B 34 x (bs t)) (hle : n1 ≤ n2)
    (h1 : ∀ g, u.ownBlock = some g → g < n1) (h2 : ∀ g, v.ownBlock = some g → n1 ≤ g ∧ g < n2) (h3 : ∀ g, x.ownBlock = some g → n2 ≤ g) (hB : B ≤ w.heap.size) :
    OwnList (w.alloc (.cells #[u, v, x] 26)) B w.heap.size 3 [u, v, x] [r, s, t] := by
  refine ⟨(Blk.new w 26 #[u, v, x]).own hB (Nat.le_refl _) (by decide) rfl, rfl, fun i y hi => ?_, ?_⟩
  · match i with
    | 0 => simp at hi; subst hi; exact h.alloc _
    | 1 => simp at hi; subst hi; exact k.alloc _
    | 2 => simp at hi; subst hi; exact l.alloc _
    | i + 3 => simp at hi
  · have two : FarApart ([u] ++ [v]) := FarApart.snoc (fun i j vi vj hi hj hne => by
      match i, j with
      | 0, 0 => exact absurd rfl hne
      | i + 1, _ => simp at hi
      | 0, j + 1 => simp at hj) fun i y hi => by
        match i with
        | 0 =>
          simp at hi; subst hi
          constructor
          · cases e : u.ownBlock with
            | none => exact .inl rfl
            | some g => exact .inr fun e' => by have := h1 g e; have := h2 g e'.symm; omega
          · cases e : v.ownBlock with
            | none => exact .inl rfl
            | some g => exact .inr fun e' => by have := h1 g e'.symm; have := h2 g e; omega
        | i + 1 => simp at hi
    have three : FarApart (([u] ++ [v]) ++ [x]) := FarApart.snoc two fun i y hi => by
      match i with
      | 0 =>
        simp at hi; subst hi
        constructor
        · cases e : u.ownBlock with
          | none => exact .inl rfl
          | some g => exact .inr fun e' => by have := h1 g e; have := h3 g e'.symm; omega
        · cases e : x.ownBlock with
          | none => exact .inl rfl
          | some g => exact .inr fun e' => by have := h1 g e'.symm; have := h3 g e; omega
      | 1 =>
        simp at hi; subst hi
        constructor
        · cases e : v.ownBlock with
          | none => exact .inl rfl
          | some g => exact .inr fun e' => by have := h2 g e; have := h3 g e'.symm; omega
        · cases e : x.ownBlock with
          | none => exact .inl rfl
          | some g => exact .inr fun e' => by have := h2 g e'.symm; have := h3 g e; omega
      | i + 2 => simp at hi
    exact three
theorem asked1 {i : Nat} {p q : List E} {c : E} {b : Int} {w w1 : World} {v : Value} {r : List E} (ha : Ans i p q c b [r]) (hx : Ext w w1) (ho : Own w1 w.heap.size 34 v (bs r)) (hl : r.length ≤ 100000000000000) :
    Asked i p q c b w (.returned (.slice (some ⟨w1.heap.size, 0, none⟩) 1 1)) (w1.alloc (.cells #[v] 26)) :=
  ⟨w1.heap.size, 1, [v], [r], rfl, ha, rowsOne ho hx.le, hx.alloc _, fun x hx => by simp at hx; subst hx; exact hl, by simp, by simp⟩
theorem asked2 {i : Nat} {p q : List E} {c : E} {b : Int} {w w1 : World} {u v : Value} {r s : List E} (ha : Ans i p q c b [r, s]) (hx : Ext w w1) (ho : Own w1 w.heap.size 34 u (bs r)) (hk : Own w1 w.heap.size 34 v (bs s))
    (hf : ∀ g, u.ownBlock = some g → v.ownBlock ≠ some g) (hl : r.length ≤ 100000000000000) (hl2 : s.length ≤ 100000000000000) :
    Asked i p q c b w (.returned (.slice (some ⟨w1.heap.size, 0, none⟩) 2 2)) (w1.alloc (.cells #[u, v] 26)) :=
  ⟨w1.heap.size, 2, [u, v], [r, s], rfl, ha, rowsTwo ho hk hf hx.le, hx.alloc _, fun x hx => by simp at hx; rcases hx with rfl | rfl <;> assumption, by simp, by simp⟩
theorem asked3 {i : Nat} {p q : List E} {c : E} {b : Int} {w w1 : World} {n1 n2 : Nat} {u v y : Value} {r s t : List E} (ha : Ans i p q c b [r, s, t]) (hx : Ext w w1) (ho : Own w1 w.heap.size 34 u (bs r)) (hk : Own w1 w.heap.size 34 v (bs s)) (hm : Own w1 w.heap.size 34 y (bs t))
    (hle : n1 ≤ n2) (h1 : ∀ g, u.ownBlock = some g → g < n1) (h2 : ∀ g, v.ownBlock = some g → n1 ≤ g ∧ g < n2) (h3 : ∀ g, y.ownBlock = some g → n2 ≤ g) (hl : r.length ≤ 100000000000000) (hl2 : s.length ≤ 100000000000000) (hl3 : t.length ≤ 100000000000000) :
    Asked i p q c b w (.returned (.slice (some ⟨w1.heap.size, 0, none⟩) 3 3)) (w1.alloc (.cells #[u, v, y] 26)) :=
  ⟨w1.heap.size, 3, [u, v, y], [r, s, t], rfl, ha, rowsThree ho hk hm hle h1 h2 h3 hx.le, hx.alloc _, fun x hx => by simp at hx; rcases hx with rfl | rfl | rfl <;> assumption, by simp, by simp⟩
theorem deriveL_le (p : List E) : (deriveL p).length ≤ p.length := by
  have := trim_le (ofS (p.length - 1) (deriveS (ser p)))
  rw [ofS_length] at this
  unfold deriveL
  omega
set_option maxHeartbeats 2000000 in
theorem ask_0 (A C : Option Addr) (n m ca cb : Nat) (p q : List E) (c : E) (b : Int) (w : World) (hn : p.length = n) (hm : q.length = m) (hr : Rd w A (bs p)) (hs : Rd w C (bs q)) (hca : n ≤ ca) (hcb : m ≤ cb) (hla : n ≤ 2000000) (hlb : m ≤ 2000000) (hma : ca ≤ maxLen) (hb : (Lit.int .i64 b).wf = true) :
    Calls Try.prog 98 #[.int .i64 0, .slice A n ca, .slice C m cb, .int .u8 (c.val : Int), .int .i64 b] w (Asked 0 p q c b w) := by
  have hcl := c.lt
  go_enter Try.func98, Try.ntmps98
  go_wp2_with fail
  refine (trim_n A n p ca _ hn hr (by omega) hca).mono ?_
  rintro e w1 ⟨v, rfl, ho, hx⟩
  obtain ⟨A1, n1, c1, rfl⟩ : ∃ A n c, v = Value.slice A n c := by obtain ⟨A, c, h⟩ := ho.anySlice; exact ⟨_, _, _, h⟩
  go_wp2
  go_ret
  exact asked1 rfl hx ho (by have := trim_le p; omega)
set_option maxHeartbeats 2000000 in
theorem ask_1 (A C : Option Addr) (n m ca cb : Nat) (p q : List E) (c : E) (b : Int) (w : World) (hn : p.length = n) (hm : q.length = m) (hr : Rd w A (bs p)) (hs : Rd w C (bs q)) (hca : n ≤ ca) (hcb : m ≤ cb) (hla : n ≤ 2000000) (hlb : m ≤ 2000000) (hma : ca ≤ maxLen) (hb : (Lit.int .i64 b).wf = true) :
    Calls Try.prog 98 #[.int .i64 1, .slice A n ca, .slice C m cb, .int .u8 (c.val : Int), .int .i64 b] w (Asked 1 p q c b w) := by
  have hcl := c.lt
  go_enter Try.func98, Try.ntmps98
  go_wp2_with fail
  refine (polyPlus_n A C n m ca cb p q _ hn hm hr hs (by omega) (by omega)).mono ?_
  rintro e w1 ⟨v, rfl, ho, hx⟩
  obtain ⟨A1, n1, c1, rfl⟩ : ∃ A n c, v = Value.slice A n c := by obtain ⟨A, c, h⟩ := ho.anySlice; exact ⟨_, _, _, h⟩
  go_wp2
  go_ret
  exact asked1 rfl hx ho (by have := plusL_le p q; omega)
set_option maxHeartbeats 2000000 in
theorem ask_2 (A C : Option Addr) (n m ca cb : Nat) (p q : List E) (c : E) (b : Int) (w : World) (hn : p.length = n) (hm : q.length = m) (hr : Rd w A (bs p)) (hs : Rd w C (bs q)) (hca : n ≤ ca) (hcb : m ≤ cb) (hla : n ≤ 2000000) (hlb : m ≤ 2000000) (hma : ca ≤ maxLen) (hb : (Lit.int .i64 b).wf = true) :
    Calls Try.prog 98 #[.int .i64 2, .slice A n ca, .slice C m cb, .int .u8 (c.val : Int), .int .i64 b] w (Asked 2 p q c b w) := by
  have hcl := c.lt
  go_enter Try.func98, Try.ntmps98
  go_wp2_with fail
  refine (polyScale_n A n ca p c _ hn hr (by omega)).mono ?_
  rintro e w1 ⟨v, rfl, ho, hx⟩
  obtain ⟨A1, n1, c1, rfl⟩ : ∃ A n c, v = Value.slice A n c := by obtain ⟨A, c, h⟩ := ho.anySlice; exact ⟨_, _, _, h⟩
  go_wp2
  go_ret
  exact asked1 rfl hx ho (by have := scaleL_le p c; omega)
set_option maxHeartbeats 2000000 in
theorem ask_3 (A C : Option Addr) (n m ca cb : Nat) (p q : List E) (c : E) (b : Int) (w : World) (hn : p.length = n) (hm : q.length = m) (hr : Rd w A (bs p)) (hs : Rd w C (bs q)) (hca : n ≤ ca) (hcb : m ≤ cb) (hla : n ≤ 2000000) (hlb : m ≤ 2000000) (hma : ca ≤ maxLen) (hb : (Lit.int .i64 b).wf = true) :
    Calls Try.prog 98 #[.int .i64 3, .slice A n ca, .slice C m cb, .int .u8 (c.val : Int), .int .i64 b] w (Asked 3 p q c b w) := by
  have hcl := c.lt
  go_enter Try.func98, Try.ntmps98
  go_wp2_with fail
  refine (polyTimes_n A C n m ca cb p q _ hn hm hr hs (by omega)).mono ?_
  rintro e w1 ⟨v, rfl, ho, hx⟩
  obtain ⟨A1, n1, c1, rfl⟩ : ∃ A n c, v = Value.slice A n c := by obtain ⟨A, c, h⟩ := ho.anySlice; exact ⟨_, _, _, h⟩
  go_wp2
  go_ret
  exact asked1 rfl hx ho (by have := timesL_le p q; omega)
set_option maxHeartbeats 2000000 in
theorem ask_4 (A C : Option Addr) (n m ca cb : Nat) (p q : List E) (c : E) (b : Int) (w : World) (hn : p.length = n) (hm : q.length = m) (hr : Rd w A (bs p)) (hs : Rd w C (bs q)) (hca : n ≤ ca) (hcb : m ≤ cb) (hla : n ≤ 2000000) (hlb : m ≤ 2000000) (hma : ca ≤ maxLen) (hb : (Lit.int .i64 b).wf = true) :
    Calls Try.prog 98 #[.int .i64 4, .slice A n ca, .slice C m cb, .int .u8 (c.val : Int), .int .i64 b] w (Asked 4 p q c b w) := by
  have hcl := c.lt
  go_enter Try.func98, Try.ntmps98
  go_wp2_with fail
  refine (polyDivide_all A C n m ca cb p q _ hn hm hr hs (by omega) (by omega) hca hcb).mono ?_
  rintro e w1 ⟨vs, vr, s, r, k, rfl, hd, hos, hor, hf, hx⟩
  have hls := hd.ls
  have hlr := hd.lr
  obtain ⟨A1, n1, c1, rfl⟩ : ∃ A n c, vs = Value.slice A n c := by obtain ⟨A, c, h⟩ := hos.anySlice; exact ⟨_, _, _, h⟩
  obtain ⟨A2, n2, c2, rfl⟩ : ∃ A n c, vr = Value.slice A n c := by obtain ⟨A, c, h⟩ := hor.anySlice; exact ⟨_, _, _, h⟩
  have HD := Lib.hid hd
  have HF := Lib.hid hf
  clear hd hf
  go_wp2
  go_ret
  exact asked2 ⟨s, r, k, HD.out, rfl⟩ hx hos hor HF.out (by omega) (by omega)
set_option maxHeartbeats 2000000 in
theorem ask_5 (A C : Option Addr) (n m ca cb : Nat) (p q : List E) (c : E) (b : Int) (w : World) (hn : p.length = n) (hm : q.length = m) (hr : Rd w A (bs p)) (hs : Rd w C (bs q)) (hca : n ≤ ca) (hcb : m ≤ cb) (hla : n ≤ 2000000) (hlb : m ≤ 2000000) (hma : ca ≤ maxLen) (hb : (Lit.int .i64 b).wf = true) :
    Calls Try.prog 98 #[.int .i64 5, .slice A n ca, .slice C m cb, .int .u8 (c.val : Int), .int .i64 b] w (Asked 5 p q c b w) := by
  have hcl := c.lt
  go_enter Try.func98, Try.ntmps98
  go_wp2_with fail
  refine (polyDerive_n A n ca p _ hn hr hca (by omega) hma).mono ?_
  rintro e w1 ⟨v, rfl, ho, hx⟩
  obtain ⟨A1, n1, c1, rfl⟩ : ∃ A n c, v = Value.slice A n c := by obtain ⟨A, c, h⟩ := ho.anySlice; exact ⟨_, _, _, h⟩
  go_wp2
  go_ret
  exact asked1 rfl hx ho (by have := deriveL_le p; omega)
set_option maxHeartbeats 2000000 in
theorem ask_6 (A C : Option Addr) (n m ca cb : Nat) (p q : List E) (c : E) (b : Int) (w : World) (hn : p.length = n) (hm : q.length = m) (hr : Rd w A (bs p)) (hs : Rd w C (bs q)) (hca : n ≤ ca) (hcb : m ≤ cb) (hla : n ≤ 2000000) (hlb : m ≤ 2000000) (hma : ca ≤ maxLen) (hb : (Lit.int .i64 b).wf = true) :
    Calls Try.prog 98 #[.int .i64 6, .slice A n ca, .slice C m cb, .int .u8 (c.val : Int), .int .i64 b] w (Asked 6 p q c b w) := by
  have hcl := c.lt
  go_enter Try.func98, Try.ntmps98
  go_wp2_with fail
  refine (polyVanish_n A n ca p _ hn hr (by omega)).mono ?_
  rintro e w1 ⟨v, rfl, ho, hx⟩
  obtain ⟨A1, n1, c1, rfl⟩ : ∃ A n c, v = Value.slice A n c := by obtain ⟨A, c, h⟩ := ho.anySlice; exact ⟨_, _, _, h⟩
  go_wp2
  go_ret
  exact asked1 rfl hx ho (by have := vanish_length p; omega)
set_option maxHeartbeats 2000000 in
theorem ask_7 (A C : Option Addr) (n m ca cb : Nat) (p q : List E) (c : E) (b : Int) (w : World) (hn : p.length = n) (hm : q.length = m) (hr : Rd w A (bs p)) (hs : Rd w C (bs q)) (hca : n ≤ ca) (hcb : m ≤ cb) (hla : n ≤ 2000000) (hlb : m ≤ 2000000) (hma : ca ≤ maxLen) (hb : (Lit.int .i64 b).wf = true) :
    Calls Try.prog 98 #[.int .i64 7, .slice A n ca, .slice C m cb, .int .u8 (c.val : Int), .int .i64 b] w (Asked 7 p q c b w) := by
  have hcl := c.lt
  go_enter Try.func98, Try.ntmps98
  go_wp2_with fail
  refine (polyThrough_all A C n m ca cb p q _ hn hm hr hs (by omega)).mono ?_
  rintro e w1 ⟨v, t, k, rfl, ht, ho, hx⟩
  have hl := ht.len
  have HT := Lib.hid ht
  clear ht
  obtain ⟨A1, n1, c1, rfl⟩ : ∃ A n c, v = Value.slice A n c := by obtain ⟨A, c, h⟩ := ho.anySlice; exact ⟨_, _, _, h⟩
  go_wp2
  go_ret
  exact asked1 ⟨t, k, HT.out, rfl⟩ hx ho (by omega)
set_option maxHeartbeats 2000000 in
theorem ask_8 (A C : Option Addr) (n m ca cb : Nat) (p q : List E) (c : E) (b : Int) (w : World) (hn : p.length = n) (hm : q.length = m) (hr : Rd w A (bs p)) (hs : Rd w C (bs q)) (hca : n ≤ ca) (hcb : m ≤ cb) (hla : n ≤ 2000000) (hlb : m ≤ 2000000) (hma : ca ≤ maxLen) (hb : (Lit.int .i64 b).wf = true) :
    Calls Try.prog 98 #[.int .i64 8, .slice A n ca, .slice C m cb, .int .u8 (c.val : Int), .int .i64 b] w (Asked 8 p q c b w) := by
  have hcl := c.lt
  go_enter Try.func98, Try.ntmps98
  go_wp2_with fail
  refine (polyRoots_n A n p ca _ hn hr (by omega)).mono ?_
  rintro e w1 ⟨v, rfl, ho, hx⟩
  obtain ⟨A1, n1, c1, rfl⟩ : ∃ A n c, v = Value.slice A n c := by obtain ⟨A, c, h⟩ := ho.anySlice; exact ⟨_, _, _, h⟩
  go_wp2
  go_ret
  exact asked1 rfl hx ho (by have := rootsTo_le p 256; show (rootsTo p 256).length ≤ _; omega)
set_option maxHeartbeats 2000000 in
theorem ask_9 (A C : Option Addr) (n m ca cb : Nat) (p q : List E) (c : E) (b : Int) (w : World) (hn : p.length = n) (hm : q.length = m) (hr : Rd w A (bs p)) (hs : Rd w C (bs q)) (hca : n ≤ ca) (hcb : m ≤ cb) (hla : n ≤ 2000000) (hlb : m ≤ 2000000) (hma : ca ≤ maxLen) (hb : (Lit.int .i64 b).wf = true) :
    Calls Try.prog 98 #[.int .i64 9, .slice A n ca, .slice C m cb, .int .u8 (c.val : Int), .int .i64 b] w (Asked 9 p q c b w) := by
  have hcl := c.lt
  rcases (show b < 0 ∨ 0 ≤ b by omega) with hneg | hge
  · go_enter Try.func98, Try.ntmps98
    go_wp2_with fail
    refine (polyPartial_neg A C n m ca cb b hneg _).mono ?_
    rintro e w1 ⟨rfl, rfl⟩
    go_wp2
    go_ret
    exact asked3 (n1 := 0) (n2 := 0) (.inl ⟨hneg, rfl⟩) (Ext.refl _) (Own.nil _ _ _) (Own.nil _ _ _) (Own.nil _ _ _) (Nat.le_refl _) (fun g h => by cases h) (fun g h => by cases h) (fun g h => by cases h) (by simp) (by simp) (by simp)
  · obtain ⟨k, rfl⟩ := Int.eq_ofNat_of_zero_le hge
    go_enter Try.func98, Try.ntmps98
    go_wp2_with fail
    refine (polyPartial_far A C n m ca cb p q k _ hn hm hr hs (by omega) (by omega) hca hcb hb).mono ?_
    rintro e w1 ⟨vg, vu, vv, r, rfl, hp, hog, hou, hov, hx, hl1, hl2, hl3, hex⟩
    have HP := Lib.hid hp
    have HEX := Lib.hid hex
    clear hp hex
    obtain ⟨A1, n1, c1, rfl⟩ : ∃ A n c, vg = Value.slice A n c := by obtain ⟨A, c, h⟩ := hog.anySlice; exact ⟨_, _, _, h⟩
    obtain ⟨A2, n2, c2, rfl⟩ : ∃ A n c, vu = Value.slice A n c := by obtain ⟨A, c, h⟩ := hou.anySlice; exact ⟨_, _, _, h⟩
    obtain ⟨A3, n3, c3, rfl⟩ : ∃ A n c, vv = Value.slice A n c := by obtain ⟨A, c, h⟩ := hov.anySlice; exact ⟨_, _, _, h⟩
    go_wp2
    go_ret
    obtain ⟨z1, z2, e1, e2, e3, e4⟩ := HEX.out
    exact asked3 (.inr ⟨k, rfl, r, HP.out, rfl⟩) hx hog hou hov e1 e2 e3 e4 (by omega) (by omega) (by omega)
set_option maxHeartbeats 2000000 in
theorem ask_10 (A C : Option Addr) (n m ca cb : Nat) (p q : List E) (c : E) (b : Int) (w : World) (hn : p.length = n) (hm : q.length = m) (hr : Rd w A (bs p)) (hs : Rd w C (bs q)) (hca : n ≤ ca) (hcb : m ≤ cb) (hla : n ≤ 2000000) (hlb : m ≤ 2000000) (hma : ca ≤ maxLen) (hb : (Lit.int .i64 b).wf = true) :
    Calls Try.prog 98 #[.int .i64 10, .slice A n ca, .slice C m cb, .int .u8 (c.val : Int), .int .i64 b] w (Asked 10 p q c b w) := by
  have hcl := c.lt
  have hdg := dg_le p
  obtain ⟨d, hd⟩ : ∃ d, dg p = d := ⟨_, rfl⟩
  have HD := Lib.hid hd
  have hw1 : wrap64 (((d : Nat) : Int) - 1 + 1) = (d : Int) := by rw [IntWalk.wrap64_in _ (by omega)]; omega
  have hd0 : d ≤ 2000000 := by omega
  have HB := Lib.hid (show #[Value.int .u8 ((d : Int) % 256), Value.int .u8 ((d : Int) / 256 % 256)] = (bs [E.of (d % 256), E.of (d / 256 % 256)]).toArray by
    simp only [bs, List.map_cons, List.map_nil, bv, E.val_of (show d % 256 < 256 by omega), E.val_of (show d / 256 % 256 < 256 by omega)]
    norm_cast)
  clear hd hdg
  go_enter Try.func98, Try.ntmps98
  go_wp2_with fail
  refine (degree_n A n p ca _ hn hr (by omega)).mono ?_
  rintro e w' ⟨rfl, rfl⟩
  rw [HD.out]
  go_wp2
  rw [HB.out]
  go_ret
  have h1 := own_lit w 34 [E.of (d % 256), E.of (d / 256 % 256)] (by simp)
  have h2 : Ans 10 p q c b [[E.of (d % 256), E.of (d / 256 % 256)]] := by show _ = _; rw [HD.out]
  have h3 := asked1 (w := w) h2 ((Ext.refl w).alloc _) h1 (by simp)
  rw [World.size_alloc] at h3
  exact h3
set_option maxHeartbeats 2000000 in
theorem ask_11 (A C : Option Addr) (n m ca cb : Nat) (p q : List E) (c : E) (b : Int) (w : World) (hn : p.length = n) (hm : q.length = m) (hr : Rd w A (bs p)) (hs : Rd w C (bs q)) (hca : n ≤ ca) (hcb : m ≤ cb) (hla : n ≤ 2000000) (hlb : m ≤ 2000000) (hma : ca ≤ maxLen) (hb : (Lit.int .i64 b).wf = true) :
    Calls Try.prog 98 #[.int .i64 11, .slice A n ca, .slice C m cb, .int .u8 (c.val : Int), .int .i64 b] w (Asked 11 p q c b w) := by
  have hcl := c.lt
  go_enter Try.func98, Try.ntmps98
  go_wp2_with fail
  refine (polyAt_n A n ca p c _ hn hr (by simp only [maxLen]; omega)).mono ?_
  rintro e w1 ⟨rfl, hx⟩
  go_wp2
  go_ret
  have h3 := asked1 (show Ans 11 p q c b [[evL p c]] from rfl) (hx.alloc _) ((own_lit w1 34 [evL p c] (by simp)).mono hx.le) (by simp)
  rw [World.size_alloc] at h3
  exact h3
set_option maxHeartbeats 2000000 in
theorem ask_12 (A C : Option Addr) (n m ca cb : Nat) (p q : List E) (c : E) (b : Int) (w : World) (hn : p.length = n) (hm : q.length = m) (hr : Rd w A (bs p)) (hs : Rd w C (bs q)) (hca : n ≤ ca) (hcb : m ≤ cb) (hla : n ≤ 2000000) (hlb : m ≤ 2000000) (hma : ca ≤ maxLen) (hb : (Lit.int .i64 b).wf = true) :
    Calls Try.prog 98 #[.int .i64 12, .slice A n ca, .slice C m cb, .int .u8 (c.val : Int), .int .i64 b] w (Asked 12 p q c b w) := by
  have hcl := c.lt
  go_enter Try.func98, Try.ntmps98
  go_wp2_with fail
  refine (polyPlus_n A none n 0 ca 0 p [] _ hn rfl hr (Rd.nil _ _) (by omega) (by omega)).mono ?_
  rintro e w1 ⟨v, rfl, ho, hx⟩
  obtain ⟨A1, n1, c1, rfl⟩ : ∃ A n c, v = Value.slice A n c := by obtain ⟨A, c, h⟩ := ho.anySlice; exact ⟨_, _, _, h⟩
  go_wp2
  go_ret
  exact asked1 rfl hx ho (by have := plusL_le p []; simp at this; omega)
set_option maxHeartbeats 2000000 in
theorem ask_13 (A C : Option Addr) (n m ca cb : Nat) (p q : List E) (c : E) (b : Int) (w : World) (hn : p.length = n) (hm : q.length = m) (hr : Rd w A (bs p)) (hs : Rd w C (bs q)) (hca : n ≤ ca) (hcb : m ≤ cb) (hla : n ≤ 2000000) (hlb : m ≤ 2000000) (hma : ca ≤ maxLen) (hb : (Lit.int .i64 b).wf = true) :
    Calls Try.prog 98 #[.int .i64 13, .slice A n ca, .slice C m cb, .int .u8 (c.val : Int), .int .i64 b] w (Asked 13 p q c b w) := by
  have hcl := c.lt
  go_enter Try.func98, Try.ntmps98
  go_wp2_with fail
  refine (polyPlus_n none A 0 n 0 ca [] p _ rfl hn (Rd.nil _ _) hr (by omega) (by omega)).mono ?_
  rintro e w1 ⟨v, rfl, ho, hx⟩
  obtain ⟨A1, n1, c1, rfl⟩ : ∃ A n c, v = Value.slice A n c := by obtain ⟨A, c, h⟩ := ho.anySlice; exact ⟨_, _, _, h⟩
  go_wp2
  go_ret
  exact asked1 rfl hx ho (by have := plusL_le [] p; simp at this; omega)
set_option maxHeartbeats 2000000 in
theorem ask_14 (A C : Option Addr) (n m ca cb : Nat) (p q : List E) (c : E) (b : Int) (w : World) (hn : p.length = n) (hm : q.length = m) (hr : Rd w A (bs p)) (hs : Rd w C (bs q)) (hca : n ≤ ca) (hcb : m ≤ cb) (hla : n ≤ 2000000) (hlb : m ≤ 2000000) (hma : ca ≤ maxLen) (hb : (Lit.int .i64 b).wf = true) :
    Calls Try.prog 98 #[.int .i64 14, .slice A n ca, .slice C m cb, .int .u8 (c.val : Int), .int .i64 b] w (Asked 14 p q c b w) := by
  have hcl := c.lt
  go_enter Try.func98, Try.ntmps98
  go_wp2_with fail
  refine (polyScale_n A n ca p 1 _ hn hr (by omega)).mono ?_
  rintro e w1 ⟨v, rfl, ho, hx⟩
  obtain ⟨A1, n1, c1, rfl⟩ : ∃ A n c, v = Value.slice A n c := by obtain ⟨A, c, h⟩ := ho.anySlice; exact ⟨_, _, _, h⟩
  go_wp2
  go_ret
  exact asked1 rfl hx ho (by have := scaleL_le p 1; omega)
set_option maxHeartbeats 2000000 in
theorem ask_15 (A C : Option Addr) (n m ca cb : Nat) (p q : List E) (c : E) (b : Int) (w : World) (hn : p.length = n) (hm : q.length = m) (hr : Rd w A (bs p)) (hs : Rd w C (bs q)) (hca : n ≤ ca) (hcb : m ≤ cb) (hla : n ≤ 2000000) (hlb : m ≤ 2000000) (hma : ca ≤ maxLen) (hb : (Lit.int .i64 b).wf = true) :
    Calls Try.prog 98 #[.int .i64 15, .slice A n ca, .slice C m cb, .int .u8 (c.val : Int), .int .i64 b] w (Asked 15 p q c b w) := by
  have hcl := c.lt
  have hk0 := own_lit w 34 [1] (by simp)
  have hk := Lib.hid hk0.rd
  clear hk0
  go_enter Try.func98, Try.ntmps98
  go_wp2_with fail
  refine (polyTimes_n A (some ⟨w.heap.size, 0, none⟩) n 1 ca 1 p [1] _ hn rfl (hr.alloc _) hk.out (by omega)).mono ?_
  rintro e w1 ⟨v, rfl, ho, hx⟩
  obtain ⟨A1, n1, c1, rfl⟩ : ∃ A n c, v = Value.slice A n c := by obtain ⟨A, c, h⟩ := ho.anySlice; exact ⟨_, _, _, h⟩
  go_wp2
  go_ret
  exact asked1 rfl (((Ext.refl w).alloc _).trans hx) (ho.mono (by simp)) (by have := timesL_le p [1]; simp at this; omega)
theorem ask_n (i : Nat) (hi : i < 16) (A C : Option Addr) (n m ca cb : Nat) (p q : List E) (c : E) (b : Int) (w : World) (hn : p.length = n) (hm : q.length = m) (hr : Rd w A (bs p)) (hs : Rd w C (bs q)) (hca : n ≤ ca) (hcb : m ≤ cb) (hla : n ≤ 2000000) (hlb : m ≤ 2000000) (hma : ca ≤ maxLen) (hb : (Lit.int .i64 b).wf = true) :
    Calls Try.prog 98 #[.int .i64 (i : Int), .slice A n ca, .slice C m cb, .int .u8 (c.val : Int), .int .i64 b] w (Asked i p q c b w) := by
  match i, hi with
  | 0, _ => exact ask_0 A C n m ca cb p q c b w hn hm hr hs hca hcb hla hlb hma hb
  | 1, _ => exact ask_1 A C n m ca cb p q c b w hn hm hr hs hca hcb hla hlb hma hb
  | 2, _ => exact ask_2 A C n m ca cb p q c b w hn hm hr hs hca hcb hla hlb hma hb
  | 3, _ => exact ask_3 A C n m ca cb p q c b w hn hm hr hs hca hcb hla hlb hma hb
  | 4, _ => exact ask_4 A C n m ca cb p q c b w hn hm hr hs hca hcb hla hlb hma hb
  | 5, _ => exact ask_5 A C n m ca cb p q c b w hn hm hr hs hca hcb hla hlb hma hb
  | 6, _ => exact ask_6 A C n m ca cb p q c b w hn hm hr hs hca hcb hla hlb hma hb
  | 7, _ => exact ask_7 A C n m ca cb p q c b w hn hm hr hs hca hcb hla hlb hma hb
  | 8, _ => exact ask_8 A C n m ca cb p q c b w hn hm hr hs hca hcb hla hlb hma hb
  | 9, _ => exact ask_9 A C n m ca cb p q c b w hn hm hr hs hca hcb hla hlb hma hb
  | 10, _ => exact ask_10 A C n m ca cb p q c b w hn hm hr hs hca hcb hla hlb hma hb
  | 11, _ => exact ask_11 A C n m ca cb p q c b w hn hm hr hs hca hcb hla hlb hma hb
  | 12, _ => exact ask_12 A C n m ca cb p q c b w hn hm hr hs hca hcb hla hlb hma hb
  | 13, _ => exact ask_13 A C n m ca cb p q c b w hn hm hr hs hca hcb hla hlb hma hb
  | 14, _ => exact ask_14 A C n m ca cb p q c b w hn hm hr hs hca hcb hla hlb hma hb
  | 15, _ => exact ask_15 A C n m ca cb p q c b w hn hm hr hs hca hcb hla hlb hma hb
  | k + 16, h => omega
end Go.Proofs.Ytemnlcfabaocbaa
/-
  Plain words for the law PolyOwn: lists in new memory between two sizes of the world; a list that is turned in its place.
-/
namespace Go.Proofs.Ytemnlcfabaocbaa
open Go.RowKit Gf
set_option linter.unusedVariables false

structure Slab (w : World) (lo hi G cap : Nat) (V : List Value) (rs : List (List E)) : Prop where
  ol : OwnList w lo G cap V rs
  up : ∀ (i : Nat) (v : Value) (g : Nat), V[i]? = some v → v.ownBlock = some g → g < hi
  gup : G < hi
theorem Slab.of {w' : World} {B G cap : Nat} {V : List Value} {rs : List (List E)} (h : OwnList w' B G cap V rs) : Slab w' B w'.heap.size G cap V rs :=
  ⟨h, fun i v g hi hg => ((h.rows i v hi).lt g hg).2, by obtain ⟨_, cs, hb, _⟩ := h.list.blk; exact hb.lt⟩
theorem Slab.ext {w w' : World} {lo hi G cap : Nat} {V : List Value} {rs : List (List E)} (h : Slab w lo hi G cap V rs) (hx : Ext w w') : Slab w' lo hi G cap V rs := ⟨h.ol.ext hx, h.up, h.gup⟩
theorem Slab.lo {w : World} {lo hi G cap : Nat} {V : List Value} {rs : List (List E)} (h : Slab w lo hi G cap V rs) : lo ≤ G := by obtain ⟨hb, _⟩ := h.ol.list.blk; exact hb
theorem Slab.touch {S : Nat → Prop} {w w' : World} {lo hi G cap : Nat} {V : List Value} {rs : List (List E)} (h : Slab w lo hi G cap V rs) (ht : Touch S w w') (hS : ∀ k, lo ≤ k → k < hi → ¬ S k) : Slab w' lo hi G cap V rs :=
  ⟨⟨h.ol.list.touch ht fun g hg => by injection hg with hg; subst hg; exact hS G h.lo h.gup, h.ol.len, fun i v hi => (h.ol.rows i v hi).touch ht fun g hg => hS g ((h.ol.rows i v hi).lt g hg).1 (h.up i v g hi hg), h.ol.far⟩, h.up, h.gup⟩
theorem Slab.rd {w : World} {lo hi G cap : Nat} {V : List Value} {rs : List (List E)} (h : Slab w lo hi G cap V rs) : RdRows w (some ⟨G, 0, none⟩) rs := h.ol.rd
theorem Rd.over {S : Nat → Prop} {w0 w w' : World} {A : Option Addr} {xs : List Value} (h : Rd w0 A xs) (hx : Ext w0 w) (ht : Touch S w w') (hS : ∀ k, k < w0.heap.size → ¬ S k) : Rd w' A xs := fun hn => by
  obtain ⟨ad, e, hlt⟩ := h.lt hn
  exact (h.ext hx).touch ht (fun ad' e' => by rw [e] at e'; injection e' with e'; subst e'; exact hS _ hlt) hn
theorem Ext.touched {S : Nat → Prop} {w w1 w2 : World} (h : Ext w w1) (ht : Touch S w1 w2) (hS : ∀ k, S k → w.heap.size ≤ k) : Ext w w2 :=
  Below.trans h (ht.below (fun k _ hk => hS k hk) h.le)
theorem Blk.ext {w w' : World} {g : Nat} {t : TypeId} {cs : Array Value} (h : Blk w g t cs) (hx : Ext w w') : Blk w' g t cs := h.below hx h.lt
/-- The front of a list that is lent. -/
theorem Own.front {w : World} {B : Nat} {T : TypeId} {g n c : Nat} {xs ys : List E} (h : Own w B T (.slice (some ⟨g, 0, none⟩) n c) (bs (xs ++ ys))) : Rd w (some ⟨g, 0, none⟩) (bs xs) := by
  have := h.rd.take (bs xs).length
  rwa [bs_append, List.take_left] at this
/-- Lists one behind the other are far apart. -/
theorem FarApart.append {V U : List Value} {n : Nat} (h : FarApart V) (k : FarApart U) (hV : ∀ (i : Nat) (v : Value) (g : Nat), V[i]? = some v → v.ownBlock = some g → g < n) (hU : ∀ (i : Nat) (v : Value) (g : Nat), U[i]? = some v → v.ownBlock = some g → n ≤ g) : FarApart (V ++ U) := by
  intro i j vi vj hi hj hne
  have far : ∀ {a b : Value} {i j : Nat}, V[i]? = some a → U[j]? = some b → (a.ownBlock = none ∨ a.ownBlock ≠ b.ownBlock) ∧ (b.ownBlock = none ∨ b.ownBlock ≠ a.ownBlock) := fun {a b i j} ha hb => by
    have ne : ∀ g, a.ownBlock = some g → b.ownBlock ≠ some g := fun g e e' => by have := hV i a g ha e; have := hU j b g hb e'; omega
    constructor
    · cases e : a.ownBlock with
      | none => exact .inl rfl
      | some g => exact .inr fun e' => ne g e e'.symm
    · cases e : b.ownBlock with
      | none => exact .inl rfl
      | some g => exact .inr fun e' => ne g e'.symm e
  rcases Nat.lt_or_ge i V.length with h1 | h1 <;> rcases Nat.lt_or_ge j V.length with h2 | h2
  · rw [List.getElem?_append_left h1] at hi
    rw [List.getElem?_append_left h2] at hj
    exact h i j vi vj hi hj hne
  · rw [List.getElem?_append_left h1] at hi
    rw [List.getElem?_append_right h2] at hj
    exact (far hi hj).1
  · rw [List.getElem?_append_right h1] at hi
    rw [List.getElem?_append_left h2] at hj
    exact (far hj hi).2
  · rw [List.getElem?_append_right h1] at hi
    rw [List.getElem?_append_right h2] at hj
    exact k _ _ vi vj hi hj (by omega)
/-- Rows one behind the other, with what bounds their blocks. -/
structure Pile (w : World) (lo hi : Nat) (V : List Value) (rs : List (List E)) : Prop where
  len : V.length = rs.length
  rows : ∀ (i : Nat) (v : Value), V[i]? = some v → Own w lo 34 v (bs (rs.getD i []))
  up : ∀ (i : Nat) (v : Value) (g : Nat), V[i]? = some v → v.ownBlock = some g → g < hi
  far : FarApart V
theorem Pile.of {w : World} {lo hi G cap : Nat} {V : List Value} {rs : List (List E)} (h : Slab w lo hi G cap V rs) : Pile w lo hi V rs := ⟨h.ol.len, h.ol.rows, h.up, h.ol.far⟩
theorem Pile.append {w : World} {lo m m' hi : Nat} {V U : List Value} {rs ss : List (List E)} (h : Pile w lo m V rs) (k : Pile w m' hi U ss) (hm : m ≤ m') (hlo : lo ≤ m') (hhi : m ≤ hi) : Pile w lo hi (V ++ U) (rs ++ ss) := by
  refine ⟨by simp [h.len, k.len], fun i v hi => ?_, fun i v g hi hg => ?_, h.far.append (n := m) k.far h.up fun i v g hi hg => Nat.le_trans hm ((k.rows i v hi).lt g hg).1⟩
  · rcases Nat.lt_or_ge i V.length with h1 | h1
    · rw [List.getElem?_append_left h1] at hi
      rw [List.getD_eq_getElem?_getD, List.getElem?_append_left (by rw [← h.len]; exact h1), ← List.getD_eq_getElem?_getD]
      exact h.rows i v hi
    · rw [List.getElem?_append_right h1] at hi
      rw [List.getD_eq_getElem?_getD, List.getElem?_append_right (by rw [← h.len]; exact h1), ← List.getD_eq_getElem?_getD, ← h.len]
      exact (k.rows _ v hi).mono hlo
  · rcases Nat.lt_or_ge i V.length with h1 | h1
    · rw [List.getElem?_append_left h1] at hi
      have := h.up i v g hi hg
      omega
    · rw [List.getElem?_append_right h1] at hi
      exact k.up _ v g hi hg
theorem Pile.ext {w w' : World} {lo hi : Nat} {V : List Value} {rs : List (List E)} (h : Pile w lo hi V rs) (hx : Ext w w') : Pile w' lo hi V rs := ⟨h.len, fun i v hi => (h.rows i v hi).ext hx, h.up, h.far⟩
theorem Pile.ones {w : World} {lo hi : Nat} {V : List Value} {rs : List (List E)} (h : Pile w lo hi V rs) : ∀ u ∈ V, u.oneCell' = true := fun u hu => by
  obtain ⟨i, hi⟩ := List.mem_iff_getElem?.1 hu
  exact (h.rows i u hi).oneCell

theorem Pile.touch {S : Nat → Prop} {w w' : World} {lo hi : Nat} {V : List Value} {rs : List (List E)} (h : Pile w lo hi V rs) (ht : Touch S w w') (hS : ∀ k, lo ≤ k → k < hi → ¬ S k) : Pile w' lo hi V rs :=
  ⟨h.len, fun i v hi => (h.rows i v hi).touch ht fun g hg => hS g ((h.rows i v hi).lt g hg).1 (h.up i v g hi hg), h.up, h.far⟩
theorem Pile.within {w : World} {lo hi : Nat} {V : List Value} {rs : List (List E)} (h : Pile w lo hi V rs) {k : Nat} (hk : InRows V k) : lo ≤ k ∧ k < hi := by
  obtain ⟨i, v, hi, hg⟩ := hk
  exact ⟨((h.rows i v hi).lt k hg).1, h.up i v k hi hg⟩
theorem InRows.append {V U : List Value} {k : Nat} (h : InRows (V ++ U) k) : InRows V k ∨ InRows U k := by
  obtain ⟨i, v, hi, hg⟩ := h
  rcases Nat.lt_or_ge i V.length with h1 | h1
  · rw [List.getElem?_append_left h1] at hi; exact .inl ⟨i, v, hi, hg⟩
  · rw [List.getElem?_append_right h1] at hi; exact .inr ⟨_, v, hi, hg⟩
theorem getD_len {rs : List (List E)} {n : Nat} (h : ∀ r ∈ rs, r.length ≤ n) (i : Nat) : (rs.getD i []).length ≤ n := by
  rw [List.getD_eq_getElem?_getD]
  cases e : rs[i]? with
  | none => simp
  | some r => exact h r (List.mem_of_getElem? e)
/-- The same answers. -/
theorem Slab.congr {w : World} {lo hi G cap : Nat} {V : List Value} {rs ss : List (List E)} (h : Slab w lo hi G cap V rs) (e : rs = ss) : Slab w lo hi G cap V ss := e ▸ h

/-- A list whose first k elements have been turned. -/
def turned (f : E → E) (l : List E) (k : Nat) : List E := (l.take k).map f ++ l.drop k
theorem turned_zero (f : E → E) (l : List E) : turned f l 0 = l := by simp [turned]
theorem turned_all (f : E → E) (l : List E) : turned f l l.length = l.map f := by simp [turned]
theorem turned_length (f : E → E) (l : List E) (k : Nat) : (turned f l k).length = l.length := by simp [turned]; omega
theorem turned_get (f : E → E) (l r : List E) (k : Nat) (h : k < l.length) : (bs (turned f l k ++ r))[k]? = some (.int .u8 ((l[k]).val : Int)) := by
  have h1 : (turned f l k ++ r)[k]? = some l[k] := by
    rw [List.getElem?_append_left (by rw [turned_length]; exact h), turned, List.getElem?_append_right (by simp; omega), List.getElem?_drop]
    simp [h, Nat.min_eq_left (Nat.le_of_lt h)]
  rw [bs, List.getElem?_map, h1]; rfl
theorem turned_set (f : E → E) (l r : List E) (k : Nat) (h : k < l.length) : (bs (turned f l k ++ r)).set k (.int .u8 ((f l[k]).val : Int)) = bs (turned f l (k + 1) ++ r) := by
  have h1 : (turned f l k ++ r).set k (f l[k]) = turned f l (k + 1) ++ r := by
    have e : l.drop k = l[k] :: l.drop (k + 1) := List.drop_eq_getElem_cons h
    rw [turned, turned, take_snoc' l k h, e, List.map_append, List.append_assoc, List.append_assoc, List.append_assoc]
    rw [List.set_append_right _ _ (by simp; omega)]
    simp [Nat.min_eq_left (Nat.le_of_lt h)]
    rw [e]; rfl
  rw [← h1, bs, bs, List.map_set]; rfl
def incBy (d : Nat) (x : E) : E := E.of (x.val + d)
theorem incBy_val (d : Nat) (x : E) : IntKind.u8.wrap ((x.val : Int) + (d : Int)) = ((incBy d x).val : Int) := by
  rw [IntKind.wrap_u8]
  show _ = (((x.val + d) % 256 : Nat) : Int)
  omega
/-- A list that is being turned in its place. -/
structure Turning (w0 w : World) (B g n c : Nat) (T : TypeId) (f : E → E) (xs r : List E) (k : Nat) : Prop where
  touch : Touch (· = g) w0 w
  own : Own w B T (.slice (some ⟨g, 0, none⟩) n c) (bs (turned f xs k ++ r))
theorem Turning.step {w0 w : World} {B g n c : Nat} {T : TypeId} {f : E → E} {xs r : List E} {k : Nat} (h : Turning w0 w B g n c T f xs r k) (hk : k < xs.length) :
    Turning w0 (w.setCell ⟨g, k, none⟩ (.int .u8 ((f xs[k]).val : Int))) B g n c T f xs r (k + 1) :=
  ⟨h.touch.trans (touch_set w ⟨g, k, none⟩ _ rfl), by have := h.own.set k (.int .u8 ((f xs[k]).val : Int)); rwa [turned_set f xs r k hk] at this⟩
end Go.Proofs.Ytemnlcfabaocbaa
