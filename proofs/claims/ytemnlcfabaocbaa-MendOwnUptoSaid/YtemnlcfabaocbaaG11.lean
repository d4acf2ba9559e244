/-
  Texts of mine, merged: RefMW RefM Law6 MendL.
-/
import Derived.Test.YtemnlcfabaocbaaG5
import Derived.Test.YtemnlcfabaocbaaG9
import Derived.Test.YtemnlcfabaocbaaG10
/-
  Layer 5: what the document's Mend holds while it goes through the columns.
-/
namespace Go.Proofs.Ytemnlcfabaocbaa
open Go.RowKit Gf
set_option maxRecDepth 20000
set_option linter.unusedVariables false

/-- The rows as far as column c. -/
def rowUp (O : Nat → List E) (c i : Nat) : List E := (List.range c).map fun c' => (O c').getD i 0
theorem rowUp_length (O : Nat → List E) (c i : Nat) : (rowUp O c i).length = c := by simp [rowUp]
theorem rowUp_step (O : Nat → List E) (c i : Nat) (o : List E) : rowUp O c i ++ [o.getD i 0] = rowUp (updC O c o) (c + 1) i := by
  rw [rowUp, rowUp, List.range_succ, List.map_append]
  congr 1
  · apply List.map_congr_left
    intro c' hc'
    rw [updC_below _ _ _ (List.mem_range.1 hc')]
  · simp [updC_same]
theorem rowUp_out {rs : List (List E)} (O : Nat → List E) (L : Nat) {i : Nat} (hi : i < rs.length) : (outTo rs O L).getD i [] = rowUp O L i := by
  rw [List.getD_eq_getElem?_getD, outTo, List.getElem?_map, List.getElem?_range hi]; rfl
def FarFrom (V : List Value) (va : Value) : Prop := ∀ (j : Nat) (u : Value), V[j]? = some u → va.ownBlock = none ∨ va.ownBlock ≠ u.ownBlock
theorem ne_some {a : Option Nat} {g : Nat} (h : a = none ∨ a ≠ some g) : a ≠ some g := by
  rcases h with h | h
  · rw [h]; simp
  · exact h
/-- The list of the rows at W1's end, the marks behind it; the rows anywhere behind. -/
structure RSt (W1 wr : World) (N : Nat) (V : List Value) (R : Nat → List E) (M : List Bool) : Prop where
  ext : Ext W1 wr
  len : V.length = N
  list : Own wr W1.heap.size 24 (.slice (some ⟨W1.heap.size, 0, none⟩) N N) V
  rows : OwnRows wr W1.heap.size 5 V R
  far : FarApart V
  met : Own wr W1.heap.size 4 (.slice (some ⟨W1.heap.size + 1, 0, none⟩) N N) (bools M)
section
variable {W1 wr wa w2 : World} {N : Nat} {V : List Value} {R : Nat → List E} {M : List Bool}
theorem RSt.beyond (h : RSt W1 wr N V R M) (hx : Ext wr w2) : RSt W1 w2 N V R M :=
  ⟨h.ext.trans hx, h.len, h.list.ext hx, ⟨fun i v hi => (h.rows.own i v hi).ext hx⟩, h.far, h.met.ext hx⟩
theorem RSt.congr {R' : Nat → List E} (h : RSt W1 wr N V R M) (e : ∀ i, i < N → R i = R' i) : RSt W1 wr N V R' M :=
  ⟨h.ext, h.len, h.list, ⟨fun i v hi => by rw [← e i (by rw [← h.len]; exact (List.getElem?_eq_some_iff.1 hi).1)]; exact h.rows.own i v hi⟩, h.far, h.met⟩
theorem RSt.mark (h : RSt W1 wr N V R M) (i : Nat) : RSt W1 (wr.setCell ⟨W1.heap.size + 1, i, none⟩ (.bool true)) N V R (M.set i true) := by
  refine ⟨h.ext.new (p := ⟨W1.heap.size + 1, i, none⟩) (Nat.le_succ _) _, h.len, h.list.far (p := ⟨W1.heap.size + 1, i, none⟩) (by simp [Value.ownBlock]) _, ⟨fun j v hj => (h.rows.own j v hj).far (p := ⟨W1.heap.size + 1, i, none⟩) (ne_some ((h.rows.own j v hj).types h.met (by decide))) _⟩, h.far, ?_⟩
  have := h.met.set i (.bool true)
  rwa [bools_set] at this
theorem RSt.push (h : RSt W1 wr N V R M) {i : Nat} {v v' : Value} {x : E} (hi : V[i]? = some v) (hxa : Ext wr wa) (hn : Own w2 W1.heap.size 5 v' (bs (R i ++ [x]))) (hm : Moved wa w2 v v') (ho : Own w2 W1.heap.size 5 v (bs (R i))) :
    RSt W1 (w2.setCell ⟨W1.heap.size, i, none⟩ v') N (V.set i v') (updR R i (R i ++ [x])) M := by
  have hil : i < V.length := (List.getElem?_eq_some_iff.1 hi).1
  have hva := (h.rows.own i v hi).ext hxa
  have hp := ((fam_rows h.rows h.far).ext hxa).push (s := ⟨i, v, bs (R i)⟩) ⟨hi, rfl⟩ (fun t ht hl => by
    obtain ⟨h1, h2⟩ := ht
    have hl : t.lab = i := hl
    rw [h2, hl]; exact Nat.le_refl _) hn hm ho
  have hx2 : Ext W1 w2 := (h.ext.trans hxa).below.trans (hm.below (h.ext.trans hxa).le fun g hg => (hva.lt g hg).1)
  have hl2 : Own w2 W1.heap.size 24 (.slice (some ⟨W1.heap.size, 0, none⟩) N N) V := (h.list.ext hxa).kept hm.grown ((h.list.ext hxa).types hva (by decide))
  have hm2 : Own w2 W1.heap.size 4 (.slice (some ⟨W1.heap.size + 1, 0, none⟩) N N) (bools M) := (h.met.ext hxa).kept hm.grown ((h.met.ext hxa).types hva (by decide))
  have new : (V.set i v')[i]? = some v' := List.getElem?_set_self hil
  have other : ∀ j u, j ≠ i → (V.set i v')[j]? = some u → V[j]? = some u := fun j u e hu => by rwa [List.getElem?_set_ne (fun h => e h.symm)] at hu
  refine ⟨hx2.new (p := ⟨W1.heap.size, i, none⟩) (Nat.le_refl _) _, by rw [List.length_set]; exact h.len, hl2.set i v', ⟨fun j u hj => ?_⟩, fun j l a b ha hb hne => ?_, hm2.far (p := ⟨W1.heap.size, i, none⟩) (by simp [Value.ownBlock]) _⟩
  · have hown : Own w2 W1.heap.size 5 u (bs (updR R i (R i ++ [x]) j)) := by
      by_cases e : j = i
      · subst e
        rw [new] at hj; cases hj
        rw [updR_same]; exact hn
      · rw [updR_other _ _ _ e]
        exact hp.own ⟨j, u, bs (R j)⟩ (.inr ⟨other j u e hj, rfl⟩)
    exact hown.far (p := ⟨W1.heap.size, i, none⟩) (ne_some (hown.types hl2 (by decide))) _
  · have kin : ∀ j a, (V.set i v')[j]? = some a → ∃ ys, (fun k => k = (⟨i, v', bs (R i ++ [x])⟩ : Kin) ∨ kinOf V R k) ⟨j, a, ys⟩ := fun j a ha => by
      by_cases e : j = i
      · subst e
        rw [new] at ha; cases ha
        exact ⟨_, .inl rfl⟩
      · exact ⟨bs (R j), .inr ⟨other j a e ha, rfl⟩⟩
    obtain ⟨ya, ka⟩ := kin j a ha
    obtain ⟨yb, kb⟩ := kin l b hb
    exact hp.far _ _ ka kb hne
theorem RSt.aside (h : RSt W1 wr N V R M) {i B' : Nat} {v v' va : Value} {x : E} {ys : List Value} (hi : V[i]? = some v) (hxa : Ext wr wa) (hm : Moved wa w2 v v') (hn : Own w2 W1.heap.size 5 v' (bs (R i ++ [x]))) (ho : Own wr B' 5 va ys) (hf : FarFrom V va) :
    Own (w2.setCell ⟨W1.heap.size, i, none⟩ v') B' 5 va ys ∧ FarFrom (V.set i v') va := by
  have hva := (h.rows.own i v hi).ext hxa
  have hl2 : Own w2 W1.heap.size 24 (.slice (some ⟨W1.heap.size, 0, none⟩) N N) V := (h.list.ext hxa).kept hm.grown ((h.list.ext hxa).types hva (by decide))
  have h2 : Own w2 B' 5 va ys := (ho.ext hxa).kept hm.grown (hf i v hi)
  refine ⟨h2.far (p := ⟨W1.heap.size, i, none⟩) (ne_some (h2.types hl2 (by decide))) _, fun j u hj => ?_⟩
  by_cases e : j = i
  · subst e
    rw [List.getElem?_set_self (List.getElem?_eq_some_iff.1 hi).1] at hj
    cases hj
    rcases hm with ⟨e, _⟩ | ⟨e, _⟩
    · rw [e]; exact hf j v hi
    · right
      rw [e]
      intro e2
      exact Nat.lt_irrefl _ ((ho.ext hxa).lt _ e2).2
  · rw [List.getElem?_set_ne (fun h => e h.symm)] at hj
    exact hf j u hj
theorem RSt.asideInt (h : RSt W1 wr N V R M) {i B' : Nat} {v v' va : Value} {ys : List Value} (hi : V[i]? = some v) (hxa : Ext wr wa) (hm : Moved wa w2 v v') (ho : Own wr B' 3 va ys) :
    Own (w2.setCell ⟨W1.heap.size, i, none⟩ v') B' 3 va ys := by
  have hva := (h.rows.own i v hi).ext hxa
  have hl2 : Own w2 W1.heap.size 24 (.slice (some ⟨W1.heap.size, 0, none⟩) N N) V := (h.list.ext hxa).kept hm.grown ((h.list.ext hxa).types hva (by decide))
  have h2 : Own w2 B' 3 va ys := (ho.ext hxa).kept hm.grown ((ho.ext hxa).types hva (by decide))
  exact h2.far (p := ⟨W1.heap.size, i, none⟩) (ne_some (h2.types hl2 (by decide))) _
theorem RSt.rowsOut {O : Nat → List E} {L B : Nat} {rs : List (List E)} (h : RSt W1 wr N V (rowUp O L) M) (hN : rs.length = N) (hB : B ≤ W1.heap.size) : RowsOut wr B (.slice (some ⟨W1.heap.size, 0, none⟩) N N) (outTo rs O L) := by
  refine ⟨V, h.list.mono hB, by rw [h.len, outTo, List.length_map, List.length_range, hN], fun i u hu => ?_, h.far⟩
  have hi : i < rs.length := by rw [hN, ← h.len]; exact (List.getElem?_eq_some_iff.1 hu).1
  rw [rowUp_out O L hi]
  exact (h.rows.own i u hu).mono hB
end
theorem RSt.start (W1 : World) (N : Nat) (O : Nat → List E) (B : Nat → List Nat) (hN : N ≤ 1000000) :
    RSt W1 ((W1.alloc (.cells (zrow (.slice none 0 0) N) 24)).alloc (.cells (zrow (.bool false) N) 4)) N (List.replicate N (.slice none 0 0)) (rowUp O 0) (metTo N B 0) := by
  refine ⟨((Ext.refl W1).alloc _).alloc _, List.length_replicate, ?_, ⟨fun i v hi => ?_⟩, fun i j a b ha hb _ => ?_, ?_⟩
  · have h1 := (Blk.new W1 24 (zrow (.slice none 0 0) N)).own (B := W1.heap.size) (n := N) (cap := N) (Nat.le_refl _) (Nat.le_refl _) (by simp only [maxLen]; omega) (zrow_size _ _)
    rw [zrow_list, List.take_of_length_le (by simp)] at h1
    exact h1.alloc _
  · have := List.mem_of_getElem? hi
    rw [List.eq_of_mem_replicate this]
    exact Own.nil _ _ _
  · have := List.mem_of_getElem? ha
    rw [List.eq_of_mem_replicate this]
    left; rfl
  · have h1 := (Blk.new (W1.alloc (.cells (zrow (.slice none 0 0) N) 24)) 4 (zrow (.bool false) N)).own (B := W1.heap.size) (n := N) (cap := N) (by simp) (Nat.le_refl _) (by simp only [maxLen]; omega) (zrow_size _ _)
    rw [zrow_list, List.take_of_length_le (by simp), World.size_alloc] at h1
    have e2 : metTo N B 0 = List.replicate N false := by
      apply List.ext_getElem
      · simp [metTo]
      · intro j h1 h2; simp [metTo]
    rw [e2, bools, List.map_replicate]
    exact h1
end Go.Proofs.Ytemnlcfabaocbaa
/-
  Layer 5: the document's Mend.
-/
namespace Go.Proofs.Ytemnlcfabaocbaa
open Go.RowKit Gf
set_option maxRecDepth 20000
set_option linter.unusedVariables false

set_option maxHeartbeats 8000000 in
theorem refMend_n (k : Int) (A : Option Addr) (N ca : Nat) (rs : List (List E)) (w : World) (hN : rs.length = N) (hr : RdRows w A rs) (hwk : (Lit.int .i64 k).wf = true) (hNN : N ≤ 9000000000000000000) (hb : ∀ r ∈ rs, r.length ≤ 1000000000) :
    Calls Try.prog 66 #[.int .i64 k, .slice A N ca] w (MendOut k rs w) := by
  have HN := Lib.hid hN
  have HB := Lib.hid hb
  have HR := Lib.hid hr
  clear hN hb hr
  have hmo : Try.prog.follows Departure.mixedOrders = true := by kernel_rfl
  rcases (show k < 1 ∨ 1 ≤ k by omega) with h1 | h1
  · have d1 : decide (k < 1) = true := decide_eq_true h1
    go_enter Try.func66, Try.ntmps66
    go_wp2
    go_ret3
    exact mendOut_bad (.inl ⟨fun h => by have := h.1; omega, rfl, rfl, rfl⟩) (Ext.refl _)
  obtain ⟨kn, rfl⟩ := Int.eq_ofNat_of_zero_le (show 0 ≤ k by omega)
  have d1 : decide ((kn : Int) < 1) = false := decide_eq_false (by omega)
  rcases (show N < kn ∨ kn ≤ N by omega) with h2 | h2
  · have d2 : decide ((N : Int) < (kn : Int)) = true := decide_eq_true (by omega)
    go_enter Try.func66, Try.ntmps66
    go_wp2
    go_ret3
    exact mendOut_bad (.inl ⟨fun h => by have := h.2.1; rw [HN.out] at this; omega, rfl, rfl, rfl⟩) (Ext.refl _)
  have d2 : decide ((N : Int) < (kn : Int)) = false := decide_eq_false (by omega)
  rcases (show 255 < N ∨ N ≤ 255 by omega) with h3 | h3
  · have d3 : decide (255 < (N : Int)) = true := decide_eq_true (by omega)
    go_enter Try.func66, Try.ntmps66
    go_wp2
    go_ret3
    exact mendOut_bad (.inl ⟨fun h => by have := h.2.2; rw [HN.out] at this; omega, rfl, rfl, rfl⟩) (Ext.refl _)
  have d3 : decide (255 < (N : Int)) = false := decide_eq_false (by omega)
  have HG : Hid (GoodR (kn : Int) rs) := Lib.hid ⟨by omega, by rw [HN.out]; omega, by rw [HN.out]; omega⟩
  have hmkB : ∀ w, (Instr.makeSlice 67 (.int .i64 (N : Int)) (.int .i64 (N : Int))).run Try.prog w = .ok (.slice (some ⟨w.heap.size, 0, none⟩) N N) (w.alloc (.cells (zrow (.bool false) N) 4)) := fun w => run_make_elt eltBool _ _ N (by omega) w
  have H0 := Lib.hid (And.intro ((Ext.refl w).alloc (.cells (zrow (.bool false) N) 4)) (Half.start w 4 (bools (lostL rs)) (.bool false) N (by rw [bools_length, lostL_length, HN.out])))
  go_enter Try.func66, Try.ntmps66
  go_wp2_with fail
  go_loopw [9, 10] (fun l i wr => ∃ k L : Nat, k ≤ N ∧ i = .int .i64 k ∧ l = .int .i64 L ∧ L ≤ 9000000000000000000 ∧ Meas (rs.take k) L ∧ Ext w wr ∧ Half wr w.heap.size 4 (bools (lostL rs)) (.bool false) k) (fun _ i _ => N - (intOf i).toNat)
  case atStart => exact ⟨0, 0, by omega, rfl, rfl, by omega, ⟨fun r hr => by simp at hr, .inl rfl⟩, H0.out.1, H0.out.2⟩
  case round =>
    clear H0
    obtain ⟨W, rfl⟩ : ∃ W, W = wr := ⟨_, rfl⟩
    obtain ⟨q, L, hq, rfl, rfl, hL, hm, hx, hf⟩ := hrel
    by_cases hlt : q < N
    · have hkl : q < rs.length := by rw [HN.out]; exact hlt
      have hbl : q < (bools (lostL rs)).length := by rw [bools_length, lostL_length]; exact hkl
      have hv : (bools (lostL rs))[q]? = some (.bool (decide (rs[q].length = 0))) := by
        rw [bools_get _ _ (by rw [lostL_length]; exact hkl)]
        simp [lostL]
      have f1 := hf.frozen q
      obtain ⟨u1, hu1⟩ := hf.some_ (by omega) hbl
      obtain ⟨ad, B1, c1, hA, hc1, -, -, -⟩ := (HR.out.ext hx).at_ hkl
      have hlk := HB.out rs[q] (List.getElem_mem hkl)
      have hkk : (q : Int) < (N : Int) := by omega
      by_cases h0 : rs[q].length = 0
      · rw [decide_eq_true h0] at hv
        have HF := Lib.hid (hf.step hbl hv)
        have hx2 := hx.new (p := ⟨w.heap.size, q, none⟩) (Nat.le_refl _) (.bool true)
        obtain ⟨ad', B2, c2, hA', hc2, -, -, -⟩ := (HR.out.ext hx2).at_ hkl
        rw [hA] at hA'
        cases hA'
        subst hA
        rw [h0] at hc1 hc2
        have HX := Lib.hid hx2
        have HM := Lib.hid (meas_skip hm hkl h0)
        clear hx hf hv hm hx2
        rcases (show L = 0 ∨ 0 < L by omega) with h5 | h5
        · subst h5
          go_wp2_with fail
          go_roundw
          case rel => exact ⟨q + 1, 0, by omega, by go_num, rfl, hL, HM.out, HX.out, HF.out⟩
          case measure => simp [intOf]; omega
        · have d5 : decide ((0 : Int) < (L : Int)) = true := decide_eq_true (by omega)
          go_wp2_with fail
          go_roundw
          case rel => exact ⟨q + 1, L, by omega, by go_num, rfl, hL, HM.out, HX.out, HF.out⟩
          case measure => simp [intOf]; omega
      · rw [decide_eq_false h0] at hv
        have HF := Lib.hid (hf.step hbl hv)
        have hx2 := hx.new (p := ⟨w.heap.size, q, none⟩) (Nat.le_refl _) (.bool false)
        obtain ⟨ad', B2, c2, hA', hc2, -, -, -⟩ := (HR.out.ext hx2).at_ hkl
        rw [hA] at hA'
        cases hA'
        subst hA
        have HX := Lib.hid hx2
        have g0 : ((rs[q].length : Int) == 0) = false := by rw [beq_eq_false_iff_ne]; omega
        clear hx hf hv hx2
        rcases (show L = 0 ∨ 0 < L by omega) with h5 | h5
        · subst h5
          have HM := Lib.hid (meas_put hm hkl (.inl rfl))
          clear hm
          go_wp2_with fail
          go_roundw
          case rel => exact ⟨q + 1, rs[q].length, by omega, by go_num, rfl, by omega, HM.out, HX.out, HF.out⟩
          case measure => simp [intOf]; omega
        · have d5 : decide ((0 : Int) < (L : Int)) = true := decide_eq_true (by omega)
          by_cases hLe : rs[q].length = L
          · have HM : Hid (Meas (rs.take (q + 1)) L) := Lib.hid (by have := meas_put hm hkl (.inr hLe); rwa [hLe] at this)
            have g2 : ((rs[q].length : Int) != (L : Int)) = false := by rw [bne_eq_false_iff_eq]; omega
            rw [hLe] at hc1 hc2 g0 g2
            clear hm
            go_wp2_with fail
            go_roundw
            case rel => exact ⟨q + 1, L, by omega, by go_num, rfl, hL, HM.out, HX.out, HF.out⟩
            case measure => simp [intOf]; omega
          · have HM := Lib.hid (meas_bad hm hkl (by omega) h0 hLe)
            have g2 : ((rs[q].length : Int) != (L : Int)) = true := by rw [bne_iff_ne]; omega
            clear hm
            go_wp2_with fail
            go_ret3
            exact mendOut_bad (.inr (.inl ⟨HG.out, HM.out, rfl, rfl, rfl⟩)) HX.out
    · obtain rfl : N = q := by omega
      have HO := Lib.hid (hf.done (B := w.heap.size) (by rw [bools_length, lostL_length, HN.out]) (Nat.le_refl _) (by simp only [maxLen]; omega))
      rw [List.take_of_length_le (by rw [HN.out]; omega)] at hm
      have HM := Lib.hid hm
      have HX := Lib.hid hx
      obtain ⟨nt, hnt⟩ : ∃ n, n = (thereL (lostL rs)).length := ⟨_, rfl⟩
      have HTH := Lib.hid (there5_n (some ⟨w.heap.size, 0, none⟩) N N (lostL rs) W (by rw [lostL_length, HN.out]) HO.out.rd (by omega))
      rw [← hnt] at HTH
      have hntN : nt ≤ N := by rw [hnt]; have := there_le (lostL rs); rw [lostL_length, HN.out] at this; exact this
      have HNT := Lib.hid hnt
      clear hnt hx hm hf
      go_wp2_with fail
      refine HTH.out.mono ?_
      rintro e w' ⟨rfl, rfl⟩
      clear HTH
      rcases (show nt < kn ∨ kn ≤ nt by omega) with h4 | h4
      · have d4 : decide ((nt : Int) < (kn : Int)) = true := decide_eq_true (by omega)
        go_wp2_with fail
        go_ret3
        exact mendOut_bad (.inr (.inr (.inl ⟨L, HG.out, HM.out, by rw [← HNT.out]; omega, rfl, rfl, rfl⟩))) HX.out
      have d4 : decide ((nt : Int) < (kn : Int)) = false := decide_eq_false (by omega)
      go_wp2_with fail
      refine (table_n _).mono ?_
      rintro e W1 ⟨gt, ct, rfl, ht, hx1⟩
      have HT := Lib.hid ht
      have HX1 := Lib.hid (HX.out.trans hx1)
      have HLO := Lib.hid (HO.out.ext hx1)
      clear ht hx1 HO HX
      have hLb : L ≤ 1000000000 := by
        rcases HM.out.2 with h | ⟨r, hr, hl⟩
        · omega
        · rw [← hl]; exact HB.out r hr
      have hmkN : ∀ w, (Instr.makeSlice 77 (.int .i64 (N : Int)) (.int .i64 (N : Int))).run Try.prog w = .ok (.slice (some ⟨w.heap.size, 0, none⟩) N N) (w.alloc (.cells (zrow (.slice none 0 0) N) 24)) := fun w => run_make_elt eltRowU8 _ _ N (by omega) w
      have HS0 := Lib.hid (RSt.start W1 N (fun _ => []) (fun _ => []) (by omega))
      go_wp2_with fail
      go_loopw [14] (fun i wr => ∃ (c : Nat) (O : Nat → List E) (B : Nat → List Nat) (V : List Value), c ≤ L ∧ i = .int .i64 c ∧ (∀ c', c' < c → ColR (kn : Int) rs c' (O c') (B c') 0) ∧ RSt W1 wr N V (rowUp O c) (metTo N B c)) (fun i _ => L - (intOf i).toNat)
      case atStart => exact ⟨0, _, _, _, by omega, rfl, fun c' h => by omega, HS0.out⟩
      case round =>
        clear HS0
        obtain ⟨W2, rfl⟩ : ∃ W, W = wr := ⟨_, rfl⟩
        obtain ⟨c, O, Bd, V, hc, rfl, hcols, hst⟩ := hrel
        have HC := Lib.hid hcols
        have HST := Lib.hid hst
        clear hcols hst
        by_cases hlt : c < L
        · have hmkW : ∀ w, (Instr.makeSlice 24 (.int .i64 (N : Int)) (.int .i64 (N : Int))).run Try.prog w = .ok (.slice (some ⟨w.heap.size, 0, none⟩) N N) (w.alloc (.cells (zrow (.int .u8 0) N) 5)) := fun w => run_make_elt eltU8 _ _ N (by omega) w
          have H0 := Lib.hid (And.intro ((Ext.refl W2).alloc (.cells (zrow (.int .u8 0) N) 5)) (Half.start W2 5 (bs (colL rs c)) (.int .u8 0) N (by rw [bs_length, colL_length, HN.out])))
          go_wp2_with fail
          go_loopw [16] (fun i wr => ∃ q : Nat, q ≤ N ∧ i = .int .i64 q ∧ Ext W2 wr ∧ Half wr W2.heap.size 5 (bs (colL rs c)) (.int .u8 0) q) (fun i _ => N - (intOf i).toNat)
          case atStart => exact ⟨0, by omega, rfl, H0.out.1, H0.out.2⟩
          case round =>
            clear H0
            obtain ⟨W3, rfl⟩ : ∃ W, W = wr := ⟨_, rfl⟩
            obtain ⟨q, hq, rfl, hx, hf⟩ := hrel
            by_cases hlt2 : q < N
            · have hkl : q < rs.length := by rw [HN.out]; exact hlt2
              have hxw : Ext W1 W3 := HST.out.ext.trans hx
              obtain ⟨ad, B1, c1, hA, hc1, hr1, -, -⟩ := (HR.out.ext (HX1.out.trans hxw)).at_ hkl
              have hbl : q < (bs (colL rs c)).length := by rw [bs_length, colL_length]; exact hkl
              have hv : (bs (colL rs c))[q]? = some (.int .u8 ((rs[q].getD c 0).val : Int)) := by
                rw [bs_get _ _ (by rw [colL_length]; exact hkl)]
                simp [colL]
              have hlc := (HLO.out.ext hxw).cell (bools_get (lostL rs) q (by rw [lostL_length]; exact hkl))
              rw [show (lostL rs)[q]'(by rw [lostL_length]; exact hkl) = decide (rs[q].length = 0) from by simp [lostL]] at hlc
              have f1 := hf.frozen q
              obtain ⟨u1, hu1⟩ := hf.some_ (by omega) hbl
              have hlk := HB.out rs[q] (List.getElem_mem hkl)
              have hkk : (q : Int) < (N : Int) := by omega
              by_cases h0 : rs[q].length = 0
              · rw [decide_eq_true h0] at hlc
                have hz : (rs[q].getD c 0).val = 0 := by
                  rw [List.getD_eq_getElem?_getD, List.getElem?_eq_none (by omega)]
                  rfl
                rw [hz] at hv
                have HF := Lib.hid (hf.skip hbl hv)
                have HX := Lib.hid hx
                clear hx hf hv hz hr1 hc1 hxw
                go_wp2_with fail
                go_roundw
                case rel => exact ⟨q + 1, by omega, by go_num, HX.out, HF.out⟩
                case measure => simp [intOf]; omega
              · rw [decide_eq_false h0] at hlc
                have hcr : c < rs[q].length := by
                  rcases HM.out.1 rs[q] (List.getElem_mem hkl) with h | h
                  · exact absurd h h0
                  · omega
                obtain ⟨bd, rfl, hc2⟩ := hr1.byte hcr
                have hge : rs[q].getD c 0 = rs[q][c] := by rw [List.getD_eq_getElem?_getD, List.getElem?_eq_getElem hcr]; rfl
                rw [hge] at hv
                have HF := Lib.hid (hf.step hbl hv)
                have HX := Lib.hid (hx.new (p := ⟨W2.heap.size, q, none⟩) (Nat.le_refl _) (.int .u8 ((rs[q][c]).val : Int)))
                have hl1 : (c : Int) < (rs[q].length : Int) := by omega
                have hvl := (rs[q][c]).lt
                subst hA
                clear hx hf hv hge hxw
                go_wp2_with fail
                go_roundw
                case rel => exact ⟨q + 1, by omega, by go_num, HX.out, HF.out⟩
                case measure => simp [intOf]; omega
            · obtain rfl : N = q := by omega
              have HW := Lib.hid (hf.done (B := W2.heap.size) (by rw [bs_length, colL_length, HN.out]) (Nat.le_refl _) (by simp only [maxLen]; omega))
              have HST3 := Lib.hid (HST.out.beyond hx)
              clear HST hf hx
              go_wp2_with fail
              refine (column5_n gt ct (some ⟨W2.heap.size, 0, none⟩) (some ⟨w.heap.size, 0, none⟩) N kn N N (colL rs c) (lostL rs) W3 (HT.out.ext HST3.out.ext) (by rw [colL_length, HN.out]) (by rw [lostL_length, HN.out]) HW.out.rd (HLO.out.ext HST3.out.ext).rd h3 (by omega) (by rw [← HNT.out]; exact h4)).mono ?_
              rintro e W4 ⟨va, vb, out, bad, ee, rfl, hsp, hoa, hob, hx4⟩
              have HST4 := Lib.hid (HST3.out.beyond hx4)
              by_cases hee : ee = 0
              case neg =>
                have hb : (ee != 0) = true := by rw [bne_iff_ne]; exact hee
                have HSP := Lib.hid hsp
                have HEE := Lib.hid hee
                clear hsp hee hoa hob hx4 HST3 HW
                go_wp2_with fail
                go_ret3
                exact mendOut_bad (.inr (.inr (.inr (.inl ⟨L, c, HG.out, HM.out, by rw [← HNT.out]; omega, hlt, fun c' h => ⟨_, _, HC.out c' h⟩, ⟨out, bad, HSP.out⟩, HEE.out, rfl, rfl⟩)))) (HX1.out.trans HST4.out.ext)
              subst hee
              obtain ⟨hol, hbn, hbl⟩ := ColR.fine hsp
              rw [HN.out] at hol hbl
              have HBN := Lib.hid hbn
              have HCOL := Lib.hid (cols_step HC.out hsp)
              have HFF : Hid (FarFrom V va) := Lib.hid fun j u hu => by
                cases e : va.ownBlock with
                | none => exact .inl rfl
                | some g =>
                  right
                  intro e2
                  have h1 := (hoa.lt _ e).1
                  have h2 := ((HST3.out.rows.own j u hu).lt _ e2.symm).2
                  omega
              obtain ⟨bn, hbn'⟩ : ∃ n, n = bad.length := ⟨_, rfl⟩
              obtain ⟨Ao, co, hva, -, -, -, -⟩ := hoa.slice
              obtain ⟨Ab, cb, hvb, -, -, -, -⟩ := hob.slice
              rw [bs_length, hol] at hva
              rw [ints_length, ← hbn'] at hvb
              subst hva
              subst hvb
              have HOA := Lib.hid hoa
              have HOB := Lib.hid hob
              have HOL := Lib.hid hol
              have HBL := Lib.hid hbn'
              rw [← hbn'] at hbl
              clear hsp hoa hob hol hbn hbn' HST3 HW HC hx4
              go_wp2_with fail
              go_loopw [20] (fun i wr => ∃ (q : Nat) (V : List Value), q ≤ N ∧ i = .int .i64 q ∧ RSt W1 wr N V (fun i => if i < q then rowUp O c i ++ [out.getD i 0] else rowUp O c i) (metTo N Bd c) ∧ Own wr W3.heap.size 5 (.slice Ao N co) (bs out) ∧ FarFrom V (.slice Ao N co) ∧ Own wr W3.heap.size 3 (.slice Ab bn cb) (ints bad)) (fun i _ => N - (intOf i).toNat)
              case atStart => exact ⟨0, V, by omega, rfl, HST4.out.congr (fun i' _ => by rw [if_neg (by omega)]), HOA.out, HFF.out, HOB.out⟩
              case round =>
                obtain ⟨W5, rfl⟩ : ∃ W, W = wr := ⟨_, rfl⟩
                clear HST4 HOA HFF HOB
                obtain ⟨q, V, hq, rfl, hst, hoa, hff, hob⟩ := hrel
                by_cases hlt3 : q < N
                · have hqo : q < out.length := by rw [HOL.out]; exact hlt3
                  obtain ⟨ad, rfl, hc1⟩ := hoa.rd.byte hqo
                  obtain ⟨ov, hov⟩ : ∃ x, x = out[q] := ⟨_, rfl⟩
                  rw [← hov] at hc1
                  have hogd : out.getD q 0 = ov := by rw [hov, List.getD_eq_getElem?_getD, List.getElem?_eq_getElem hqo]; rfl
                  have hl1 := ov.lt
                  have hqv : q < V.length := by rw [hst.len]; exact hlt3
                  obtain ⟨v, hvq⟩ : ∃ v, V[q]? = some v := ⟨_, List.getElem?_eq_getElem hqv⟩
                  have hov5 := hst.rows.own q v hvq
                  rw [if_neg (Nat.lt_irrefl _)] at hov5
                  obtain ⟨Av, nv, cv, rfl⟩ : ∃ A n c, v = Value.slice A n c := by obtain ⟨A, c, h⟩ := hov5.anySlice; exact ⟨_, _, _, h⟩
                  have hc2 := hst.list.cell hvq
                  have hqN : (q : Int) < (N : Int) := by omega
                  have hxa : Ext W5 (W5.drew.alloc (.cells #[.int .u8 (ov.val : Int)] 5)) := ((Ext.refl W5).drewN 1).alloc _
                  have hWle := hst.ext.le
                  obtain ⟨v', w2, hrun, hn, hm, ho⟩ := run_app2 (P := Try.prog) (W5.drew.alloc (.cells #[.int .u8 (ov.val : Int)] 5)) eltU8 24 W1.heap.size (.slice Av nv cv) (bs (rowUp O c q)) (hov5.ext hxa) (some ⟨W5.heap.size, 0, none⟩) 1 1 [.int .u8 (ov.val : Int)] (rd_new W5.drew _ _) rfl (by intro u hu; simp at hu; subst hu; rfl) (by rw [bs_length, rowUp_length]; simp; omega) (by simp; omega)
                  rw [← bs_one, ← bs_append, ← hogd] at hn
                  have hn' : Own w2 W1.heap.size 5 v' (bs ((if q < q then rowUp O c q ++ [out.getD q 0] else rowUp O c q) ++ [out.getD q 0])) := by rw [if_neg (Nat.lt_irrefl _)]; exact hn
                  have ho' : Own w2 W1.heap.size 5 (.slice Av nv cv) (bs (if q < q then rowUp O c q ++ [out.getD q 0] else rowUp O c q)) := by rw [if_neg (Nat.lt_irrefl _)]; exact ho
                  have hst2 := hst.push hvq hxa hn' hm ho'
                  obtain ⟨hoa2, hff2⟩ := hst.aside hvq hxa hm hn' hoa hff
                  have hob2 := hst.asideInt hvq hxa hm hob
                  have hl2 : Own w2 W1.heap.size 24 (.slice (some ⟨W1.heap.size, 0, none⟩) N N) V := (hst.list.ext hxa).kept hm.grown ((hst.list.ext hxa).types (hov5.ext hxa) (by decide))
                  have f1 := hl2.frozen q
                  have c1 := hl2.cell hvq
                  obtain ⟨Av', nv', cv', rfl⟩ : ∃ A n c, v' = Value.slice A n c := by obtain ⟨A, c, h⟩ := hn.anySlice; exact ⟨_, _, _, h⟩
                  have HP := Lib.hid (And.intro (hst2.congr (R' := fun i => if i < q + 1 then rowUp O c i ++ [out.getD i 0] else rowUp O c i) fun i' _ => by
                    by_cases e : i' = q
                    · subst e; rw [updR_same, if_neg (Nat.lt_irrefl _), if_pos (Nat.lt_succ_self _)]
                    · rw [updR_other _ _ _ e]
                      by_cases e2 : i' < q
                      · rw [if_pos e2, if_pos (by omega)]
                      · rw [if_neg e2, if_neg (by omega)]) (And.intro hoa2 (And.intro hff2 hob2)))
                  have d1 : ∀ w', Ext W5 w' → w'.cell? ⟨W1.heap.size, q, none⟩ = some (.slice Av nv cv) := fun w' h => (h.cell (World.block_lt_of_cell? _ _ hc2)).trans hc2
                  have d2 : ∀ w', Ext W5 w' → w'.cell? (ad.add q) = some (.int .u8 (ov.val : Int)) := fun w' h => (h.cell (World.block_lt_of_cell? _ _ hc1)).trans hc1
                  have HL := Lib.hid (And.intro f1 c1)
                  clear hst hoa hff hob hst2 hoa2 hff2 hob2 hl2 hn hn' hm ho ho' hov5 f1 c1 hc1 hc2 hvq hov hogd
                  go_wp2_with fail
                  refine wp_region_mix (fun i => [3, 3, 0, 0, 0, 0, 0, 0, 0, 0, 1, 2, 3, 2].getD i 0) (fun w' => Ext W5 w') hmo (by kernel_rfl) (by kernel_rfl) ((Ext.refl _).drewN 1) ?_
                  refine mix_pure (.slice (some ⟨W1.heap.size, 0, none⟩) N N) rfl (fun w' => by go_simp) ?_
                  refine mix_pure (.int .i64 (q : Int)) rfl (fun w' => by go_simp) ?_
                  refine mix_still (.slice (some ⟨W1.heap.size, 0, none⟩) N N) rfl (fun w' hw' => by go_simp) ?_
                  refine mix_still (.int .i64 (q : Int)) rfl (fun w' hw' => by go_simp) ?_
                  refine mix_still (.pointer (some ⟨W1.heap.size, q, none⟩)) rfl (fun w' hw' => by go_simp) ?_
                  refine mix_still (.slice Av nv cv) rfl (fun w' hw' => by have := d1 w' hw'; go_simp) ?_
                  refine mix_still (.slice (some ad) N co) rfl (fun w' hw' => by go_simp) ?_
                  refine mix_still (.int .i64 (q : Int)) rfl (fun w' hw' => by go_simp) ?_
                  refine mix_still (.pointer (some (ad.add q))) rfl (fun w' hw' => by go_simp) ?_
                  refine mix_still (.int .u8 (ov.val : Int)) rfl (fun w' hw' => by have := d2 w' hw'; go_simp) ?_
                  refine mix_laid (.slice (some ⟨W5.heap.size, 0, none⟩) 1 1) (W5.drew.alloc (.cells #[.int .u8 (ov.val : Int)] 5)) rfl (by go_simp) hxa ?_
                  refine mix_last (.slice Av' nv' cv') w2 rfl (append_run (s := .tmp 139) (x := .tmp 144) (t := 24) rfl (by go_simp) (by go_simp) hrun) ?_
                  refine mix_pure (.pointer (some ⟨W1.heap.size, q, none⟩)) rfl (fun w' => by go_simp) ?_
                  refine mix_store (w2.setCell ⟨W1.heap.size, q, none⟩ (.slice Av' nv' cv')) rfl (by obtain ⟨f1, c1⟩ := HL.out; go_simp) ?_
                  refine mix_nil ?_
                  clear d1 d2 hrun hxa
                  go_wp2_with fail
                  go_roundw
                  case rel => exact ⟨q + 1, _, by omega, by go_num, HP.out.1, HP.out.2.1, HP.out.2.2.1, HP.out.2.2.2⟩
                  case measure => simp [intOf]; omega
                · obtain rfl : N = q := by omega
                  have HST5 : Hid (RSt W1 W5 N V (rowUp (updC O c out) (c + 1)) (metTo N Bd c)) := Lib.hid (hst.congr fun i' hi' => by rw [if_pos hi', rowUp_step])
                  have HOB := Lib.hid hob
                  clear hst hoa hff hob
                  go_wp2_with fail
                  go_loopw [21] (fun i wr => ∃ q : Nat, q ≤ bn ∧ i = .int .i64 q ∧ RSt W1 wr N V (rowUp (updC O c out) (c + 1)) (markL (metTo N Bd c) (bad.take q)) ∧ Own wr W3.heap.size 3 (.slice Ab bn cb) (ints bad)) (fun i _ => bn - (intOf i).toNat)
                  case atStart => exact ⟨0, by omega, rfl, HST5.out, HOB.out⟩
                  case round =>
                    obtain ⟨W9, rfl⟩ : ∃ W, W = wr := ⟨_, rfl⟩
                    obtain ⟨q, hq, rfl, hm9, hob⟩ := hrel
                    clear HST5 HOB
                    by_cases hlt5 : q < bn
                    · have hqo : q < bad.length := by rw [← HBL.out]; exact hlt5
                      obtain ⟨ad9, rfl, hc1⟩ := hob.rd.at_ (ints_get bad q hqo)
                      obtain ⟨bv9, hbv⟩ : ∃ x, x = bad[q] := ⟨_, rfl⟩
                      have hbN : bv9 < N := by rw [hbv, ← HN.out]; exact HBN.out _ (List.getElem_mem hqo)
                      rw [← hbv] at hc1
                      have hml : bv9 < (bools (markL (metTo N Bd c) (bad.take q))).length := by rw [bools_length, markL_length, metTo_length]; exact hbN
                      obtain ⟨u1, hu1⟩ : ∃ u, W9.cell? ⟨W1.heap.size + 1, bv9, none⟩ = some u := ⟨_, hm9.met.cell (List.getElem?_eq_getElem hml)⟩
                      have f1 := hm9.met.frozen bv9
                      have hmk := hm9.mark bv9
                      rw [hbv, ← markL_snoc, ← take_snoc' bad q hqo, ← hbv] at hmk
                      have HP := Lib.hid (And.intro hmk (hob.far (p := ⟨W1.heap.size + 1, bv9, none⟩) (ne_some (hob.types hm9.met (by decide))) (.bool true)))
                      have hbN2 : (bv9 : Int) < (N : Int) := by omega
                      have hqb : (q : Int) < (bn : Int) := by omega
                      clear hmk hm9 hob hbv hml
                      go_wp2_with fail
                      go_roundw
                      case rel => exact ⟨q + 1, by omega, by go_num, HP.out.1, HP.out.2⟩
                      case measure => simp [intOf]; omega
                    · obtain rfl : bn = q := by omega
                      rw [List.take_of_length_le (by rw [HBL.out]; exact Nat.le_refl _), metTo_step] at hm9
                      have HFIN := Lib.hid hm9
                      clear hm9 hob
                      go_wp2_with fail
                      go_roundw
                      case rel => exact ⟨c + 1, _, _, _, by omega, by go_num, HCOL.out, HFIN.out⟩
                      case measure => simp [intOf]; omega
        · obtain rfl : L = c := by omega
          clear hlt
          go_wp2_with fail
          go_loopw [22, 23] (fun v i wr => ∃ (q : Nat) (V : Value), V = v ∧ q ≤ N ∧ i = .int .i64 q ∧ Ext W2 wr ∧ Own wr W2.heap.size 3 V (ints (badP Bd L q))) (fun _ i _ => N - (intOf i).toNat)
          case atStart => exact ⟨0, _, rfl, by omega, rfl, Ext.refl _, Own.nil _ _ _⟩
          case round =>
            obtain ⟨W3, rfl⟩ : ∃ W, W = wr := ⟨_, rfl⟩
            obtain ⟨q, U, rfl, hq, rfl, hx, ho⟩ := hrel
            by_cases hlt : q < N
            · have hc1 : W3.cell? ⟨W1.heap.size + 1, q, none⟩ = some (.bool ((List.range L).any fun c => decide (q ∈ Bd c))) := (HST.out.met.ext hx).cell (by rw [bools, List.getElem?_map, metTo_get Bd L hlt]; rfl)
              have hle := hx.le
              have hbd : ((ints (badP Bd L q)).length + 1) * 8 ≤ 140737488355328 := by rw [ints_length]; have := badP_le Bd L q; omega
              have hqN : (q : Int) < (N : Int) := by omega
              obtain ⟨b, hb⟩ : ∃ b, b = ((List.range L).any fun c => decide (q ∈ Bd c)) := ⟨_, rfl⟩
              rw [← hb] at hc1
              cases b with
              | true =>
                have HT := Lib.hid (badP_yes hb.symm)
                have HX := Lib.hid hx
                clear hb hx
                go_wp2_with (at_builtin; refine wpList_push W3 eltInt rfl _ _ (by rfl) W2.heap.size U _ (by rfl) (by exact ho) (.int .i64 q) (by rfl) rfl hbd hle ?_; intro v' w' ho' _ hb' _)
                go_roundw
                case rel => exact ⟨q + 1, _, rfl, by omega, by go_num, Below.trans HX.out hb', by rw [HT.out, ints_snoc]; exact ho'⟩
                case measure => simp [intOf]; omega
              | false =>
                have HT := Lib.hid (badP_no hb.symm)
                have HX := Lib.hid hx
                clear hb hx
                go_wp2_with fail
                go_roundw
                case rel => exact ⟨q + 1, _, rfl, by omega, by go_num, HX.out, by rw [HT.out]; exact ho⟩
                case measure => simp [intOf]; omega
            · obtain rfl : N = q := by omega
              have HO := Lib.hid ho
              have HX := Lib.hid hx
              clear ho hx
              go_wp2_with fail
              go_ret3
              have hsz : w.heap.size ≤ W1.heap.size := HX1.out.le
              have hsz2 : W1.heap.size ≤ W2.heap.size := HST.out.ext.le
              exact ⟨_, _, outTo rs O L, badTo rs.length Bd L, 0, rfl, .inr (.inr (.inr (.inr ⟨L, O, Bd, HG.out, HM.out, by rw [← HNT.out]; omega, HC.out, rfl, rfl, rfl⟩))), (HST.out.beyond HX.out).rowsOut HN.out hsz, by rw [HN.out, ← badP_all]; exact HO.out.mono (Nat.le_trans hsz hsz2), HX1.out.trans (HST.out.ext.trans HX.out)⟩
end Go.Proofs.Ytemnlcfabaocbaa
/-
  The walks of the laws' own helpers of chapter 5: sameBytes, sameRows, lent, kept.
-/
namespace Go.Proofs.Ytemnlcfabaocbaa
open Go.RowKit Gf
set_option maxRecDepth 20000
set_option linter.unusedVariables false

/-- Are these the same? -/
def eqB (xs ys : List E) : Bool := decide (xs = ys)
theorem eqB_true {xs ys : List E} (h : xs = ys) : eqB xs ys = true := decide_eq_true h
theorem eqB_false {xs ys : List E} (h : xs ≠ ys) : eqB xs ys = false := decide_eq_false h
def SameOut (xs ys : List E) (w : World) (e : Ending) (w' : World) : Prop := e = .returned (.bool (eqB xs ys)) ∧ Ext w w'
theorem take_same {xs ys : List E} {k : Nat} (hk : k < xs.length) (hl : xs.length = ys.length) (h : xs.take k = ys.take k) (e : xs[k] = ys[k]'(by omega)) : xs.take (k + 1) = ys.take (k + 1) := by
  rw [take_snoc' xs k hk, take_snoc' ys k (by omega), h, e]
set_option maxHeartbeats 1000000 in
theorem sameBytes_any (A B : Option Addr) (n m : Nat) (xs ys : List E) (ca cb : Nat) (w : World) (hn : xs.length = n) (hm : ys.length = m) (hr : Rd w A (bs xs)) (hs : Rd w B (bs ys)) (hlen : n ≤ 9000000000000000000) (hlen2 : m ≤ 9000000000000000000) :
    Calls Try.prog 80 #[.slice A n ca, .slice B m cb] w (SameOut xs ys w) := by
  subst hn
  subst hm
  by_cases hl : xs.length = ys.length
  case neg =>
    have d : ((xs.length : Int) != (ys.length : Int)) = true := by rw [bne_iff_ne]; omega
    have HL := Lib.hid hl
    clear hl
    go_enter Try.func80, Try.ntmps80
    go_wp2
    go_ret
    exact ⟨ret_bool (eqB_false (fun e => HL.out (by rw [e]))).symm, Ext.refl _⟩
  have d : ((xs.length : Int) != (ys.length : Int)) = false := by rw [bne_eq_false_iff_eq]; omega
  have HL := Lib.hid hl
  clear hl
  go_enter Try.func80, Try.ntmps80
  go_wp2_with fail
  go_loopw [5] (fun i wr => ∃ k : Nat, k ≤ xs.length ∧ i = .int .i64 k ∧ Ext w wr ∧ xs.take k = ys.take k) (fun i _ => xs.length - (intOf i).toNat)
  case atStart => exact ⟨0, by omega, rfl, Ext.refl _, rfl⟩
  case round =>
    obtain ⟨W, rfl⟩ : ∃ W, W = wr := ⟨_, rfl⟩
    obtain ⟨k, hk, rfl, hbel, ht⟩ := hrel
    have HT := Lib.hid ht
    clear ht
    by_cases hlt : k < xs.length
    · have hlt2 : k < ys.length := by rw [← HL.out]; exact hlt
      obtain ⟨ad, rfl, hc1⟩ := (hr.ext hbel).byte hlt
      obtain ⟨bd, rfl, hc2⟩ := (hs.ext hbel).byte hlt2
      have hl0 : (0 : Int) ≤ (k : Int) := by omega
      have hl1 : (k : Int) < (xs.length : Int) := by omega
      have hl2 : (k : Int) < (ys.length : Int) := by omega
      have hv1 := (xs[k]).lt
      have hv2 := (ys[k]).lt
      by_cases he : xs[k] = ys[k]
      · have hb : (((xs[k]).val : Int) != ((ys[k]).val : Int)) = false := by rw [he]; simp
        have HT2 := Lib.hid (take_same hlt HL.out HT.out he)
        clear he
        go_wp2_with fail
        go_quiet (fail)
        go_wp2
        go_roundw
        case rel => exact ⟨k + 1, by omega, by go_num, hbel.drewN _, HT2.out⟩
        case measure => simp [intOf]; omega
      · have hb : (((xs[k]).val : Int) != ((ys[k]).val : Int)) = true := by
          rw [bne_iff_ne]
          intro e
          exact he (E.ext (by omega))
        have HE : Hid (xs ≠ ys) := Lib.hid (fun e => he (by subst e; rfl))
        clear he
        go_wp2_with fail
        go_quiet (fail)
        go_wp2
        go_ret
        exact ⟨ret_bool (eqB_false HE.out).symm, hbel.drewN _⟩
    · obtain rfl : k = xs.length := by omega
      have HE : Hid (xs = ys) := Lib.hid (by
        have h := HT.out
        rwa [List.take_length, List.take_of_length_le (by rw [HL.out]; exact Nat.le_refl _)] at h)
      go_wp2
      go_ret
      exact ⟨ret_bool (eqB_true HE.out).symm, hbel⟩
theorem sameBytes_n (A B : Option Addr) (n m : Nat) (xs : List E) (ca cb : Nat) (w : World) (hn : xs.length = n) (hm : xs.length = m) (hr : Rd w A (bs xs)) (hs : Rd w B (bs xs)) (hlen : n ≤ 9000000000000000000) :
    Calls Try.prog 80 #[.slice A n ca, .slice B m cb] w fun e w' => e = .returned (.bool true) ∧ Ext w w' :=
  (sameBytes_any A B n m xs xs ca cb w hn hm hr hs hlen (by omega)).mono fun e w' ⟨h, hx⟩ => ⟨by rw [h, eqB_true rfl], hx⟩
set_option maxHeartbeats 1000000 in
theorem sameRows_n (A C : Option Addr) (N M ca cb : Nat) (rs : List (List E)) (w : World) (hN : rs.length = N) (hM : rs.length = M) (hr : RdRows w A rs) (hs : RdRows w C rs) (hlen : N ≤ 1000000000) (hl : ∀ r ∈ rs, r.length ≤ 9000000000000000000) :
    Calls Try.prog 69 #[.slice A N ca, .slice C M cb] w fun e w' => e = .returned (.bool true) ∧ Ext w w' := by
  subst hN
  subst hM
  have HL := Lib.hid hl
  have hmo : Try.prog.follows Departure.mixedOrders = true := by kernel_rfl
  have hwd : Fence.wide.depth = none := rfl
  have hwf : ∀ f, Fence.wide.fn f := fun _ => trivial
  clear hl
  go_enter Try.func69, Try.ntmps69
  go_wp2_with fail
  go_loopw [5] (fun i wr => ∃ k : Nat, k ≤ rs.length ∧ i = .int .i64 k ∧ Ext w wr) (fun i _ => rs.length - (intOf i).toNat)
  case atStart => exact ⟨0, by omega, rfl, Ext.refl _⟩
  case round =>
    obtain ⟨k, hk, rfl, hx⟩ := hrel
    by_cases hlt : k < rs.length
    · obtain ⟨ad, B1, c1, rfl, hc1, hr1, -, -⟩ := (hr.ext hx).at_ hlt
      obtain ⟨bd, B2, c2, rfl, hc2, hr2, -, -⟩ := (hs.ext hx).at_ hlt
      have hlk := HL.out rs[k] (List.getElem_mem hlt)
      have f1 : ∀ u : Beyond wr, u.1.cell? (ad.add k) = some (.slice B1 rs[k].length c1) := fun u => (u.2.cell (p := ad.add k) (World.block_lt_of_cell? _ _ hc1)).trans hc1
      have f2 : ∀ u : Beyond wr, u.1.cell? (bd.add k) = some (.slice B2 rs[k].length c2) := fun u => (u.2.cell (p := bd.add k) (World.block_lt_of_cell? _ _ hc2)).trans hc2
      have HQ := Lib.hid (fun u : Beyond wr => sameBytes_n B1 B2 _ _ rs[k] c1 c2 u.1 rfl rfl (hr1.ext u.2) (hr2.ext u.2) hlk)
      have HR := Lib.hid hr
      have HS := Lib.hid hs
      have HX := Lib.hid hx
      clear hr hs hx hr1 hr2 hc1 hc2
      go_wp2_with fail
      refine region_beyond_plain hmo (by kernel_rfl) (by kernel_rfl) ?_
      repeat (gi_big_quiet_step ((gi_at_call 80; with_reducible exact call_beyond (HQ.out _))))
      refine wpQuietIn_nil ?_
      rintro _ ⟨⟨w2, hx2⟩, rfl⟩
      clear f1 f2
      go_wp2_with fail
      go_roundw
      case rel => exact ⟨k + 1, by omega, by go_num, HX.out.trans hx2⟩
      case measure => simp [intOf]; omega
    · obtain rfl : k = rs.length := by omega
      go_wp2
      go_ret
      exact ⟨rfl, hx⟩
def tails (k : Nat) : List E := (List.range k).map fun j => E.of (150 + j)
theorem tails_length (k : Nat) : (tails k).length = k := by simp [tails]
theorem tails_snoc (k : Nat) : tails (k + 1) = tails k ++ [E.of (150 + k)] := by simp [tails, List.range_succ]
theorem tails_val {k : Nat} (h : k < 66) : ((E.of (150 + k)).val : Int) = 150 + (k : Int) := by rw [E.val_of (by omega)]; omega
/-- The rows in memory of their own, each and the list of them with marks behind. -/
structure Lent (w : World) (B G cap : Nat) (V : List Value) (rs : List (List E)) : Prop where
  list : Own w B 24 (.slice (some ⟨G, 0, none⟩) (rs.length + 66) cap) V
  len : V.length = rs.length + 66
  rows : ∀ (i : Nat) (h : i < rs.length), ∃ g c, V[i]? = some (.slice (some ⟨g, 0, none⟩) rs[i].length c) ∧ Own w B 5 (.slice (some ⟨g, 0, none⟩) (rs[i].length + 66) c) (bs (rs[i] ++ tails 66)) ∧ rs[i].length + 66 ≤ c ∧ c ≤ maxLen
  more : ∀ k, k < 66 → ∃ g c, V[rs.length + k]? = some (.slice (some ⟨g, 0, none⟩) 2 c) ∧ Own w B 5 (.slice (some ⟨g, 0, none⟩) 2 c) (bs [E.of k, E.of 77])
  far : FarApart V
theorem Lent.ext {w w' : World} {B G cap : Nat} {V : List Value} {rs : List (List E)} (h : Lent w B G cap V rs) (hx : Ext w w') : Lent w' B G cap V rs :=
  ⟨h.list.ext hx, h.len, fun i hi => by obtain ⟨g, c, h1, h2, h3⟩ := h.rows i hi; exact ⟨g, c, h1, h2.ext hx, h3⟩, fun k hk => by obtain ⟨g, c, h1, h2⟩ := h.more k hk; exact ⟨g, c, h1, h2.ext hx⟩, h.far⟩
theorem Lent.rd {w : World} {B G cap : Nat} {V : List Value} {rs : List (List E)} (h : Lent w B G cap V rs) : RdRows w (some ⟨G, 0, none⟩) rs := by
  refine ⟨V.take rs.length, by rw [List.length_take, h.len]; omega, h.list.rd.take _, fun i r hi => ?_⟩
  have hl : i < rs.length := (List.getElem?_eq_some_iff.1 hi).1
  obtain ⟨g, c, h1, h2, h3, h4⟩ := h.rows i hl
  obtain rfl : rs[i] = r := by rw [List.getElem?_eq_getElem hl] at hi; exact Option.some.inj hi
  refine ⟨some ⟨g, 0, none⟩, c, by rw [List.getElem?_take_of_lt hl]; exact h1, ?_, by omega, h4⟩
  have := h2.rd.take rs[i].length
  rwa [← bs_take, List.take_left] at this
/-- What is known while it is made: the first k rows. -/
structure Lending (w wr : World) (rs : List (List E)) (k : Nat) (v : Value) (V : List Value) : Prop where
  ext : Ext w wr
  len : V.length = k
  list : Own wr w.heap.size 24 v V
  rows : ∀ (i : Nat) (h : i < rs.length), i < k → ∃ g c, V[i]? = some (.slice (some ⟨g, 0, none⟩) rs[i].length c) ∧ Own wr w.heap.size 5 (.slice (some ⟨g, 0, none⟩) (rs[i].length + 66) c) (bs (rs[i] ++ tails 66)) ∧ rs[i].length + 66 ≤ c ∧ c ≤ maxLen
  more : ∀ j, j < 66 → rs.length + j < k → ∃ g c, V[rs.length + j]? = some (.slice (some ⟨g, 0, none⟩) 2 c) ∧ Own wr w.heap.size 5 (.slice (some ⟨g, 0, none⟩) 2 c) (bs [E.of j, E.of 77])
  lie : ∀ (i : Nat) (u : Value), V[i]? = some u → ∃ g, u.ownBlock = some g ∧ g < wr.heap.size
  far : FarApart V
/-- Another row is hung on. -/
theorem Lending.hang {w w1 w2 : World} {rs : List (List E)} {k m n g c : Nat} {v v2 : Value} {V : List Value} {W : World} {xs : List E} (h : Lending w W rs k v V) (hx : Ext W w1)
    (ho : Own w1 W.heap.size 5 (.slice (some ⟨g, 0, none⟩) n c) (bs xs))
    (hk : (∃ hi : k < rs.length, m = rs[k].length ∧ n = rs[k].length + 66 ∧ xs = rs[k] ++ tails 66 ∧ n ≤ c ∧ c ≤ maxLen) ∨ (∃ j, k = rs.length + j ∧ j < 66 ∧ m = 2 ∧ n = 2 ∧ xs = [E.of j, E.of 77]))
    (k1 : Own w2 w.heap.size 24 v2 (V ++ [.slice (some ⟨g, 0, none⟩) m c])) (k2 : Moved (w1.alloc (.cells #[.slice (some ⟨g, 0, none⟩) m c] 24)) w2 v v2) (k3 : Below w.heap.size w1 w2) : Lending w w2 rs (k + 1) v2 (V ++ [.slice (some ⟨g, 0, none⟩) m c]) := by
  have hu1 := ho.alloc (.cells #[.slice (some ⟨g, 0, none⟩) m c] 24)
  have hV1' := (h.list.ext hx).alloc (.cells #[.slice (some ⟨g, 0, none⟩) m c] 24)
  have hle : w.heap.size ≤ W.heap.size := h.ext.le
  have hnew := (hu1.kept k2.grown (hu1.types hV1' (by decide))).mono hle
  have hold : ∀ {u : Value} {ys : List Value}, Own W w.heap.size 5 u ys → Own w2 w.heap.size 5 u ys := fun hu => by
    have := (hu.ext hx).alloc (.cells #[.slice (some ⟨g, 0, none⟩) m c] 24)
    exact this.kept k2.grown (this.types hV1' (by decide))
  have hsz : W.heap.size ≤ w2.heap.size := Nat.le_trans hx.le k3.size
  have hgl := ho.lt g rfl
  have hgl2 := hnew.lt g rfl
  have left : ∀ {i : Nat}, i < k → (V ++ [Value.slice (some ⟨g, 0, none⟩) m c])[i]? = V[i]? := fun hi => List.getElem?_append_left (by rw [h.len]; exact hi)
  have last : (V ++ [Value.slice (some ⟨g, 0, none⟩) m c])[k]? = some (.slice (some ⟨g, 0, none⟩) m c) := by rw [← h.len]; simp
  refine ⟨(h.ext.trans hx).below.trans k3, by simp [h.len], k1, fun i hi hik => ?_, fun j hj hjk => ?_, fun i u hu => ?_, h.far.snoc fun i u hu => ?_⟩
  · rcases Nat.lt_or_ge i k with h1 | h1
    · obtain ⟨g', c', e1, e2, e3⟩ := h.rows i hi h1
      exact ⟨g', c', (left h1).trans e1, hold e2, e3⟩
    · obtain rfl : i = k := by omega
      rcases hk with ⟨_, rfl, rfl, rfl, h4, h5⟩ | ⟨j, rfl, _⟩
      · exact ⟨g, c, last, hnew, h4, h5⟩
      · omega
  · rcases Nat.lt_or_ge (rs.length + j) k with h1 | h1
    · obtain ⟨g', c', e1, e2⟩ := h.more j hj h1
      exact ⟨g', c', (left h1).trans e1, hold e2⟩
    · have e : rs.length + j = k := by omega
      rcases hk with ⟨hi, _⟩ | ⟨j', e', _, rfl, rfl, rfl⟩
      · omega
      · obtain rfl : j = j' := by omega
        rw [e]
        exact ⟨g, c, last, hnew⟩
  · rcases Nat.lt_trichotomy i V.length with h1 | h1 | h1
    · rw [List.getElem?_append_left h1] at hu
      obtain ⟨g', e1, e2⟩ := h.lie i u hu
      exact ⟨g', e1, by omega⟩
    · subst h1
      rw [List.getElem?_append_right (Nat.le_refl _)] at hu
      simp at hu
      subst hu
      exact ⟨g, rfl, hgl2.2⟩
    · rw [List.getElem?_eq_none (by simp; omega)] at hu; cases hu
  · obtain ⟨g', e1, e2⟩ := h.lie i u hu
    rw [e1]
    have : (Value.slice (some ⟨g, 0, none⟩) m c).ownBlock = some g := rfl
    rw [this]
    exact ⟨.inr (by simp only [ne_eq, Option.some.injEq]; omega), .inr (by simp only [ne_eq, Option.some.injEq]; omega)⟩
theorem Lending.lent {w wr : World} {rs : List (List E)} {v : Value} {V : List Value} (h : Lending w wr rs (rs.length + 66) v V) : ∃ G cap, v = .slice (some ⟨G, 0, none⟩) (rs.length + 66) cap ∧ Lent wr w.heap.size G cap V rs ∧ rs.length + 66 ≤ cap ∧ cap ≤ maxLen := by
  obtain ⟨G, cap, rfl, -, -, h2, h3⟩ := h.list.some_ (fun e => by have := h.len; rw [e] at this; simp at this)
  have hl := h.list
  rw [h.len] at hl h2 ⊢
  exact ⟨G, cap, rfl, ⟨hl, h.len, fun i hi => h.rows i hi (by omega), fun k hk => h.more k hk (by omega), h.far⟩, h2, h3⟩
set_option maxHeartbeats 4000000 in
theorem lent5_n (A : Option Addr) (N ca : Nat) (rs : List (List E)) (w : World) (hN : rs.length = N) (hr : RdRows w A rs) (hlen : N ≤ 1000000000) (hl : ∀ r ∈ rs, r.length ≤ 1000000000) :
    Calls Try.prog 67 #[.slice A N ca] w fun e w' => ∃ G cap V, e = .returned (.slice (some ⟨G, 0, none⟩) N cap) ∧ Lent w' w.heap.size G cap V rs ∧ N + 66 ≤ cap ∧ Ext w w' := by
  have HN := Lib.hid hN
  have HL := Lib.hid hl
  have HR := Lib.hid hr
  clear hN hl hr
  go_enter Try.func67, Try.ntmps67
  go_wp2_with fail
  go_loopw [3, 4] (fun v i wr => ∃ (k : Nat) (v' : Value) (V : List Value), v' = v ∧ k ≤ N ∧ i = .int .i64 k ∧ Lending w wr rs k v' V) (fun _ i _ => N - (intOf i).toNat)
  case atStart => exact ⟨0, _, [], rfl, by omega, rfl, Ext.refl _, rfl, Own.nil _ _ _, fun i _ h => by omega, fun j _ h => by omega, fun i u h => by simp at h, FarApart.nil⟩
  case round =>
    obtain ⟨W, rfl⟩ : ∃ W, W = wr := ⟨_, rfl⟩
    obtain ⟨k, v, V, rfl, hk, rfl, hC⟩ := hrel
    by_cases hlt : k < N
    · have hkl : k < rs.length := by rw [HN.out]; exact hlt
      obtain ⟨ad, B1, c1, rfl, hc1, hr1, -, -⟩ := (HR.out.ext hC.ext).at_ hkl
      have hlk := HL.out rs[k] (List.getElem_mem hkl)
      have h0 : Own (W.alloc (.cells #[] 5)) W.heap.size 5 (.slice (some ⟨W.heap.size, 0, none⟩) 0 0) [] := (Blk.new W 5 #[]).own (Nat.le_refl _) (Nat.le_refl _) (Nat.zero_le _) rfl
      have hbd1 : (([] : List Value).length + rs[k].length) * 1 ≤ 140737488355328 := by simp; omega
      have f1 : (W.alloc (.cells #[] 5)).cell? (ad.add k) = some (.slice B1 rs[k].length c1) := by rw [World.cell?_alloc_lt W _ _ (World.block_lt_of_cell? _ _ hc1)]; exact hc1
      have H1 := Lib.hid hr1
      have HC := Lib.hid hC
      have hkk : (k : Int) < (N : Int) := by omega
      clear hr1 hC
      go_wp2_with (at_builtin; refine wpList_app (W.alloc (.cells #[] 5)) eltU8 rfl _ _ (by rfl) W.heap.size (.slice (some ⟨W.heap.size, 0, none⟩) 0 0) [] (by rfl) (by exact h0) B1 rs[k].length c1 (bs rs[k]) (by rfl) (H1.out.alloc _) (bs_length _) (bs_ones _) hbd1 (by simp) ?_)
      intro u w1 ho hmv
      have hx1 : Ext W w1 := ((Ext.refl W).alloc _).below.trans (hmv.below (by simp) fun g hg => by simp [Value.ownBlock] at hg; omega)
      have ho' : Own w1 W.heap.size 5 u (bs (rs[k] ++ tails 0)) := by simpa [tails] using ho
      obtain ⟨A1, n1, cu, rfl⟩ : ∃ A n c, u = Value.slice A n c := by obtain ⟨A, c, h⟩ := ho.anySlice; exact ⟨_, _, _, h⟩
      have HO := Lib.hid (And.intro hx1 ho')
      clear h0 hbd1 f1 hc1 ho hmv hx1 ho'
      go_wp2_with fail
      go_loopw [5, 6] (fun u i wr => ∃ (j : Nat) (u' : Value), u' = u ∧ j ≤ 66 ∧ i = .int .i64 j ∧ Ext W wr ∧ Own wr W.heap.size 5 u' (bs (rs[k] ++ tails j))) (fun _ i _ => 66 - (intOf i).toNat)
      case atStart => exact ⟨0, _, rfl, by omega, rfl, HO.out.1, HO.out.2⟩
      case round =>
        clear HO
        obtain ⟨W2, rfl⟩ : ∃ W, W = wr := ⟨_, rfl⟩
        obtain ⟨j, u, rfl, hj, rfl, hx, ho⟩ := hrel
        by_cases hlt2 : j < 66
        · have hle := hx.le
          have hbd : ((bs (rs[k] ++ tails j)).length + 1) * 1 ≤ 140737488355328 := by rw [bs_length, List.length_append, tails_length]; omega
          have HX := Lib.hid hx
          have HO := Lib.hid ho
          have HV := Lib.hid (tails_val hlt2)
          have d66 : decide ((j : Int) < 66) = true := decide_eq_true (by omega)
          clear hx ho
          go_wp2_with (at_builtin; refine wpList_push W2 eltU8 rfl _ _ (by rfl) W.heap.size u _ (by rfl) (by exact HO.out) (.int .u8 (150 + (j : Int))) (by rfl) rfl hbd hle ?_; intro v' w' ho' _ hb' _)
          go_roundw
          case rel => exact ⟨j + 1, _, rfl, by omega, by go_num, HX.out.below.trans hb', by rw [tails_snoc, ← List.append_assoc, bs_append, bs_one, HV.out]; exact ho'⟩
          case measure => simp [intOf]; omega
        · obtain rfl : j = 66 := by omega
          obtain ⟨lk, hlk'⟩ : ∃ n, n = rs[k].length := ⟨_, rfl⟩
          have hll : (bs (rs[k] ++ tails 66)).length = lk + 66 := by rw [bs_length, List.length_append, tails_length, hlk']
          obtain ⟨gu, cu, rfl, hgu, hgu2, hcu, hcm⟩ := ho.some_ (fun e => by rw [e] at hll; simp at hll)
          rw [hll] at ho hcu ⊢
          simp only [maxLen] at hcm
          have hc1 : ∃ ad' B c, some ad = some ad' ∧ W2.cell? (ad'.add k) = some (.slice B lk c) := by
            obtain ⟨ad', B, c, e, h, -⟩ := (HR.out.ext (HC.out.ext.trans hx)).at_ hkl
            exact ⟨ad', B, c, e, by rw [hlk']; exact h⟩
          obtain ⟨ad', B', c', hA, hc1⟩ := hc1
          cases hA
          rw [← hlk'] at hlk
          have HLK := Lib.hid hlk'
          have HO := Lib.hid ho
          have HX := Lib.hid hx
          have hle1 : w.heap.size ≤ W2.heap.size := (HC.out.ext.trans hx).le
          have hbd2 : (V.length + 1) * 24 ≤ 140737488355328 := by rw [HC.out.len]; omega
          have hlk2 : (lk : Int) ≤ (cu : Int) := by omega
          clear hll hlk' hx ho
          go_wp2_with (at_builtin; refine wpList_push2 W2 eltRowU8 rfl _ _ (by rfl) w.heap.size v _ (by rfl) (HC.out.list.ext HX.out) (.slice (some ⟨gu, 0, none⟩) lk cu) W2.heap.size rfl (by rfl) rfl hbd2 hle1 ?_)
          intro v2 w2 k1 k2 k3 k4
          have HP := Lib.hid (HC.out.hang HX.out HO.out (.inl ⟨hkl, HLK.out, by rw [HLK.out], rfl, hcu, by simp only [maxLen]; omega⟩) k1 k2 k3)
          clear k1 k2 k3 k4 hbd2 hle1 hc1
          go_wp2_with fail
          go_roundw
          case rel => exact ⟨k + 1, v2, _, rfl, by omega, by go_num, HP.out⟩
          case measure => simp [intOf]; omega
    · obtain rfl : k = N := by omega
      have HC := Lib.hid hC
      clear hC
      go_wp2_with fail
      go_loopw [3, 7] (fun v i wr => ∃ (j : Nat) (v' : Value) (V : List Value), v' = v ∧ j ≤ 66 ∧ i = .int .i64 j ∧ Lending w wr rs (k + j) v' V) (fun _ i _ => 66 - (intOf i).toNat)
      case atStart => exact ⟨0, _, _, rfl, by omega, rfl, HC.out⟩
      case round =>
        clear HC
        obtain ⟨W2, rfl⟩ : ∃ W, W = wr := ⟨_, rfl⟩
        obtain ⟨j, v, V, rfl, hj, rfl, hC⟩ := hrel
        by_cases hlt2 : j < 66
        · have hjl : (E.of j).val = j := E.val_of (by omega)
          have h0 : Own (W2.alloc (.cells #[.int .u8 (j : Int), .int .u8 77] 5)) W2.heap.size 5 (.slice (some ⟨W2.heap.size, 0, none⟩) 2 2) (bs [E.of j, E.of 77]) := by
            have := (Blk.new W2 5 #[.int .u8 (j : Int), .int .u8 77]).own (B := W2.heap.size) (n := 2) (cap := 2) (Nat.le_refl _) (Nat.le_refl _) (by decide) rfl
            have e : bs [E.of j, E.of 77] = [.int .u8 (j : Int), .int .u8 77] := by simp only [bs, bv, List.map_cons, List.map_nil, hjl]; rfl
            rw [e]; exact this
          have hxa : Ext W2 (W2.alloc (.cells #[.int .u8 (j : Int), .int .u8 77] 5)) := (Ext.refl _).alloc _
          have hle1 : w.heap.size ≤ (W2.alloc (.cells #[.int .u8 (j : Int), .int .u8 77] 5)).heap.size := (hC.ext.trans hxa).le
          have hbd2 : (V.length + 1) * 24 ≤ 140737488355328 := by rw [hC.len]; omega
          have HC := Lib.hid hC
          have HH := Lib.hid (And.intro hxa h0)
          have d66 : decide ((j : Int) < 66) = true := decide_eq_true (by omega)
          clear hC hxa h0 hjl
          go_wp2_with (at_builtin; refine wpList_push2 (W2.alloc (.cells #[.int .u8 (j : Int), .int .u8 77] 5)) eltRowU8 rfl _ _ (by rfl) w.heap.size v _ (by rfl) (HC.out.list.ext HH.out.1) (.slice (some ⟨W2.heap.size, 0, none⟩) 2 2) (W2.heap.size + 1) (World.size_alloc _ _) (by rfl) rfl hbd2 hle1 ?_)
          intro v2 w2 k1 k2 k3 k4
          have HP := Lib.hid (HC.out.hang HH.out.1 HH.out.2 (.inr ⟨j, by rw [HN.out], hlt2, rfl, rfl, rfl⟩) k1 k2 k3)
          clear k1 k2 k3 k4 hbd2 hle1
          go_wp2_with fail
          go_roundw
          case rel => exact ⟨j + 1, v2, _, rfl, by omega, by go_num, HP.out⟩
          case measure => simp [intOf]; omega
        · obtain rfl : j = 66 := by omega
          rw [← HN.out] at hC
          obtain ⟨G, cap, rfl, hlent, hcap, hcm⟩ := hC.lent
          rw [HN.out] at hcap ⊢
          simp only [maxLen] at hcm
          have HE := Lib.hid (And.intro hlent hC.ext)
          clear hlent hC
          go_wp2_with fail
          go_ret
          exact ⟨G, cap, V, rfl, HE.out.1, hcap, HE.out.2⟩
theorem row_tail {r : List E} {j : Nat} (h : j < 66) : (bs (r ++ tails 66))[r.length + j]? = some (.int .u8 (150 + (j : Int))) := by
  have hl : r.length + j < (r ++ tails 66).length := by rw [List.length_append, tails_length]; omega
  rw [bs_get _ _ hl, List.getElem_append_right (by omega)]
  have : (tails 66)[r.length + j - r.length]'(by rw [tails_length]; omega) = E.of (150 + j) := by simp [tails]
  rw [this, tails_val h]
set_option maxHeartbeats 4000000 in
theorem kept5_n (A : Option Addr) (N M B G cap ca : Nat) (V : List Value) (rs : List (List E)) (w : World) (hN : rs.length = N) (hM : rs.length = M) (hl : Lent w B G cap V rs) (hcap : N + 66 ≤ cap) (hr : RdRows w A rs) (hlen : N ≤ 1000000000) (hb : ∀ r ∈ rs, r.length ≤ 1000000000) :
    Calls Try.prog 70 #[.slice (some ⟨G, 0, none⟩) N cap, .slice A M ca] w fun e w' => e = .returned (.bool true) ∧ Ext w w' := by
  have HN := Lib.hid hN
  obtain rfl : N = M := by omega
  have HL := Lib.hid hl
  have HR := Lib.hid hr
  have HB := Lib.hid hb
  clear hN hM hl hr hb
  go_enter Try.func70, Try.ntmps70
  go_wp2_with fail
  refine (sameRows_n _ A N N cap ca rs _ HN.out HN.out HL.out.rd HR.out hlen (fun r h => by have := HB.out r h; omega)).mono ?_
  rintro e w1 ⟨rfl, hx1⟩
  replace HL := Lib.hid (HL.out.ext hx1)
  replace HR := Lib.hid (HR.out.ext hx1)
  have HX := Lib.hid hx1
  clear hx1
  go_wp2_with fail
  go_loop [5] (fun i => ∃ k : Nat, k ≤ N ∧ i = .int .i64 k) (fun i => N - (intOf i).toNat)
  case atStart => exact ⟨0, by omega, rfl⟩
  case round =>
    obtain ⟨k, hk, rfl⟩ := hrel
    by_cases hlt : k < N
    · have hkl : k < rs.length := by rw [HN.out]; exact hlt
      obtain ⟨ad, B1, c1, rfl, hc1, -, -, -⟩ := HR.out.at_ hkl
      obtain ⟨g, c, hV, hrow, hcc, hcm⟩ := HL.out.rows k hkl
      have hc2 := HL.out.list.cell hV
      have hlk := HB.out rs[k] (List.getElem_mem hkl)
      have HT : Hid (∀ j, j < 66 → w1.cell? ⟨g, rs[k].length + j, none⟩ = some (.int .u8 (150 + (j : Int)))) := Lib.hid fun j hj => hrow.cell (row_tail hj)
      obtain ⟨lk, hlk'⟩ : ∃ n, n = rs[k].length := ⟨_, rfl⟩
      rw [← hlk'] at hc1 hc2 hlk hcc HT
      have hkk : (k : Int) < (N : Int) := by omega
      have hw1 : ((lk : Int) + 66).toNat = lk + 66 := by omega
      have hw2 : (lk : Int) + 66 ≤ (c : Int) := by omega
      simp only [maxLen] at hcm
      clear hV hrow hlk'
      go_wp2_with fail
      clear hw1
      go_loop [8] (fun i => ∃ j : Nat, j ≤ 66 ∧ i = .int .i64 j) (fun i => 66 - (intOf i).toNat)
      case atStart => exact ⟨0, by omega, rfl⟩
      case round =>
        obtain ⟨j, hj, rfl⟩ := hrel
        by_cases hlt2 : j < 66
        · have hc3 := HT.out j hlt2
          have d66 : decide ((j : Int) < 66) = true := decide_eq_true (by omega)
          have hw3 : ((lk : Int) + (j : Int)).toNat = lk + j := by omega
          have hw4 : (lk : Int) + (j : Int) < ((lk + 66 : Nat) : Int) := by omega
          have hw5 : (lk : Int) + (j : Int) < (lk : Int) + 66 := by omega
          go_wp2_with fail
          go_round
          case rel => exact ⟨j + 1, by omega, by go_num⟩
          case measure => simp [intOf]; omega
        · obtain rfl : j = 66 := by omega
          go_wp2_with fail
          go_round
          case rel => exact ⟨k + 1, by omega, by go_num⟩
          case measure => simp [intOf]; omega
    · obtain rfl : k = N := by omega
      have hw1 : ((k : Int) + 66).toNat = k + 66 := by omega
      have hw2 : (k : Int) + 66 ≤ (cap : Int) := by omega
      go_wp2_with fail
      clear hw1
      go_loop [10] (fun i => ∃ j : Nat, j ≤ 66 ∧ i = .int .i64 j) (fun i => 66 - (intOf i).toNat)
      case atStart => exact ⟨0, by omega, rfl⟩
      case round =>
        obtain ⟨j, hj, rfl⟩ := hrel
        by_cases hlt2 : j < 66
        · obtain ⟨g, c, hV, hrow⟩ := HL.out.more j hlt2
          have hc1 := HL.out.list.cell hV
          have hof : (E.of j).val = j := E.val_of (by omega)
          have hc2 : w1.cell? ⟨g, 0, none⟩ = some (.int .u8 (j : Int)) := by
            have := hrow.cell (j := 0) (by simp [bs]; rfl)
            rwa [bv, hof] at this
          have hc3 : w1.cell? ⟨g, 1, none⟩ = some (.int .u8 77) := hrow.cell (j := 1) (by simp [bs, bv]; rfl)
          rw [HN.out] at hc1
          have d66 : decide ((j : Int) < 66) = true := decide_eq_true (by omega)
          have hw3 : ((k : Int) + (j : Int)).toNat = k + j := by omega
          have hw4 : (k : Int) + (j : Int) < ((k + 66 : Nat) : Int) := by omega
          have hw5 : (k : Int) + (j : Int) < (k : Int) + 66 := by omega
          clear hV hrow hof
          go_wp2_with fail
          go_round
          case rel => exact ⟨j + 1, by omega, by go_num⟩
          case measure => simp [intOf]; omega
        · obtain rfl : j = 66 := by omega
          go_wp2_with fail
          go_ret
          exact ⟨rfl, HX.out⟩
end Go.Proofs.Ytemnlcfabaocbaa
/-
  Layer 5: what is known of Mend's answer, for the laws.
-/
namespace Go.Proofs.Ytemnlcfabaocbaa
open Go.RowKit Gf
set_option maxRecDepth 20000
set_option linter.unusedVariables false

theorem RowsOut.rd {w : World} {B : Nat} {v : Value} {rs : List (List E)} (h : RowsOut w B v rs) : ∃ A c, v = .slice A rs.length c ∧ RdRows w A rs ∧ rs.length ≤ c ∧ c ≤ maxLen := by
  obtain ⟨V, ho, hl, hr, -⟩ := h.vals
  obtain ⟨A, c, rfl, h1, h2, h3, -⟩ := ho.slice
  rw [hl] at h2 ⊢
  refine ⟨A, c, rfl, ⟨V, hl, h1, fun i r hi => ?_⟩, h2, h3⟩
  have hlt : i < V.length := by rw [hl]; exact (List.getElem?_eq_some_iff.1 hi).1
  have h4 := hr i V[i] (List.getElem?_eq_getElem hlt)
  rw [List.getD_eq_getElem?_getD, hi, Option.getD_some] at h4
  obtain ⟨A', c', hv, k1, k2, k3, -⟩ := h4.slice
  rw [bs_length] at hv k2
  exact ⟨A', c', by rw [List.getElem?_eq_getElem hlt, hv], k1, k2, k3⟩
theorem RowsOut.ext {w w' : World} {B : Nat} {v : Value} {rs : List (List E)} (h : RowsOut w B v rs) (hx : Ext w w') : RowsOut w' B v rs := by
  obtain ⟨V, ho, hl, hr, hf⟩ := h.vals
  exact ⟨V, ho.ext hx, hl, fun i u hu => (hr i u hu).ext hx, hf⟩
theorem MendSpec.fine {k : Int} {rs : List (List E)} {out : List (List E)} {bad : List Nat} {e : Int} {X : Nat} (h : MendSpec k rs out bad e) (hb : ∀ r ∈ rs, r.length ≤ X) :
    out.length ≤ 255 ∧ (∀ r ∈ out, r.length ≤ X) ∧ bad.length ≤ 255 ∧ (∀ i ∈ bad, i ≤ 1000000000) ∧ (Lit.int .i64 e).wf = true := by
  rcases h with ⟨h1, rfl, rfl, rfl⟩ | ⟨h1, h2, rfl, rfl, rfl⟩ | ⟨L, h1, h2, h3, rfl, rfl, rfl⟩ | ⟨L, c, h1, h2, h3, h4, h5, ⟨o, b, h6⟩, h7, rfl, rfl⟩ | ⟨L, O, B, h1, h2, h3, h4, rfl, rfl, rfl⟩
  · simp; decide
  · simp; decide
  · simp; decide
  · refine ⟨by simp, by simp, by simp, by simp, ColSpec.wf h6⟩
  · obtain ⟨g1, g2, g3⟩ := h1
    have hL : L ≤ X := by
      rcases h2.2 with h | ⟨r, hr, hl⟩
      · omega
      · rw [← hl]; exact hb r hr
    refine ⟨by rw [outTo, List.length_map, List.length_range]; omega, fun r hr => ?_, ?_, fun i hi => ?_, by decide⟩
    · obtain ⟨i, hi, rfl⟩ := List.mem_map.1 hr
      rw [List.length_map, List.length_range]; exact hL
    · have := badP_le B L rs.length
      rw [badP_all] at this
      omega
    · have := List.mem_range.1 (List.mem_filter.1 hi).1
      omega
end Go.Proofs.Ytemnlcfabaocbaa
