/-
  Texts of mine, merged: Mend2 Tab Ker0 Ker1 Ker.
-/
import Derived.Test.YtemnlcfabaocbaaG3
import Derived.Test.YtemnlcfabaocbaaG4
import Derived.Test.YtemnlcfabaocbaaG6
/-
  The walk of layer 5's Column.
-/
namespace Go.Proofs.Ytemnlcfabaocbaa
open Go.RowKit Gf
set_option maxRecDepth 20000
set_option linter.unusedVariables false

/-- What Column answers. -/
def ColOut (k : Int) (word : List E) (lost : List Bool) (T : TypeId) (w : World) (e : Ending) (w' : World) : Prop :=
  ∃ va vb out bad ee, e = .returned (.tuple #[va, vb, .int .i64 ee]) ∧ ColSpec k word lost out bad ee ∧ Own w' w.heap.size T va (bs out) ∧ Own w' w.heap.size 3 vb (ints bad) ∧ Ext w w'
theorem colOut_bad {k : Int} {word : List E} {lost : List Bool} {T : TypeId} {w w' : World} (hg : ¬ GoodK k word lost) (hx : Ext w w') : ColOut k word lost T w (.returned (.tuple #[.slice none 0 0, .slice none 0 0, .int .i64 2])) w' :=
  ⟨_, _, [], [], 2, rfl, .inl ⟨hg, rfl, rfl, rfl⟩, Own.nil _ _ _, Own.nil _ _ _, hx⟩
theorem colTo_take (p : List E) (n j : Nat) (h : j ≤ n) : (colTo p n).take j = colTo p j := by
  rw [colTo, ← List.map_take, List.take_range, Nat.min_eq_left h]; rfl
theorem intsTake_snoc (l : List Nat) (j : Nat) (h : j < l.length) : l.take (j + 1) = l.take j ++ [l[j]] := take_snoc' l j h
set_option maxHeartbeats 4000000 in
theorem column_n (A C : Option Addr) (n m ca cc : Nat) (k : Int) (word : List E) (lost : List Bool) (w : World) (hn : word.length = n) (hm : lost.length = m) (hr : Rd w A (bs word)) (hs : Rd w C (bools lost)) (hnb : n ≤ 1000000000000) (hmb : m ≤ 1000000000000) (hk : (Lit.int .i64 k).wf = true) :
    Calls Try.prog 63 #[.int .i64 k, .slice A n ca, .slice C m cc] w (ColOut k word lost 34 w) := by
  have HN := Lib.hid hn
  have HM := Lib.hid hm
  clear hn hm
  rcases (show k < 1 ∨ 1 ≤ k by omega) with h1 | h1
  · have d1 : decide (k < 1) = true := decide_eq_true h1
    go_enter Try.func63, Try.ntmps63
    go_wp2
    go_ret3
    exact colOut_bad (fun h => by have := h.1; omega) (Ext.refl _)
  obtain ⟨kn, rfl⟩ := Int.eq_ofNat_of_zero_le (show 0 ≤ k by omega)
  have d1 : decide ((kn : Int) < 1) = false := decide_eq_false (by omega)
  rcases (show n < kn ∨ kn ≤ n by omega) with h2 | h2
  · have d2 : decide ((n : Int) < (kn : Int)) = true := decide_eq_true (by omega)
    go_enter Try.func63, Try.ntmps63
    go_wp2
    go_ret3
    exact colOut_bad (fun h => by have := h.2.1; rw [HN.out] at this; omega) (Ext.refl _)
  have d2 : decide ((n : Int) < (kn : Int)) = false := decide_eq_false (by omega)
  rcases (show 255 < n ∨ n ≤ 255 by omega) with h3 | h3
  · have d3 : decide (255 < (n : Int)) = true := decide_eq_true (by omega)
    go_enter Try.func63, Try.ntmps63
    go_wp2
    go_ret3
    exact colOut_bad (fun h => by have := h.2.2.1; rw [HN.out] at this; omega) (Ext.refl _)
  have d3 : decide (255 < (n : Int)) = false := decide_eq_false (by omega)
  by_cases h4 : m = n
  case neg =>
    have d4 : ((m : Int) != (n : Int)) = true := by rw [bne_iff_ne]; omega
    go_enter Try.func63, Try.ntmps63
    go_wp2
    go_ret3
    exact colOut_bad (fun h => by have := h.2.2.2; rw [HN.out, HM.out] at this; exact h4 this) (Ext.refl _)
  subst h4
  have hgood : GoodK (kn : Int) word lost := ⟨by omega, by rw [HN.out]; omega, by rw [HN.out]; omega, by rw [HN.out, HM.out]⟩
  have HG := Lib.hid hgood
  obtain ⟨at_, hat⟩ : ∃ l, l = thereL lost := ⟨_, rfl⟩
  obtain ⟨N, hN⟩ : ∃ N, at_.length = N := ⟨_, rfl⟩
  have hNm : N ≤ m := by rw [← hN, hat, ← HM.out]; exact there_le lost
  have HAT := Lib.hid hat
  have HNN := Lib.hid hN
  have hmem : ∀ i ∈ at_, i < m := fun i hi => by rw [hat] at hi; have := there_mem hi; rw [HM.out] at this; exact this
  have HMEM := Lib.hid hmem
  have HND : Hid at_.Nodup := Lib.hid (by rw [hat]; exact there_nodup lost)
  have hmk := make_elems m (by omega)
  have hz := Lib.hid (zrow_size (.int .u8 0) m)
  clear hgood hat hN hmem d2 d3
  go_enter Try.func63, Try.ntmps63
  go_wp2_with fail
  refine (there_n C m cc lost _ HM.out hs (by omega)).mono ?_
  rintro e w1 ⟨v, rfl, hot, hx1⟩
  rw [← HAT.out] at hot
  obtain ⟨At, ct, rfl, hrt, hct, hmt, -⟩ := hot.slice
  rw [ints_length, HNN.out]
  have HX1 := Lib.hid hx1
  have HRT := Lib.hid hrt
  have HRW := Lib.hid (hr.ext hx1)
  clear hot hx1 hrt hct hmt hr hs
  by_cases h5 : N < kn
  · have d5 : decide ((N : Int) < (kn : Int)) = true := decide_eq_true (by omega)
    go_wp2
    go_ret3
    exact ⟨_, _, [], [], 42, rfl, .inr (.inl ⟨HG.out, by rw [← HAT.out, HNN.out]; omega, rfl, rfl, rfl⟩), Own.nil _ _ _, Own.nil _ _ _, HX1.out⟩
  have d5 : decide ((N : Int) < (kn : Int)) = false := decide_eq_false (by omega)
  have HKN : Hid ((kn : Int) ≤ ((thereL lost).length : Int)) := Lib.hid (by rw [← HAT.out, HNN.out]; omega)
  go_wp2_with fail
  refine (near_n A At m N ca ct kn word at_ _ HN.out HNN.out HRW.out HRT.out HMEM.out HND.out h3 (by omega) (by omega) (by omega)).mono ?_
  rintro e w2 ⟨hno, hx2⟩
  have HX2 := Lib.hid (HX1.out.trans hx2)
  have HRW2 := Lib.hid (HRW.out.ext hx2)
  have HRT2 := Lib.hid (HRT.out.ext hx2)
  clear hx2
  rcases hno with ⟨v, p, rfl, hnp, hpl, hop⟩ | ⟨v, rfl, hno⟩
  case inr =>
    have HNO := Lib.hid hno
    clear hno
    go_wp2
    go_ret3
    exact ⟨_, _, [], [], 50, rfl, .inr (.inr (.inl ⟨HG.out, HKN.out, fun q hq => HNO.out q (by rw [HAT.out]; exact hq), rfl, rfl, rfl⟩)), Own.nil _ _ _, Own.nil _ _ _, HX2.out⟩
  have HNP : Hid (Near kn word lost p) := Lib.hid (by show NearOK _ _ _ _; rw [← HAT.out]; exact hnp)
  clear hnp
  obtain ⟨Ap, cp, rfl, hrp, hcp, hmp⟩ := hop.bytesN rfl
  have HRP := Lib.hid hrp
  simp only [maxLen] at hmp
  clear hop hrp
  go_wp2_with fail
  have H0 := Lib.hid (And.intro ((Ext.refl w2).alloc (.cells (zrow (.int .u8 0) m) 34)) (Filling.start (colTo p m) (Blk.new w2 34 (zrow (.int .u8 0) m)) hz.out))
  go_loopw [56] (fun i wr => ∃ j : Nat, j ≤ m ∧ i = .int .i64 j ∧ Ext w2 wr ∧ Filling wr w2.heap.size m 34 (colTo p m) j) (fun i _ => m - (intOf i).toNat)
  case atStart => exact ⟨0, by omega, rfl, H0.out.1, H0.out.2⟩
  case round =>
    obtain ⟨j, hj, rfl, hx, hf⟩ := hrel
    clear H0
    by_cases hlt : j < m
    · have hof : (E.of j).val = j := E.val_of (by omega)
      have HC := Lib.hid (polyAt_lit Ap p.length cp p j (E.of j) (by rw [hof]) wr rfl (HRP.out.ext hx) (by simp only [maxLen]; omega))
      have HF := Lib.hid hf
      have HX := Lib.hid hx
      clear hx hf hof
      go_wp2_with fail
      refine HC.out.mono ?_
      rintro e w3 ⟨rfl, hx3⟩
      have hf3 := HF.out.ext hx3
      have hx23 := HX.out.trans hx3
      have f1 := hf3.frozen j
      obtain ⟨u1, hu1⟩ := hf3.some_ hlt
      have h6 := hf3.step (by rw [colTo_length]; exact hlt) hlt
      rw [colTo_get, bv] at h6
      have h7 := hx23.new (p := ⟨w2.heap.size, j, none⟩) (Nat.le_refl _) (.int .u8 ((evL p (E.of j)).val : Int))
      have HH := Lib.hid (And.intro h7 h6)
      have hel := (evL p (E.of j)).lt
      clear hf3 hx23 h6 h7 hx3 HC
      go_wp2_with fail
      go_roundw
      case rel => exact ⟨j + 1, by omega, by go_num, HH.out.1, HH.out.2⟩
      case measure => simp [intOf]; omega
    · obtain rfl : m = j := by omega
      have hout := hf.done (B := w2.heap.size) (colTo_length p m) (Nat.le_refl _) (by simp only [maxLen]; omega)
      have HOUT := Lib.hid hout
      have HX := Lib.hid hx
      obtain ⟨W3, hW3⟩ : ∃ W, W = wr := ⟨_, rfl⟩
      rw [← hW3] at HOUT HX ⊢
      clear hout hx hf hW3
      go_wp2_with fail
      go_loopw [15, 69] (fun v i wr => ∃ (j : Nat) (V : Value), V = v ∧ j ≤ N ∧ i = .int .i64 j ∧ Ext W3 wr ∧ Own wr W3.heap.size 3 V (ints (badAt p word (at_.take j)))) (fun _ i _ => N - (intOf i).toNat)
      case atStart => exact ⟨0, _, rfl, by omega, rfl, Ext.refl _, Own.nil _ _ _⟩
      case round =>
        obtain ⟨j, V, rfl, hj, rfl, hx, ho⟩ := hrel
        by_cases hlt : j < N
        · have hja : j < at_.length := by rw [HNN.out]; exact hlt
          have hx2r := HX.out.trans hx
          obtain ⟨ad, rfl, hc⟩ := (HRT2.out.ext hx2r).at_ (ints_get at_ j hja)
          have hib := HMEM.out at_[j] (List.getElem_mem hja)
          have hts := take_snoc' at_ j hja
          obtain ⟨i, hi⟩ : ∃ i, at_[j] = i := ⟨_, rfl⟩
          rw [hi] at hc hib hts
          have hiw : i < word.length := by rw [HN.out]; exact hib
          obtain ⟨bd, rfl, hc2⟩ := (HRW2.out.ext hx2r).byte hiw
          have hic : i < (colTo p m).length := by rw [colTo_length]; exact hib
          have hc3 := (HOUT.out.ext hx).cell (bs_get (colTo p m) i hic)
          rw [colTo_get] at hc3
          have hl1 := (evL p (E.of i)).lt
          have hl2 := (word[i]).lt
          have hgd : word.getD i 0 = word[i] := by simp [List.getD_eq_getElem?_getD, hiw]
          have hble := badAt_le p word (at_.take j)
          rw [List.length_take, HNN.out] at hble
          have HO := Lib.hid ho
          have HXR := Lib.hid hx
          have hid0 : (0 : Int) ≤ (i : Int) := by omega
          by_cases he : evL p (E.of i) = word[i]
          · have hb0 : (((evL p (E.of i)).val : Int) != ((word[i]).val : Int)) = false := by rw [he]; simp
            have HT := Lib.hid (show badAt p word (at_.take (j + 1)) = badAt p word (at_.take j) by rw [hts]; exact badAt_snoc_no (by rw [hgd]; exact he))
            clear hts hgd he hx2r hi ho hx
            go_wp2_with fail
            go_quiet (fail)
            have HXR2 := Lib.hid (HXR.out.drewN (w := wr) nq)
            have HO2 := Lib.hid (HO.out.drewN nq)
            clear hc hc2 hc3
            go_wp2_with fail
            go_roundw
            case rel => exact ⟨j + 1, _, rfl, by omega, by go_num, HXR2.out, by rw [HT.out]; exact HO2.out⟩
            case measure => simp [intOf]; omega
          · have hb0 : (((evL p (E.of i)).val : Int) != ((word[i]).val : Int)) = true := by
              rw [bne_iff_ne]
              intro e
              exact he (E.ext (by omega))
            have HT := Lib.hid (show badAt p word (at_.take (j + 1)) = badAt p word (at_.take j) ++ [i] by rw [hts]; exact badAt_snoc_yes (by rw [hgd]; exact he))
            clear hts hgd he hx2r hi ho hx
            go_wp2_with fail
            go_quiet (fail)
            obtain ⟨WD, hWD⟩ : ∃ W, W = wr.drewN nq := ⟨_, rfl⟩
            have HXR2 : Hid (Ext W3 WD) := Lib.hid (by rw [hWD]; exact HXR.out.drewN nq)
            have HO2 : Hid (Own WD W3.heap.size 3 V (ints (badAt p word (at_.take j)))) := Lib.hid (by rw [hWD]; exact HO.out.drewN nq)
            rw [← hWD]
            clear hc hc2 hc3 hWD
            have hle := HXR2.out.le
            have hbd : ((ints (badAt p word (at_.take j))).length + 1) * 8 ≤ 140737488355328 := by rw [ints_length]; omega
            go_wp2_with (at_builtin; refine wpList_push WD eltInt rfl _ _ (by rfl) W3.heap.size V _ (by rfl) (by exact HO2.out) (.int .i64 i) (by rfl) rfl hbd hle ?_; intro v' w' ho' _ hb' _)
            go_roundw
            case rel => exact ⟨j + 1, _, rfl, by omega, by go_num, Below.trans HXR2.out hb', by rw [HT.out, ints_snoc]; exact ho'⟩
            case measure => simp [intOf]; omega
        · obtain rfl : N = j := by omega
          have hta : at_.take N = at_ := List.take_of_length_le (by rw [HNN.out]; exact Nat.le_refl _)
          rw [hta] at ho
          have HO := Lib.hid ho
          have HXR := Lib.hid hx
          have hsz : w.heap.size ≤ w2.heap.size ∧ w2.heap.size ≤ W3.heap.size := ⟨HX2.out.le, HX.out.le⟩
          clear ho hx hta
          go_wp2
          go_ret3
          exact ⟨_, _, colTo p m, badAt p word at_, 0, rfl, .inr (.inr (.inr ⟨HG.out, HKN.out, p, HNP.out, by rw [HN.out], by rw [HAT.out], rfl⟩)), (HOUT.out.ext HXR.out).mono hsz.1, HO.out.mono (Nat.le_trans hsz.1 hsz.2), (HX2.out.trans HX.out).trans HXR.out⟩
end Go.Proofs.Ytemnlcfabaocbaa
/-
  The walks of the document's answer for chapter 5: the table of all products, inverses by it, values by it.
-/
namespace Go.Proofs.Ytemnlcfabaocbaa
open Go.RowKit Gf
set_option maxRecDepth 20000
set_option linter.unusedVariables false

theorem infoRowU8 : (Try.prog.info? 24).map (fun i => (i.zero, i.size, i.bytes)) = some (some (.slice none 0 0), 1, 24) := by kernel_rfl
theorem eltRowU8 : Elt Try.prog 77 24 (.slice none 0 0) 24 := ⟨by kernel_rfl, info_parts infoRowU8, rfl, by decide⟩
def mulRow (a : Nat) : List E := (List.range 256).map fun b => E.of a * E.of b
theorem mulRow_length (a : Nat) : (mulRow a).length = 256 := by simp [mulRow]
theorem mulRow_get (a b : Nat) (h : b < (mulRow a).length) : (mulRow a)[b] = E.of a * E.of b := by simp [mulRow]
/-- The table of all products. -/
structure Tab (w : World) (gt : Nat) : Prop where
  row : ∀ a : E, ∃ g, w.cell? ⟨gt, a.val, none⟩ = some (.slice (some ⟨g, 0, none⟩) 256 256) ∧ ∀ b : E, w.cell? ⟨g, b.val, none⟩ = some (.int .u8 ((a * b).val : Int))
theorem Tab.ext {w w' : World} {gt : Nat} (h : Tab w gt) (hx : Ext w w') : Tab w' gt := ⟨fun a => by
  obtain ⟨g, h1, h2⟩ := h.row a
  exact ⟨g, (hx.cell (World.block_lt_of_cell? _ _ h1)).trans h1, fun b => (hx.cell (World.block_lt_of_cell? _ _ (h2 b))).trans (h2 b)⟩⟩
structure Tabling (w wr : World) (k : Nat) (v : Value) : Prop where
  ext : Ext w wr
  ex : ∃ V : List Value, V.length = k ∧ Own wr w.heap.size 24 v V ∧ ∀ (a : Nat) (u : Value), V[a]? = some u → ∃ g, u = .slice (some ⟨g, 0, none⟩) 256 256 ∧ Own wr w.heap.size 5 u (bs (mulRow a))
theorem Tabling.tab {w wr : World} {g c : Nat} (h : Tabling w wr 256 (.slice (some ⟨g, 0, none⟩) 256 c)) : Tab wr g := ⟨fun a => by
  obtain ⟨V, hl, ho, hr⟩ := h.ex
  have ha : a.val < V.length := by rw [hl]; exact a.lt
  obtain ⟨r, hu, hor⟩ := hr a.val V[a.val] (List.getElem?_eq_getElem ha)
  refine ⟨r, ?_, fun b => ?_⟩
  · have := ho.cell (List.getElem?_eq_getElem ha)
    rw [hu] at this
    exact this
  · rw [hu] at hor
    have hb : b.val < (mulRow a.val).length := by rw [mulRow_length]; exact b.lt
    have := hor.cell (bs_get (mulRow a.val) b.val hb)
    rw [mulRow_get, E.of_val, E.of_val] at this
    exact this⟩
set_option maxHeartbeats 2000000 in
theorem table_n (w : World) :
    Calls Try.prog 104 #[] w fun e w' => ∃ gt ct, e = .returned (.slice (some ⟨gt, 0, none⟩) 256 ct) ∧ Tab w' gt ∧ Ext w w' := by
  have hmk : ∀ w, (Instr.makeSlice 24 (.int .i64 256) (.int .i64 256)).run Try.prog w = .ok (.slice (some ⟨w.heap.size, 0, none⟩) 256 256) (w.alloc (.cells (zrow (.int .u8 0) 256) 5)) := fun w => make_bytes 256 (by omega) w
  have hz := Lib.hid (zrow_size (.int .u8 0) 256)
  go_enter Try.func104, Try.ntmps104
  go_wp2_with fail
  go_loopw [1, 2] (fun t a wr => ∃ (k : Nat) (v : Value), v = t ∧ k ≤ 256 ∧ a = .int .i64 k ∧ Tabling w wr k v) (fun _ a _ => 256 - (intOf a).toNat)
  case atStart => exact ⟨0, _, rfl, by omega, rfl, Ext.refl _, [], rfl, Own.nil _ _ _, fun a u h => by simp at h⟩
  case round =>
    obtain ⟨W1, rfl⟩ : ∃ W, W = wr := ⟨_, rfl⟩
    obtain ⟨k, v, rfl, hk, rfl, hT⟩ := hrel
    by_cases hlt : k < 256
    · have HT := Lib.hid hT
      have hd256 : decide ((k : Int) < 256) = true := decide_eq_true (by omega)
      clear hT
      go_wp2_with fail
      have H0 := Lib.hid (And.intro ((Ext.refl W1).alloc (.cells (zrow (.int .u8 0) 256) 5)) (Filling.start (mulRow k) (Blk.new W1 5 (zrow (.int .u8 0) 256)) hz.out))
      go_loopw [4] (fun b w2 => ∃ j : Nat, j ≤ 256 ∧ b = .int .i64 j ∧ Ext W1 w2 ∧ Filling w2 W1.heap.size 256 5 (mulRow k) j) (fun b _ => 256 - (intOf b).toNat)
      case atStart => exact ⟨0, by omega, rfl, H0.out.1, H0.out.2⟩
      case round =>
        obtain ⟨j, hj, rfl, hx, hf⟩ := hrel
        clear H0
        by_cases hlt2 : j < 256
        · have f1 := hf.frozen j
          obtain ⟨u1, hu1⟩ := hf.some_ hlt2
          have h6 := hf.step (by rw [mulRow_length]; exact hlt2) hlt2
          rw [mulRow_get, bv] at h6
          have h7 := hx.new (p := ⟨W1.heap.size, j, none⟩) (Nat.le_refl _) (.int .u8 ((E.of k * E.of j).val : Int))
          have HH := Lib.hid (And.intro h7 h6)
          have HC := Lib.hid (refMul_lit k j (E.of k) (E.of j) (by rw [E.val_of hlt]) (by rw [E.val_of hlt2]) wr)
          have hel := (E.of k * E.of j).lt
          clear h6 h7 hx hf
          go_wp2_with (go_at_call 86; with_reducible refine HC.out.mono ?_; rintro e w' ⟨rfl, rfl⟩)
          go_roundw
          case rel => exact ⟨j + 1, by omega, by go_num, HH.out.1, HH.out.2⟩
          case measure => simp [intOf]; omega
        · obtain rfl : j = 256 := by omega
          have hrow := hf.done (B := W1.heap.size) (mulRow_length k) (Nat.le_refl _) (by simp only [maxLen]; omega)
          obtain ⟨V, hl, ho, hr⟩ := HT.out.ex
          have hoV := ho.ext hx
          have hle : w.heap.size ≤ wr.heap.size := (HT.out.ext.trans hx).le
          have hbd : (V.length + 1) * 24 ≤ 140737488355328 := by rw [hl]; omega
          have HALL := Lib.hid (And.intro hrow (And.intro hl (And.intro hoV (And.intro hr hx))))
          clear hrow hl ho hr hoV hx hf
          go_wp2_with (at_builtin; refine wpList_push2 wr eltRowU8 rfl _ _ (by rfl) w.heap.size v _ (by rfl) (by exact HALL.out.2.2.1) (.slice (some ⟨W1.heap.size, 0, none⟩) 256 256) wr.heap.size rfl (by rfl) rfl hbd hle ?_)
          intro v2 w2 k1 k2 k3 k4
          have HT2 : Hid (Tabling w w2 (k + 1) v2) := Lib.hid (by
            have hle1 : w.heap.size ≤ W1.heap.size := HT.out.ext.le
            have hV1 := HALL.out.2.2.1.alloc (.cells #[.slice (some ⟨W1.heap.size, 0, none⟩) 256 256] 24)
            refine ⟨(HT.out.ext.trans HALL.out.2.2.2.2).below.trans k3, V ++ [.slice (some ⟨W1.heap.size, 0, none⟩) 256 256], by rw [List.length_append, HALL.out.2.1]; rfl, k1, fun a u ha => ?_⟩
            rcases Nat.lt_or_ge a V.length with h1 | h1
            · rw [List.getElem?_append_left h1] at ha
              obtain ⟨g, hu, hog⟩ := HALL.out.2.2.2.1 a u ha
              have h2 := (hog.ext HALL.out.2.2.2.2).alloc (.cells #[.slice (some ⟨W1.heap.size, 0, none⟩) 256 256] 24)
              exact ⟨g, hu, h2.kept k2.grown (h2.types hV1 (by decide))⟩
            · rw [List.getElem?_append_right h1] at ha
              have ha0 : a - V.length = 0 := by
                rcases Nat.eq_zero_or_pos (a - V.length) with h | h
                · exact h
                · rw [List.getElem?_eq_none (by simp; omega)] at ha; cases ha
              rw [ha0] at ha
              simp at ha
              subst ha
              have hak : a = k := by have := HALL.out.2.1; omega
              rw [hak]
              have h2 := (HALL.out.1).alloc (.cells #[.slice (some ⟨W1.heap.size, 0, none⟩) 256 256] 24)
              exact ⟨_, rfl, (h2.kept k2.grown (h2.types hV1 (by decide))).mono hle1⟩)
          clear k1 k2 k3 k4 HALL hle hbd
          go_wp2_with fail
          go_roundw
          case rel => exact ⟨k + 1, v2, rfl, by omega, by go_num, HT2.out⟩
          case measure => simp [intOf]; omega
    · obtain rfl : k = 256 := by omega
      obtain ⟨V, hl, ho, hr⟩ := hT.ex
      obtain ⟨g, c, rfl⟩ := own_some ho (by omega)
      rw [hl] at hT ⊢
      have HT := Lib.hid hT
      clear hT hl ho hr
      go_wp2
      go_ret
      exact ⟨g, c, rfl, HT.out.tab, HT.out.ext⟩
theorem Tab.at_ {w : World} {gt : Nat} (h : Tab w gt) (a b : E) : ∃ g, w.cell? ⟨gt, a.val, none⟩ = some (.slice (some ⟨g, 0, none⟩) 256 256) ∧ w.cell? ⟨g, b.val, none⟩ = some (.int .u8 ((a * b).val : Int)) := by
  obtain ⟨g, h1, h2⟩ := h.row a
  exact ⟨g, h1, h2 b⟩
theorem inverse_n (gt ct : Nat) (x : E) (hx : x ≠ 0) (w : World) (ht : Tab w gt) :
    Calls Try.prog 128 #[.slice (some ⟨gt, 0, none⟩) 256 ct, .int .u8 x.val] w fun e w' => e = .returned (.int .u8 (E.inv x).val) ∧ w = w' := by
  have hf := Lib.hid (fun c => inv_found (x := x) hx c)
  have ht0 : E.inv x ≠ 0 := E.inv_ne_zero hx
  have hxl := x.lt
  clear hx
  generalize E.inv x = t at hf ht0 ⊢
  have htl := t.lt
  have ht1 : 1 ≤ t.val := by
    rcases Nat.eq_zero_or_pos t.val with h | h
    · exact absurd (E.ext h) ht0
    · exact h
  clear ht0
  obtain ⟨g, hc1, hc2⟩ := ht.row x
  have HC2 := Lib.hid hc2
  clear hc2
  go_enter Try.func128, Try.ntmps128
  go_wp2
  go_loop [5] (fun i => ∃ k : Nat, 1 ≤ k ∧ k ≤ t.val ∧ i = .int .i64 k) (fun i => 256 - (intOf i).toNat)
  case atStart => exact ⟨1, Nat.le_refl _, ht1, rfl⟩
  case round =>
    obtain ⟨k, hk1, hk, rfl⟩ := hrel
    have hk256 : k < 256 := by omega
    have hof : (E.of k).val = k := E.val_of hk256
    have hcell := HC2.out (E.of k)
    rw [hof] at hcell
    have hpl := (x * E.of k).lt
    by_cases hkt : k = t.val
    · have he : (((x * E.of k).val : Int) == 1) = true := (eqE _ 1).trans (decide_eq_true ((hf.out (E.of k)).2 (by rw [hkt, E.of_val])))
      have HKT := Lib.hid hkt
      clear hof hkt
      go_wp2
      go_ret
      exact ⟨ret_int (by rw [HKT.out]), rfl⟩
    · have he : (((x * E.of k).val : Int) == 1) = false := (eqE _ 1).trans (decide_eq_false (fun h => hkt (by have := (hf.out (E.of k)).1 h; rw [← this, hof])))
      clear hof
      go_wp2
      go_round
      case rel => exact ⟨k + 1, by omega, by omega, by go_num⟩
      case measure => simp [intOf]; omega
theorem at5_n (gt ct : Nat) (A : Option Addr) (n : Nat) (p : List E) (cap : Nat) (x : E) (w : World) (ht : Tab w gt) (hn : p.length = n) (hr : Rd w A (bs p)) (hlen : n ≤ 140737488355328) :
    Calls Try.prog 121 #[.slice (some ⟨gt, 0, none⟩) 256 ct, .slice A n cap, .int .u8 x.val] w fun e w' => e = .returned (.int .u8 (evL p x).val) ∧ w = w' := by
  have HN := Lib.hid hn
  have HT := Lib.hid ht
  clear hn ht
  have hxl := x.lt
  go_enter Try.func121, Try.ntmps121
  go_wp2_with fail
  go_loop [7, 8, 9] (fun s pw i => ∃ k : Nat, k ≤ n ∧ i = .int .i64 k ∧ s = .int .u8 (evL (p.take k) x).val ∧ pw = .int .u8 (E.pow x k).val) (fun _ _ i => n - (intOf i).toNat)
  case atStart => exact ⟨0, by omega, rfl, rfl, rfl⟩
  case round =>
    obtain ⟨k, hk, rfl, rfl, rfl⟩ := hrel
    by_cases hlt : k < n
    · have hkp : k < p.length := by have := HN.out; omega
      obtain ⟨ad, rfl, hc⟩ := hr.byte hkp
      have HE := Lib.hid (evL_take p x k hkp)
      have hpl := (E.pow x k).lt
      have hcl := (p[k]).lt
      have hb := bits_u8_xor (evL (p.take k) x) (p[k] * E.pow x k)
      obtain ⟨g1, hg1, hg2⟩ := HT.out.at_ p[k] (E.pow x k)
      obtain ⟨g3, hg3, hg4⟩ := HT.out.at_ (E.pow x k) x
      go_wp2
      go_round
      case rel => exact ⟨k + 1, by omega, by go_num, by rw [HE.out], by rw [E.pow_succ]⟩
      case measure => simp [intOf]; omega
    · obtain rfl : k = n := by omega
      have hp : p.take k = p := List.take_of_length_le (by rw [HN.out]; exact Nat.le_refl _)
      rw [hp]
      go_wp2
      go_ret
      exact ⟨rfl, rfl⟩
end Go.Proofs.Ytemnlcfabaocbaa
/-
  Elimination, plain: sums, the staircase, what each step keeps, what a kernel is.
-/
namespace Go.Proofs.Ytemnlcfabaocbaa
open Go.RowKit Gf
set_option linter.unusedVariables false

def sumN : Nat → (Nat → E) → E
  | 0, _ => 0
  | n + 1, f => sumN n f + f n
theorem sumN_zero {n : Nat} {f : Nat → E} (h : ∀ i, i < n → f i = 0) : sumN n f = 0 := by
  induction n with
  | zero => rfl
  | succ n ih => rw [sumN, ih (fun i hi => h i (by omega)), h n (by omega), E.add_zero]
theorem sumN_add (n : Nat) (f g : Nat → E) : sumN n (fun i => f i + g i) = sumN n f + sumN n g := by
  induction n with
  | zero => exact (E.add_zero _).symm
  | succ n ih => rw [sumN, sumN, sumN, ih, E.add_assoc, E.add_assoc]; congr 1; rw [E.add_left_comm]
theorem sumN_smul (n : Nat) (c : E) (f : Nat → E) : sumN n (fun i => c * f i) = c * sumN n f := by
  induction n with
  | zero => exact (E.mul_zero _).symm
  | succ n ih => rw [sumN, sumN, ih, E.mul_add]
theorem sumN_congr {n : Nat} {f g : Nat → E} (h : ∀ i, i < n → f i = g i) : sumN n f = sumN n g := by
  induction n with
  | zero => rfl
  | succ n ih => rw [sumN, sumN, ih (fun i hi => h i (by omega)), h n (by omega)]
theorem sumN_one {n a : Nat} {f : Nat → E} (ha : a < n) (h : ∀ i, i < n → i ≠ a → f i = 0) : sumN n f = f a := by
  induction n with
  | zero => omega
  | succ n ih =>
    rw [sumN]
    by_cases e : a = n
    · subst e; rw [sumN_zero (fun i hi => h i (by omega) (by omega)), E.zero_add]
    · rw [ih (by omega) (fun i hi hne => h i (by omega) hne), h n (by omega) (fun h => e h.symm), E.add_zero]
theorem sumN_two {n a b : Nat} {f : Nat → E} (ha : a < n) (hb : b < n) (hab : a ≠ b) (h : ∀ i, i < n → i ≠ a → i ≠ b → f i = 0) : sumN n f = f a + f b := by
  have h1 : sumN n f = sumN n (fun i => (if i = a then f a else 0) + (if i = b then f b else 0)) := sumN_congr fun i hi => by
    by_cases e1 : i = a
    · subst e1; rw [if_pos rfl, if_neg hab, E.add_zero]
    · by_cases e2 : i = b
      · subst e2; rw [if_neg e1, if_pos rfl, E.zero_add]
      · rw [if_neg e1, if_neg e2, E.add_zero]; exact h i hi e1 e2
  rw [h1, sumN_add, sumN_one ha (fun i _ hne => if_neg hne), sumN_one hb (fun i _ hne => if_neg hne), if_pos rfl, if_pos rfl]
/-- The equation of a row. -/
def dotN (U : Nat) (r x : Nat → E) : E := sumN U fun i => r i * x i
theorem dotN_scale (U : Nat) (c : E) (r x : Nat → E) : dotN U (fun i => c * r i) x = c * dotN U r x := by
  rw [dotN, dotN, ← sumN_smul]; exact sumN_congr fun i _ => E.mul_assoc _ _ _
theorem dotN_add (U : Nat) (r s x : Nat → E) : dotN U (fun i => r i + s i) x = dotN U r x + dotN U s x := by
  rw [dotN, dotN, dotN, ← sumN_add]; exact sumN_congr fun i _ => E.add_mul _ _ _
/-- All equations hold. -/
def Solves (m U : Nat) (M : Nat → Nat → E) (x : Nat → E) : Prop := ∀ i, i < m → dotN U (M i) x = 0
/-- The staircase, as far as it has come. -/
structure Stair (m U : Nat) (M : Nat → Nat → E) (c at_ : Nat) (place : Nat → Nat) : Prop where
  am : at_ ≤ m
  ac : at_ ≤ c
  cU : c ≤ U
  free : ∀ i, i < c → place i = 0 → ∀ r, at_ ≤ r → r < m → M r i = 0
  piv : ∀ i k, place i = k + 1 → i < c ∧ k < at_ ∧ M k i = 1 ∧ ∀ r, r < m → r ≠ k → M r i = 0
  inj : ∀ i j, place i = place j → place i ≠ 0 → i = j
  onto : ∀ k, k < at_ → ∃ i, place i = k + 1
theorem Stair.start (m U : Nat) (M : Nat → Nat → E) : Stair m U M 0 0 (fun _ => 0) :=
  ⟨Nat.zero_le _, Nat.zero_le _, Nat.zero_le _, fun i h => absurd h (by omega), fun i k h => (by cases h), fun i j _ h => absurd rfl h, fun k h => absurd h (by omega)⟩
section
variable {m U : Nat} {M M' : Nat → Nat → E} {c at_ : Nat} {place : Nat → Nat}
/-- No row from at_ on says something in the column. -/
theorem Stair.skip (h : Stair m U M c at_ place) (hc : c < U) (hz : ∀ r, at_ ≤ r → r < m → M r c = 0) : Stair m U M (c + 1) at_ place :=
  ⟨h.am, Nat.le_succ_of_le h.ac, hc, fun i hi hp r h1 h2 => by
    by_cases e : i = c
    · subst e; exact hz r h1 h2
    · exact h.free i (by omega) hp r h1 h2, fun i k hp => by
      obtain ⟨a, b⟩ := h.piv i k hp
      exact ⟨by omega, b⟩, h.inj, h.onto⟩
theorem Stair.place_zero (h : Stair m U M c at_ place) {i : Nat} (hi : c ≤ i) : place i = 0 := by
  cases e : place i with
  | zero => rfl
  | succ k => have := (h.piv i k e).1; omega
/-- A row from at_ on that says something in the column: it is brought to at_, made to begin with 1, taken from all others. -/
theorem Stair.step (h : Stair m U M c at_ place) (hc : c < U) {p : Nat} (hp1 : at_ ≤ p) (hp2 : p < m) (hnz : M p c ≠ 0)
    (hat : ∀ i, M' at_ i = E.inv (M p c) * M p i)
    (hoth : ∀ r, r < m → r ≠ at_ → ∀ i, M' r i = (if r = p then M at_ i else M r i) + (if r = p then M at_ c else M r c) * M' at_ i) :
    Stair m U M' (c + 1) (at_ + 1) (fun i => if i = c then at_ + 1 else place i) := by
  have hm : at_ < m := by omega
  have one : M' at_ c = 1 := by rw [hat, E.inv_mul hnz]
  have col : ∀ i, (∀ r, at_ ≤ r → r < m → M r i = 0) → M' at_ i = 0 ∧ ∀ r, r < m → r ≠ at_ → M' r i = M r i := fun i hz => by
    have h0 : M' at_ i = 0 := by rw [hat, hz p hp1 hp2, E.mul_zero]
    refine ⟨h0, fun r hr hne => ?_⟩
    rw [hoth r hr hne, h0, E.mul_zero, E.add_zero]
    by_cases e : r = p
    · subst e; rw [if_pos rfl, hz at_ (Nat.le_refl _) hm, hz r hp1 hr]
    · rw [if_neg e]
  refine ⟨by omega, by have := h.ac; omega, hc, ?_, ?_, ?_, ?_⟩
  · intro i hi hp r h1 h2
    try dsimp only at hp
    by_cases e : i = c
    · subst e; rw [if_pos rfl] at hp; omega
    · rw [if_neg e] at hp
      have hz := h.free i (by omega) hp
      rw [(col i hz).2 r h2 (by omega)]
      exact hz r (by omega) h2
  · intro i k hp
    try dsimp only at hp
    by_cases e : i = c
    · subst e
      rw [if_pos rfl] at hp
      obtain rfl : k = at_ := by omega
      refine ⟨by omega, by omega, one, fun r hr hne => ?_⟩
      rw [hoth r hr hne, one, E.mul_one, E.add_self]
    · rw [if_neg e] at hp
      obtain ⟨a, b, c1, d⟩ := h.piv i k hp
      have hz : ∀ r, at_ ≤ r → r < m → M r i = 0 := fun r h1 h2 => d r h2 (by omega)
      refine ⟨by omega, by omega, ?_, fun r hr hne => ?_⟩
      · rw [(col i hz).2 k (by omega) (by omega)]; exact c1
      · by_cases e2 : r = at_
        · subst e2; exact (col i hz).1
        · rw [(col i hz).2 r hr e2]; exact d r hr hne
  · intro i j hij hne
    try dsimp only at hij hne
    by_cases e1 : i = c <;> by_cases e2 : j = c
    · rw [e1, e2]
    · rw [if_pos e1, if_neg e2] at hij
      have := (h.piv j at_ hij.symm).2.1
      omega
    · rw [if_neg e1, if_pos e2] at hij
      have := (h.piv i at_ hij).2.1
      omega
    · rw [if_neg e1, if_neg e2] at hij
      rw [if_neg e1] at hne
      exact h.inj i j hij hne
  · intro k hk
    by_cases e : k = at_
    · subst e; exact ⟨c, if_pos rfl⟩
    · obtain ⟨i, hi⟩ := h.onto k (by omega)
      refine ⟨i, ?_⟩
      rw [if_neg (fun e2 => ?_)]
      · exact hi
      · subst e2
        have := (h.piv i k hi).1
        omega
/-- The step keeps the solutions. -/
theorem solves_step {p : Nat} (hat0 : at_ < m) (hp2 : p < m) (hnz : M p c ≠ 0) (hat : ∀ i, M' at_ i = E.inv (M p c) * M p i)
    (hoth : ∀ r, r < m → r ≠ at_ → ∀ i, M' r i = (if r = p then M at_ i else M r i) + (if r = p then M at_ c else M r c) * M' at_ i) (x : Nat → E) : Solves m U M' x ↔ Solves m U M x := by
  have d1 : dotN U (M' at_) x = E.inv (M p c) * dotN U (M p) x := by rw [← dotN_scale]; congr 1; exact funext hat
  have d2 : ∀ r, r < m → r ≠ at_ → dotN U (M' r) x = dotN U (if r = p then M at_ else M r) x + (if r = p then M at_ c else M r c) * dotN U (M' at_) x := fun r hr hne => by
    rw [← dotN_scale, ← dotN_add]
    congr 1
    funext i
    rw [hoth r hr hne i]
    by_cases e : r = p <;> simp [e]
  constructor
  · intro h
    have hp0 : dotN U (M p) x = 0 := by
      have := h at_ hat0
      rw [d1] at this
      rcases E.mul_eq_zero.1 this with e | e
      · exact absurd e (E.inv_ne_zero hnz)
      · exact e
    intro r hr
    by_cases e : r = p
    · subst e; exact hp0
    · by_cases e2 : r = at_
      · subst e2
        by_cases e3 : p = r
        · exact absurd e3.symm e
        · have := d2 p hp2 e3
          rw [h p hp2, if_pos rfl, if_pos rfl, h r hr, E.mul_zero, E.add_zero] at this
          exact this.symm
      · have := d2 r hr e2
        rw [h r hr, if_neg e, if_neg e, h at_ hat0, E.mul_zero, E.add_zero] at this
        exact this.symm
  · intro h r hr
    have ha : dotN U (M' at_) x = 0 := by rw [d1, h p hp2, E.mul_zero]
    by_cases e2 : r = at_
    · subst e2; exact ha
    · rw [d2 r hr e2, ha, E.mul_zero, E.add_zero]
      by_cases e : r = p
      · rw [if_pos e]; exact h at_ hat0
      · rw [if_neg e]; exact h r hr
/-- The solution of a free column. -/
def freeSol (M : Nat → Nat → E) (place : Nat → Nat) (f i : Nat) : E := if place i ≠ 0 then M (place i - 1) f else if i = f then 1 else 0
theorem Stair.solution (h : Stair m U M c at_ place) (hend : c = U ∨ at_ = m) {f : Nat} (hf : f < U) (hp : place f = 0) : Solves m U M (freeSol M place f) := by
  intro r hr
  have hff : freeSol M place f f = 1 := by rw [freeSol, if_neg (by simp [hp]), if_pos rfl]
  rcases Nat.lt_or_ge r at_ with h1 | h1
  · obtain ⟨i, hi⟩ := h.onto r h1
    obtain ⟨a, b, c1, d⟩ := h.piv i r hi
    have hif : i ≠ f := fun e => by subst e; omega
    have hcU := h.cU
    rw [dotN, sumN_two (a := i) (b := f) (by omega) hf hif ?_]
    · rw [c1, hff, E.mul_one, E.one_mul, freeSol, if_pos (by omega), hi, Nat.add_sub_cancel, E.add_self]
    · intro j hj hji hjf
      cases e : place j with
      | zero => rw [freeSol, if_neg (by simp [e]), if_neg hjf, E.mul_zero]
      | succ k =>
        have hk : k ≠ r := fun e2 => hji (h.inj j i (by omega) (by omega))
        rw [(h.piv j k e).2.2.2 r hr (fun e2 => hk e2.symm), E.zero_mul]
  · have hc : c = U := by
      rcases hend with e | e
      · exact e
      · omega
    rw [dotN, sumN_zero]
    intro j hj
    cases e : place j with
    | zero => rw [h.free j (by omega) e r h1 hr, E.zero_mul]
    | succ k =>
      have := (h.piv j k e).2.1
      rw [(h.piv j k e).2.2.2 r hr (by omega), E.zero_mul]
theorem Stair.none_ (h : Stair m U M c at_ place) (hall : ∀ i, i < U → place i ≠ 0) (x : Nat → E) (hx : Solves m U M x) : ∀ i, i < U → x i = 0 := by
  intro i hi
  obtain ⟨k, hk⟩ : ∃ k, place i = k + 1 := ⟨place i - 1, by have := hall i hi; omega⟩
  obtain ⟨a, b, c1, d⟩ := h.piv i k hk
  have hs := hx k (by have := h.am; omega)
  rw [dotN, sumN_one hi ?_] at hs
  · rwa [c1, E.one_mul] at hs
  · intro j hj hne
    obtain ⟨l, hl⟩ : ∃ l, place j = l + 1 := ⟨place j - 1, by have := hall j hj; omega⟩
    have hlk : l ≠ k := fun e => hne (h.inj j i (by omega) (by omega))
    rw [(h.piv j l hl).2.2.2 k (by have := h.am; omega) (fun e => hlk e.symm), E.zero_mul]
end
end Go.Proofs.Ytemnlcfabaocbaa
/-
  The memory of the elimination: rows that are swapped and written in their places.
-/
namespace Go.Proofs.Ytemnlcfabaocbaa
open Go.RowKit Gf
set_option linter.unusedVariables false

/-- The new ones below i, the old ones from i on. -/
def mixL (new old : List E) (i : Nat) : List E := new.take i ++ old.drop i
theorem mixL_zero (new old : List E) : mixL new old 0 = old := by simp [mixL]
theorem mixL_all {new old : List E} (h : new.length = old.length) : mixL new old old.length = new := by simp [mixL, ← h]
theorem mixL_length {new old : List E} (h : new.length = old.length) (i : Nat) : (mixL new old i).length = old.length := by simp [mixL]; omega
theorem mixL_get {new old : List E} (h : new.length = old.length) {i : Nat} (hi : i < old.length) : (mixL new old i)[i]'(by rw [mixL_length h]; exact hi) = old[i] := by
  have hl : (new.take i).length = i := by rw [List.length_take]; omega
  have : (mixL new old i)[i]? = some old[i] := by
    rw [mixL, List.getElem?_append_right (by omega), hl, Nat.sub_self, List.getElem?_drop, Nat.add_zero, List.getElem?_eq_getElem hi]
  rw [List.getElem?_eq_getElem (by rw [mixL_length h]; exact hi)] at this
  exact Option.some.inj this
theorem mixL_set {new old : List E} (h : new.length = old.length) {i : Nat} (hi : i < old.length) : (mixL new old i).set i (new[i]'(by omega)) = mixL new old (i + 1) := by
  have hl : (new.take i).length = i := by rw [List.length_take]; omega
  rw [mixL, mixL, take_snoc' new i (by omega), List.set_append_right _ _ (by omega), hl, Nat.sub_self, List.drop_eq_getElem_cons hi, List.set_cons_zero, List.append_assoc]
  rfl
theorem mixL_skip {new old : List E} (h : new.length = old.length) {i : Nat} (hi : i < old.length) (he : new[i]'(by omega) = old[i]) : mixL new old (i + 1) = mixL new old i := by
  rw [← mixL_set h hi, he]
  have h1 := mixL_length h i
  have := mixL_get h hi
  conv => lhs; rw [← this]
  exact List.set_getElem_self _
/-- A row times a number; a row and so many times another one. -/
def scaleR (c : E) (a : List E) : List E := a.map (c * ·)
def elimR (f : E) (a b : List E) : List E := List.zipWith (fun x y => x + f * y) a b
theorem scaleR_length (c : E) (a : List E) : (scaleR c a).length = a.length := List.length_map _
theorem elimR_length {f : E} {a b : List E} (h : b.length = a.length) : (elimR f a b).length = a.length := by simp [elimR, h]
theorem ser_scaleR (c : E) (a : List E) (i : Nat) : ser (scaleR c a) i = c * ser a i := by
  by_cases h : i < a.length
  · rw [ser_at _ _ (by rw [scaleR_length]; exact h), ser_at _ _ h]; simp [scaleR]
  · rw [ser_out _ _ (by rw [scaleR_length]; omega), ser_out _ _ (by omega), E.mul_zero]
theorem ser_elimR {f : E} {a b : List E} (h : b.length = a.length) (i : Nat) : ser (elimR f a b) i = ser a i + f * ser b i := by
  by_cases hi : i < a.length
  · rw [ser_at _ _ (by rw [elimR_length h]; exact hi), ser_at _ _ hi, ser_at _ _ (by omega)]; simp [elimR]
  · rw [ser_out _ _ (by rw [elimR_length h]; omega), ser_out _ _ (by omega), ser_out _ _ (by omega), E.mul_zero, E.add_zero]
theorem elimR_zero {a b : List E} (h : b.length = a.length) : elimR 0 a b = a := by
  apply List.ext_getElem
  · exact elimR_length h
  · intro i h1 h2; simp [elimR, E.zero_mul, E.add_zero]
theorem elimR_get {f : E} {a b : List E} (h : b.length = a.length) {i : Nat} (hi : i < a.length) : (elimR f a b)[i]'(by rw [elimR_length h]; exact hi) = a[i] + f * b[i] := by simp [elimR]
theorem scaleR_get {c : E} {a : List E} {i : Nat} (hi : i < a.length) : (scaleR c a)[i]'(by rw [scaleR_length]; exact hi) = c * a[i] := by simp [scaleR]

/-- The rows p and a swapped. -/
def sw (p a i : Nat) : Nat := if i = a then p else if i = p then a else i
def swapR (R : Nat → List E) (p a : Nat) : Nat → List E := fun i => R (sw p a i)
theorem sw_inj {p a i j : Nat} (h : sw p a i = sw p a j) : i = j := by unfold sw at h; split at h <;> split at h <;> (try split at h) <;> (try split at h) <;> omega

structure KSt (w0 w : World) (B G m cap U gp : Nat) (V : List Value) (R : Nat → List E) (pl : List Nat) : Prop where
  below : Below B w0 w
  own : Own w B 24 (.slice (some ⟨G, 0, none⟩) m cap) V
  rows : OwnRows w B 5 V R
  far : FarApart V
  vl : V.length = m
  len : ∀ i, i < m → (R i).length = U
  place : Own w w0.heap.size 3 (.slice (some ⟨gp, 0, none⟩) U U) (ints pl)
  pll : pl.length = U
  hB : B ≤ w0.heap.size
section
variable {w0 w : World} {B G m cap U gp : Nat} {V : List Value} {R : Nat → List E} {pl : List Nat}
theorem KSt.drewN (h : KSt w0 w B G m cap U gp V R pl) (n : Nat) : KSt w0 (w.drewN n) B G m cap U gp V R pl :=
  ⟨below_drewN h.below n, h.own.drewN n, h.rows.ext ((Ext.refl w).drewN n), h.far, h.vl, h.len, h.place.drewN n, h.pll, h.hB⟩
theorem KSt.ext (h : KSt w0 w B G m cap U gp V R pl) {w' : World} (hx : Ext w w') (hb : Below B w0 w') : KSt w0 w' B G m cap U gp V R pl :=
  ⟨hb, h.own.ext hx, h.rows.ext hx, h.far, h.vl, h.len, h.place.ext hx, h.pll, h.hB⟩
theorem KSt.at_ (h : KSt w0 w B G m cap U gp V R pl) (hU : 0 < U) {r : Nat} (hr : r < m) : ∃ g c, V[r]? = some (.slice (some ⟨g, 0, none⟩) U c) ∧ w.cell? ⟨G, r, none⟩ = some (.slice (some ⟨g, 0, none⟩) U c) := by
  have hl : r < V.length := by rw [h.vl]; exact hr
  obtain ⟨A, c, hv, -, -, -, hs⟩ := h.rows.at_ (List.getElem?_eq_getElem hl)
  rw [h.len r hr] at hv hs
  obtain ⟨g, rfl⟩ := hs hU
  have hv' : V[r]? = some (.slice (some ⟨g, 0, none⟩) U c) := by rw [List.getElem?_eq_getElem hl, hv]
  exact ⟨g, c, hv', h.own.cell hv'⟩
theorem KSt.get (h : KSt w0 w B G m cap U gp V R pl) {r g c : Nat} (hr : r < m) (hv : V[r]? = some (.slice (some ⟨g, 0, none⟩) U c)) {j : Nat} (hj : j < U) : w.cell? ⟨g, j, none⟩ = some (.int .u8 (((R r)[j]'(by rw [h.len r hr]; exact hj)).val : Int)) :=
  (h.rows.own r _ hv).cell (bs_get (R r) j (by rw [h.len r hr]; exact hj))
theorem KSt.getS (h : KSt w0 w B G m cap U gp V R pl) {r g c : Nat} (hr : r < m) (hv : V[r]? = some (.slice (some ⟨g, 0, none⟩) U c)) {j : Nat} (hj : j < U) : w.cell? ⟨g, j, none⟩ = some (.int .u8 ((ser (R r) j).val : Int)) := by
  rw [ser_at _ _ (by rw [h.len r hr]; exact hj)]; exact h.get hr hv hj
theorem KSt.frozen (h : KSt w0 w B G m cap U gp V R pl) {r g c n : Nat} (hv : V[r]? = some (.slice (some ⟨g, 0, none⟩) n c)) (j : Nat) : w.frozen? ⟨g, j, none⟩ = false := (h.rows.own r _ hv).frozen j
theorem KSt.hG (h : KSt w0 w B G m cap U gp V R pl) : B ≤ G := (h.own.blk).1
theorem KSt.hg (h : KSt w0 w B G m cap U gp V R pl) {r g c n : Nat} (hv : V[r]? = some (.slice (some ⟨g, 0, none⟩) n c)) : B ≤ g := ((h.rows.own r _ hv).lt g rfl).1
theorem KSt.set (h : KSt w0 w B G m cap U gp V R pl) {r g c n : Nat} (hr : r < m) (hv : V[r]? = some (.slice (some ⟨g, 0, none⟩) n c)) (j : Nat) (x : E) :
    KSt w0 (w.setCell ⟨g, j, none⟩ (.int .u8 (x.val : Int))) B G m cap U gp V (updR R r ((R r).set j x)) pl := by
  have hor := h.rows.own r _ hv
  refine ⟨h.below.setCell (p := ⟨g, j, none⟩) (h.hg hv) _, h.own.far (p := ⟨g, j, none⟩) ?_ _, h.rows.set h.far hv j x, h.far, h.vl, fun i hi => ?_, h.place.far (p := ⟨g, j, none⟩) ?_ _, h.pll, h.hB⟩
  · rcases hor.types h.own (by decide) with e | e
    · cases e
    · exact fun e' => e e'.symm
  · by_cases e : i = r
    · subst e; rw [updR_same, List.length_set]; exact h.len i hi
    · rw [updR_other _ _ _ e]; exact h.len i hi
  · rcases hor.types h.place (by decide) with e | e
    · cases e
    · exact fun e' => e e'.symm
theorem KSt.congr (h : KSt w0 w B G m cap U gp V R pl) {R' : Nat → List E} (e : ∀ i, i < m → R' i = R i) : KSt w0 w B G m cap U gp V R' pl :=
  ⟨h.below, h.own, ⟨fun i v hi => by rw [e i (by rw [← h.vl]; exact (List.getElem?_eq_some_iff.1 hi).1)]; exact h.rows.own i v hi⟩, h.far, h.vl, fun i hi => by rw [e i hi]; exact h.len i hi, h.place, h.pll, h.hB⟩
theorem KSt.setPlace (h : KSt w0 w B G m cap U gp V R pl) (c a : Nat) : KSt w0 (w.setCell ⟨gp, c, none⟩ (.int .i64 (a : Int))) B G m cap U gp V R (pl.set c a) := by
  have hgp : w0.heap.size ≤ gp := (h.place.lt gp rfl).1
  refine ⟨h.below.setCell (p := ⟨gp, c, none⟩) (by have := h.hB; show B ≤ gp; omega) _, h.own.far (p := ⟨gp, c, none⟩) ?_ _, ⟨fun i v hi => (h.rows.own i v hi).far (p := ⟨gp, c, none⟩) ?_ _⟩, h.far, h.vl, h.len, ?_, by rw [List.length_set]; exact h.pll, h.hB⟩
  · rcases h.place.types h.own (by decide) with e | e
    · cases e
    · exact fun e' => e e'.symm
  · rcases h.place.types (h.rows.own i v hi) (by decide) with e | e
    · cases e
    · exact fun e' => e e'.symm
  · have := h.place.set c (.int .i64 (a : Int))
    rw [ints, List.map_set]
    exact this
theorem KSt.placeAt (h : KSt w0 w B G m cap U gp V R pl) {c : Nat} (hc : c < U) : w.cell? ⟨gp, c, none⟩ = some (.int .i64 ((pl.getD c 0 : Nat) : Int)) := by
  have hl : c < pl.length := by rw [h.pll]; exact hc
  rw [List.getD_eq_getElem?_getD, List.getElem?_eq_getElem hl, Option.getD_some]
  exact h.place.cell (ints_get pl c hl)
/-- Two rows are swapped. -/
theorem KSt.swap (h : KSt w0 w B G m cap U gp V R pl) {p a : Nat} (hp : p < m) (ha : a < m) {vp va : Value} (hvp : V[p]? = some vp) (hva : V[a]? = some va) :
    ∃ V', KSt w0 ((w.setCell ⟨G, p, none⟩ va).setCell ⟨G, a, none⟩ vp) B G m cap U gp V' (swapR R p a) pl ∧ ∀ i, i < m → V'[i]? = V[sw p a i]? := by
  have hV : ∀ i, i < m → ((V.set p va).set a vp)[i]? = V[sw p a i]? := fun i hi => by
    have hl : i < V.length := by rw [h.vl]; exact hi
    unfold sw
    by_cases e1 : i = a
    · subst e1; rw [if_pos rfl, List.getElem?_set_self (by rw [List.length_set]; exact hl), hvp]
    · rw [if_neg e1, List.getElem?_set_ne (fun e => e1 e.symm)]
      by_cases e2 : i = p
      · subst e2; rw [if_pos rfl, List.getElem?_set_self hl, hva]
      · rw [if_neg e2, List.getElem?_set_ne (fun e => e2 e.symm)]
  have hlt : ∀ i, i < m → sw p a i < m := fun i hi => by unfold sw; split <;> (try split) <;> omega
  have hlen : ((V.set p va).set a vp).length = m := by rw [List.length_set, List.length_set, h.vl]
  have farG : ∀ {T : TypeId} {v : Value} {xs : List Value} {C : Nat} {W : World}, Own W C T v xs → Own W B 24 (.slice (some ⟨G, 0, none⟩) m cap) (V) → T ≠ 24 → v.ownBlock ≠ some G := fun ho hl hT e => by
    rcases ho.types hl hT with e1 | e1
    · rw [e] at e1; cases e1
    · exact e1 e
  have farG2 : ∀ {T : TypeId} {v : Value} {xs : List Value} {C : Nat}, Own w C T v xs → T ≠ 24 → Own ((w.setCell ⟨G, p, none⟩ va).setCell ⟨G, a, none⟩ vp) C T v xs := fun ho hT =>
    (ho.far (p := ⟨G, p, none⟩) (farG ho h.own hT) _).far (p := ⟨G, a, none⟩) (farG ho h.own hT) _
  refine ⟨(V.set p va).set a vp, ⟨(h.below.setCell (p := ⟨G, p, none⟩) h.hG _).setCell (p := ⟨G, a, none⟩) h.hG _, (h.own.set p va).set a vp, ⟨fun i v hi => ?_⟩, fun i j vi vj hi hj hne => ?_, hlen, fun i hi => h.len _ (hlt i hi), farG2 h.place (by decide), h.pll, h.hB⟩, hV⟩
  · have hi' : i < m := by rw [← hlen]; exact (List.getElem?_eq_some_iff.1 hi).1
    rw [hV i hi'] at hi
    exact farG2 (h.rows.own _ _ hi) (by decide)
  · have hi' : i < m := by rw [← hlen]; exact (List.getElem?_eq_some_iff.1 hi).1
    have hj' : j < m := by rw [← hlen]; exact (List.getElem?_eq_some_iff.1 hj).1
    rw [hV i hi'] at hi
    rw [hV j hj'] at hj
    exact h.far _ _ _ _ hi hj (fun e => hne (sw_inj e))
end
end Go.Proofs.Ytemnlcfabaocbaa
/-
  The walk of the document's kernel of chapter 5: elimination in place.
-/
namespace Go.Proofs.Ytemnlcfabaocbaa
open Go.RowKit Gf
set_option maxRecDepth 20000
set_option linter.unusedVariables false

/-- What kernel answers. -/
def KerOut (m U : Nat) (R : Nat → List E) (B : Nat) (e : Ending) (w' : World) : Prop :=
  (∃ g x, e = .returned (.slice (some ⟨g, 0, none⟩) U U) ∧ Own w' B 5 (.slice (some ⟨g, 0, none⟩) U U) (bs x) ∧ x.length = U ∧ (∃ i, i < U ∧ ser x i ≠ 0) ∧ Solves m U (fun i => ser (R i)) (ser x)) ∨
  (e = .returned (.slice none 0 0) ∧ ∀ x, Solves m U (fun i => ser (R i)) x → ∀ i, i < U → x i = 0)
/-- The rows behind the elimination of those below r. -/
def elimTo (R : Nat → List E) (c a r : Nat) : Nat → List E := fun j => if j < r ∧ j ≠ a then elimR (ser (R j) c) (R j) (R a) else R j
theorem elimTo_zero (R : Nat → List E) (c a : Nat) : elimTo R c a 0 = R := funext fun j => by simp [elimTo]
theorem elimTo_self (R : Nat → List E) (c a r : Nat) : elimTo R c a r a = R a := by simp [elimTo]
theorem elimTo_at (R : Nat → List E) (c a r : Nat) : elimTo R c a r r = R r := by simp [elimTo]
theorem elimTo_skip (R : Nat → List E) (c a : Nat) : elimTo R c a (a + 1) = elimTo R c a a := funext fun j => by
  unfold elimTo
  by_cases e : j = a
  · subst e; simp
  · by_cases h : j < a
    · rw [if_pos ⟨by omega, e⟩, if_pos ⟨h, e⟩]
    · rw [if_neg (by omega), if_neg (by omega)]
theorem elimTo_none (R : Nat → List E) (c a r : Nat) (hl : (R a).length = (R r).length) (h0 : ser (R r) c = 0) : elimTo R c a (r + 1) = elimTo R c a r := funext fun j => by
  unfold elimTo
  by_cases e : j = r
  · subst e
    by_cases e2 : j = a
    · simp [e2]
    · rw [if_pos ⟨by omega, e2⟩, if_neg (by omega), h0, elimR_zero hl]
  · by_cases h : j < r ∧ j ≠ a
    · rw [if_pos ⟨by omega, h.2⟩, if_pos h]
    · rw [if_neg (by omega), if_neg h]
theorem elimTo_step (R : Nat → List E) (c a r : Nat) (hne : r ≠ a) : updR (elimTo R c a r) r (elimR (ser (R r) c) (R r) (R a)) = elimTo R c a (r + 1) := funext fun j => by
  unfold updR elimTo
  by_cases e : j = r
  · subst e; rw [if_pos rfl, if_pos ⟨by omega, hne⟩]
  · rw [if_neg e]
    by_cases h : j < r ∧ j ≠ a
    · rw [if_pos h, if_pos (show j < r + 1 ∧ j ≠ a from ⟨by omega, h.2⟩)]
    · rw [if_neg h, if_neg (show ¬ (j < r + 1 ∧ j ≠ a) from fun h2 => h ⟨by omega, h2.2⟩)]
theorem updR_idem (R : Nat → List E) (i : Nat) (a b : List E) : updR (updR R i a) i b = updR R i b := funext fun j => by unfold updR; split <;> rfl
theorem updR_self (R : Nat → List E) (i : Nat) : updR R i (R i) = R := funext fun j => by unfold updR; split <;> simp_all
theorem below_ext {w1 w w' : World} {B : Nat} (hx : Ext w1 w) (hB : w1.heap.size ≤ B) (h : Below B w w') : Ext w1 w' := Below.trans hx (Below.mono h hB)
set_option maxHeartbeats 16000000 in
theorem kernel_n (gt ct G m cap U : Nat) (V0 : List Value) (R0 : Nat → List E) (B : Nat) (w1 w : World) (ht : Tab w1 gt) (hx : Ext w1 w) (hB1 : w1.heap.size ≤ B) (hB : B ≤ w.heap.size)
    (hown : Own w B 24 (.slice (some ⟨G, 0, none⟩) m cap) V0) (hrows : OwnRows w B 5 V0 R0) (hfar : FarApart V0) (hvl : V0.length = m) (hlen : ∀ i, i < m → (R0 i).length = U) (hU : 0 < U) (hU2 : U ≤ 100000) (hm : m ≤ 100000) :
    Calls Try.prog 125 #[.slice (some ⟨gt, 0, none⟩) 256 ct, .slice (some ⟨G, 0, none⟩) m cap, .int .i64 (U : Int)] w fun e w' => KerOut m U R0 w.heap.size e w' ∧ Below B w w' := by
  have hmk : ∀ w, (Instr.makeSlice 70 (.int .i64 (U : Int)) (.int .i64 (U : Int))).run Try.prog w = .ok (.slice (some ⟨w.heap.size, 0, none⟩) U U) (w.alloc (.cells (zrow (.int .i64 0) U) 3)) := fun w => run_make_elt eltInt _ _ U (by omega) w
  have hmo : Try.prog.follows Departure.mixedOrders = true := by kernel_rfl
  have hwd : Fence.wide.depth = none := rfl
  have hwf : ∀ f, Fence.wide.fn f := fun _ => trivial
  have H0 : Hid (KSt w (w.alloc (.cells (zrow (.int .i64 0) U) 3)) B G m cap U w.heap.size V0 R0 (List.replicate U 0)) := Lib.hid (by
    have hxa : Ext w (w.alloc (.cells (zrow (.int .i64 0) U) 3)) := (Ext.refl w).alloc _
    refine ⟨Below.mono hxa hB, hown.ext hxa, hrows.ext hxa, hfar, hvl, hlen, ?_, by simp, hB⟩
    have h1 := (Blk.new w 3 (zrow (.int .i64 0) U)).own (B := w.heap.size) (n := U) (cap := U) (Nat.le_refl _) (Nat.le_refl _) (by simp only [maxLen]; omega) (zrow_size _ _)
    rw [zrow_list, List.take_of_length_le (by simp)] at h1
    have e : ints (List.replicate U 0) = List.replicate U (Value.int .i64 0) := by simp [ints]
    rw [e]; exact h1)
  have HT1 := Lib.hid ht
  have HX1 := Lib.hid hx
  clear hown hrows hfar hvl hlen ht hx
  go_enter Try.func125, Try.ntmps125
  go_wp2_with fail
  go_loopw [8, 9] (fun a c wr => ∃ (at_ cN : Nat) (V : List Value) (R : Nat → List E) (pl : List Nat), a = .int .i64 at_ ∧ c = .int .i64 cN ∧ KSt w wr B G m cap U w.heap.size V R pl ∧ Stair m U (fun i => ser (R i)) cN at_ (fun i => pl.getD i 0) ∧ (∀ x, Solves m U (fun i => ser (R i)) x ↔ Solves m U (fun i => ser (R0 i)) x)) (fun _ c _ => U - (intOf c).toNat)
  case atStart =>
    refine ⟨0, 0, V0, R0, List.replicate U 0, rfl, rfl, H0.out, ?_, fun x => Iff.rfl⟩
    have := Stair.start m U (fun i => ser (R0 i))
    have e : (fun i => (List.replicate U 0).getD i 0) = fun _ : Nat => 0 := funext fun i => by
      rw [List.getD_eq_getElem?_getD, List.getElem?_replicate]; split <;> rfl
    rw [e]; exact this
  case round =>
    obtain ⟨WL, rfl⟩ : ∃ W, W = wr := ⟨_, rfl⟩
    obtain ⟨at_, cN, V, R, pl, rfl, rfl, hK, hS, hQ⟩ := hrel
    clear H0
    have ham := hS.am
    have hcU := hS.cU
    have hTab := HT1.out.ext (below_ext HX1.out hB1 hK.below)
    have HK := Lib.hid hK
    have HS := Lib.hid hS
    have HQ := Lib.hid hQ
    have HTab := Lib.hid hTab
    clear hK hS hQ hTab
    by_cases hgo : cN < U ∧ at_ < m
    · obtain ⟨hcU1, ham1⟩ := hgo
      go_wp2_with fail
      go_loop [10] (fun p => ∃ pn : Nat, at_ ≤ pn ∧ pn ≤ m ∧ p = .int .i64 pn ∧ ∀ r, at_ ≤ r → r < pn → ser (R r) cN = 0) (fun p => m - (intOf p).toNat)
      case atStart => exact ⟨at_, Nat.le_refl _, by omega, rfl, fun r h1 h2 => by omega⟩
      case round =>
        obtain ⟨pn, hp1, hp2, rfl, hz⟩ := hrel
        by_cases hpm : pn < m
        · obtain ⟨gp, cp, hvp, hcp⟩ := HK.out.at_ hU hpm
          have hel := HK.out.getS hpm hvp hcU1
          have hxl := (ser (R pn) cN).lt
          have HZ := Lib.hid hz
          have HVP := Lib.hid hvp
          clear hz hvp
          by_cases hx0 : ser (R pn) cN = 0
          · have hb0 : (((ser (R pn) cN).val : Int) == 0) = true := (eqE _ 0).trans (decide_eq_true hx0)
            have HX0 := Lib.hid hx0
            clear hx0
            go_wp2_with fail
            go_round
            case rel => exact ⟨pn + 1, by omega, by omega, by go_num, fun r h1 h2 => by
              rcases Nat.lt_or_ge r pn with h | h
              · exact HZ.out r h1 h
              · obtain rfl : r = pn := by omega
                exact HX0.out⟩
            case measure => simp [intOf]; omega
          · have hb0 : (((ser (R pn) cN).val : Int) == 0) = false := (eqE _ 0).trans (decide_eq_false hx0)
            obtain ⟨ga, ca, hva, hca⟩ := HK.out.at_ hU ham1
            obtain ⟨V1, hK1, hV1⟩ := HK.out.swap hpm ham1 HVP.out hva
            obtain ⟨W2, hW2⟩ : ∃ W, W = ((WL.setCell ⟨G, pn, none⟩ (.slice (some ⟨ga, 0, none⟩) U ca)).setCell ⟨G, at_, none⟩ (.slice (some ⟨gp, 0, none⟩) U cp)) := ⟨_, rfl⟩
            have f1 : WL.frozen? ⟨G, pn, none⟩ = false := HK.out.own.frozen pn
            have hmid : Own (WL.setCell ⟨G, pn, none⟩ (.slice (some ⟨ga, 0, none⟩) U ca)) B 24 (.slice (some ⟨G, 0, none⟩) m cap) (V.set pn (.slice (some ⟨ga, 0, none⟩) U ca)) := HK.out.own.set pn _
            have f2 := hmid.frozen at_
            have hlm : at_ < (V.set pn (.slice (some ⟨ga, 0, none⟩) U ca)).length := by rw [List.length_set, HK.out.vl]; exact ham1
            have c2 := hmid.cell (List.getElem?_eq_getElem hlm)
            rw [← hW2] at hK1
            have hat1 : V1[at_]? = some (.slice (some ⟨gp, 0, none⟩) U cp) := by rw [hV1 at_ ham1, sw, if_pos rfl]; exact HVP.out
            have e1 : W2.cell? ⟨G, at_, none⟩ = some (.slice (some ⟨gp, 0, none⟩) U cp) := hK1.own.cell hat1
            have hR1 : swapR R pn at_ at_ = R pn := by rw [swapR, sw, if_pos rfl]
            have e2 : W2.cell? ⟨gp, cN, none⟩ = some (.int .u8 ((ser (R pn) cN).val : Int)) := by have := hK1.getS ham1 hat1 hcU1; rwa [hR1] at this
            rw [hW2] at e1 e2
            have HTab2 := Lib.hid (HT1.out.ext (below_ext HX1.out hB1 hK1.below))
            have HK1 := Lib.hid hK1
            have HX0 := Lib.hid hx0
            have HAT1 := Lib.hid hat1
            have HR1 := Lib.hid hR1
            clear hx0 hva hK1 hV1 hmid hat1 hR1
            go_wp2_with fail
            rw [← hW2]
            clear hW2 e1 e2 f1 f2 c2 hlm hca hcp hel
            refine (inverse_n gt ct (ser (R pn) cN) HX0.out W2 HTab2.out).mono ?_
            rintro e w' ⟨rfl, rfl⟩
            obtain ⟨iv, hiv⟩ : ∃ iv, iv = E.inv (ser (R pn) cN) := ⟨_, rfl⟩
            have HIV := Lib.hid hiv
            rw [← hiv]
            clear hiv
            have hivl := iv.lt
            obtain ⟨R1, hR1⟩ : ∃ R', R' = swapR R pn at_ := ⟨_, rfl⟩
            rw [← hR1] at HK1 HR1
            have HR1E := Lib.hid hR1
            clear hR1
            have hl1 : (R1 at_).length = U := HK1.out.len at_ ham1
            have hsl : (scaleR iv (R1 at_)).length = (R1 at_).length := scaleR_length _ _
            have HL1 := Lib.hid hl1
            have HSL := Lib.hid hsl
            have HK2 : Hid (KSt w W2 B G m cap U w.heap.size V1 (updR R1 at_ (mixL (scaleR iv (R1 at_)) (R1 at_) 0)) pl) := Lib.hid (by rw [mixL_zero, updR_self]; exact HK1.out)
            clear hl1 hsl
            go_wp2_with fail
            go_loopw [13] (fun i wr => ∃ iN : Nat, iN ≤ U ∧ i = .int .i64 iN ∧ KSt w wr B G m cap U w.heap.size V1 (updR R1 at_ (mixL (scaleR iv (R1 at_)) (R1 at_) iN)) pl) (fun i _ => U - (intOf i).toNat)
            case atStart => exact ⟨0, by omega, rfl, HK2.out⟩
            case round =>
              obtain ⟨W3, rfl⟩ : ∃ W, W = wr := ⟨_, rfl⟩
              obtain ⟨iN, hi, rfl, hK3⟩ := hrel
              clear HK2
              by_cases hlt : iN < U
              · have e1 : W3.cell? ⟨G, at_, none⟩ = some (.slice (some ⟨gp, 0, none⟩) U cp) := hK3.own.cell HAT1.out
                have hil : iN < (R1 at_).length := by rw [HL1.out]; exact hlt
                have hml : iN < (mixL (scaleR iv (R1 at_)) (R1 at_) iN).length := by rw [mixL_length HSL.out]; exact hil
                have e2 : W3.cell? ⟨gp, iN, none⟩ = some (.int .u8 (((R1 at_)[iN]).val : Int)) := by
                  have h1 := (hK3.rows.own at_ _ HAT1.out).cell (bs_get _ iN (by rw [updR_same]; exact hml))
                  have h2 : (updR R1 at_ (mixL (scaleR iv (R1 at_)) (R1 at_) iN) at_)[iN]'(by rw [updR_same]; exact hml) = (R1 at_)[iN] := by
                    have := mixL_get HSL.out hil
                    simp only [updR_same]
                    exact this
                  rw [h2] at h1
                  exact h1
                obtain ⟨gi, g1, g2⟩ := (HT1.out.ext (below_ext HX1.out hB1 hK3.below)).at_ iv (R1 at_)[iN]
                have hyl := ((R1 at_)[iN]).lt
                have hzl := (iv * (R1 at_)[iN]).lt
                have HK3 := Lib.hid hK3
                clear hK3
                go_wp2_with fail
                refine region_store_plain hmo (by kernel_rfl) (by kernel_rfl) (by kernel_rfl) ?_
                dsimp only [muted, mute, List.dropLast]
                repeat (gi_big_quiet_step (fail))
                refine wpQuietIn_nil ?_
                rintro _ ⟨nq, rfl⟩ s hs'
                simp only [List.getLast?_cons_cons, List.getLast?_singleton, Option.some.injEq] at hs'
                subst hs'
                clear e1 e2 g1 g2
                obtain ⟨W4, hW4⟩ : ∃ W, W = W3.drewN nq := ⟨_, rfl⟩
                have hK4 : KSt w W4 B G m cap U w.heap.size V1 (updR R1 at_ (mixL (scaleR iv (R1 at_)) (R1 at_) iN)) pl := by rw [hW4]; exact HK3.out.drewN nq
                rw [← hW4]
                clear hW4
                have f4 := hK4.frozen HAT1.out iN
                have e4 := (hK4.rows.own at_ _ HAT1.out).cell (bs_get _ iN (by rw [updR_same]; exact hml))
                have hK5 := hK4.set ham1 HAT1.out iN (iv * (R1 at_)[iN])
                rw [updR_same, updR_idem] at hK5
                have hst : (mixL (scaleR iv (R1 at_)) (R1 at_) iN).set iN (iv * (R1 at_)[iN]) = mixL (scaleR iv (R1 at_)) (R1 at_) (iN + 1) := by
                  have := mixL_set HSL.out hil
                  rwa [scaleR_get hil] at this
                rw [hst] at hK5
                have HK5 := Lib.hid hK5
                clear hK4 hK5 hst
                go_simp
                go_wp2_with fail
                go_roundw
                case rel => exact ⟨iN + 1, by omega, by go_num, HK5.out⟩
                case measure => simp [intOf]; omega
              · obtain rfl : U = iN := by omega
                have e : mixL (scaleR iv (R1 at_)) (R1 at_) U = scaleR iv (R1 at_) := by have := mixL_all HSL.out; rwa [HL1.out] at this
                rw [e] at hK3
                obtain ⟨R2, hR2⟩ : ∃ R', R' = updR R1 at_ (scaleR iv (R1 at_)) := ⟨_, rfl⟩
                rw [← hR2] at hK3
                have HR2 := Lib.hid hR2
                have HK4 : Hid (KSt w W3 B G m cap U w.heap.size V1 (elimTo R2 cN at_ 0) pl) := Lib.hid (by rw [elimTo_zero]; exact hK3)
                have HL2 : Hid (∀ i, i < m → (R2 i).length = U) := Lib.hid hK3.len
                clear e hK3 hR2
                go_wp2_with fail
                go_loopw [14] (fun r wr => ∃ rN : Nat, rN ≤ m ∧ r = .int .i64 rN ∧ KSt w wr B G m cap U w.heap.size V1 (elimTo R2 cN at_ rN) pl) (fun r _ => m - (intOf r).toNat)
                case atStart => exact ⟨0, by omega, rfl, HK4.out⟩
                case round =>
                  obtain ⟨W5, rfl⟩ : ∃ W, W = wr := ⟨_, rfl⟩
                  obtain ⟨rN, hr, rfl, hK5⟩ := hrel
                  clear HK4
                  by_cases hlt : rN < m
                  · obtain ⟨gr, cr, hvr, e1⟩ := hK5.at_ hU hlt
                    have e2 := hK5.getS hlt hvr hcU1
                    rw [elimTo_at] at e2
                    obtain ⟨fv, hfv⟩ : ∃ f, f = ser (R2 rN) cN := ⟨_, rfl⟩
                    rw [← hfv] at e2
                    have hfl := fv.lt
                    have HFV := Lib.hid hfv
                    have HVR := Lib.hid hvr
                    have HK5 := Lib.hid hK5
                    clear hfv hvr hK5
                    by_cases hra : at_ = rN
                    · subst hra
                      have HK6 : Hid (KSt w W5 B G m cap U w.heap.size V1 (elimTo R2 cN at_ (at_ + 1)) pl) := Lib.hid (by rw [elimTo_skip]; exact HK5.out)
                      go_wp2_with fail
                      go_roundw
                      case rel => exact ⟨at_ + 1, by omega, by go_num, HK6.out⟩
                      case measure => simp [intOf]; omega
                    · have hn1 : ((rN : Int) == (at_ : Int)) = false := by rw [beq_eq_false_iff_ne]; omega
                      have hn2 : (rN == at_) = false := by rw [beq_eq_false_iff_ne]; omega
                      have HRA := Lib.hid hra
                      clear hra
                      by_cases hf0 : fv = 0
                      · have hb1 : ((fv.val : Int) == 0) = true := (eqE _ 0).trans (decide_eq_true hf0)
                        have HK6 : Hid (KSt w W5 B G m cap U w.heap.size V1 (elimTo R2 cN at_ (rN + 1)) pl) := Lib.hid (by
                          rw [elimTo_none R2 cN at_ rN (by rw [HL2.out at_ ham1, HL2.out rN hlt]) (by rw [← HFV.out]; exact hf0)]; exact HK5.out)
                        clear hf0
                        go_wp2_with fail
                        go_roundw
                        case rel => exact ⟨rN + 1, by omega, by go_num, HK6.out⟩
                        case measure => simp [intOf]; omega
                      · have hb1 : ((fv.val : Int) == 0) = false := (eqE _ 0).trans (decide_eq_false hf0)
                        have HEL : Hid ((elimR fv (R2 rN) (R2 at_)).length = (R2 rN).length) := Lib.hid (elimR_length (by rw [HL2.out at_ ham1, HL2.out rN hlt]))
                        have HK6 : Hid (KSt w W5 B G m cap U w.heap.size V1 (updR (elimTo R2 cN at_ rN) rN (mixL (elimR fv (R2 rN) (R2 at_)) (R2 rN) 0)) pl) := Lib.hid (by
                          have h1 := updR_self (elimTo R2 cN at_ rN) rN
                          rw [elimTo_at] at h1
                          rw [mixL_zero, h1]; exact HK5.out)
                        clear hf0
                        go_wp2_with fail
                        go_loopw [16] (fun i wr => ∃ iN : Nat, iN ≤ U ∧ i = .int .i64 iN ∧ KSt w wr B G m cap U w.heap.size V1 (updR (elimTo R2 cN at_ rN) rN (mixL (elimR fv (R2 rN) (R2 at_)) (R2 rN) iN)) pl) (fun i _ => U - (intOf i).toNat)
                        case atStart => exact ⟨0, by omega, rfl, HK6.out⟩
                        case round =>
                          obtain ⟨W6, rfl⟩ : ∃ W, W = wr := ⟨_, rfl⟩
                          obtain ⟨iN, hi, rfl, hK7⟩ := hrel
                          clear HK6
                          by_cases hlt3 : iN < U
                          · have hil : iN < (R2 rN).length := by rw [HL2.out rN hlt]; exact hlt3
                            have hal : iN < (R2 at_).length := by rw [HL2.out at_ ham1]; exact hlt3
                            have hml : iN < (mixL (elimR fv (R2 rN) (R2 at_)) (R2 rN) iN).length := by rw [mixL_length HEL.out]; exact hil
                            have d1 : W6.cell? ⟨G, rN, none⟩ = some (.slice (some ⟨gr, 0, none⟩) U cr) := hK7.own.cell HVR.out
                            have d2 : W6.cell? ⟨gr, iN, none⟩ = some (.int .u8 (((R2 rN)[iN]).val : Int)) := by
                              have h1 := (hK7.rows.own rN _ HVR.out).cell (bs_get _ iN (by rw [updR_same]; exact hml))
                              have h2 : (updR (elimTo R2 cN at_ rN) rN (mixL (elimR fv (R2 rN) (R2 at_)) (R2 rN) iN) rN)[iN]'(by rw [updR_same]; exact hml) = (R2 rN)[iN] := by
                                have := mixL_get HEL.out hil
                                simp only [updR_same]
                                exact this
                              rw [h2] at h1
                              exact h1
                            have d3 : W6.cell? ⟨G, at_, none⟩ = some (.slice (some ⟨gp, 0, none⟩) U cp) := hK7.own.cell HAT1.out
                            have ha2 : updR (elimTo R2 cN at_ rN) rN (mixL (elimR fv (R2 rN) (R2 at_)) (R2 rN) iN) at_ = R2 at_ := by rw [updR_other _ _ _ HRA.out, elimTo_self]
                            have d4 : W6.cell? ⟨gp, iN, none⟩ = some (.int .u8 (((R2 at_)[iN]).val : Int)) := by
                              have h1 := (hK7.rows.own at_ _ HAT1.out)
                              rw [ha2] at h1
                              exact h1.cell (bs_get _ iN hal)
                            obtain ⟨gi, g1, g2⟩ := (HT1.out.ext (below_ext HX1.out hB1 hK7.below)).at_ fv (R2 at_)[iN]
                            have hyl := ((R2 rN)[iN]).lt
                            have hwl := ((R2 at_)[iN]).lt
                            have hzl := (fv * (R2 at_)[iN]).lt
                            have hxo := bits_u8_xor (R2 rN)[iN] (fv * (R2 at_)[iN])
                            have HK7 := Lib.hid hK7
                            clear hK7 ha2
                            go_wp2_with fail
                            refine region_store_plain hmo (by kernel_rfl) (by kernel_rfl) (by kernel_rfl) ?_
                            dsimp only [muted, mute, List.dropLast]
                            repeat (gi_big_quiet_step (fail))
                            refine wpQuietIn_nil ?_
                            rintro _ ⟨nq, rfl⟩ s hs'
                            simp only [List.getLast?_cons_cons, List.getLast?_singleton, Option.some.injEq] at hs'
                            subst hs'
                            clear d1 d2 d3 d4 g1 g2 hxo
                            obtain ⟨W7, hW7⟩ : ∃ W, W = W6.drewN nq := ⟨_, rfl⟩
                            have hK8 : KSt w W7 B G m cap U w.heap.size V1 (updR (elimTo R2 cN at_ rN) rN (mixL (elimR fv (R2 rN) (R2 at_)) (R2 rN) iN)) pl := by rw [hW7]; exact HK7.out.drewN nq
                            rw [← hW7]
                            clear hW7
                            have f4 := hK8.frozen HVR.out iN
                            have e4 := (hK8.rows.own rN _ HVR.out).cell (bs_get _ iN (by rw [updR_same]; exact hml))
                            have hK9 := hK8.set hlt HVR.out iN ((R2 rN)[iN] + fv * (R2 at_)[iN])
                            rw [updR_same, updR_idem] at hK9
                            have hst : (mixL (elimR fv (R2 rN) (R2 at_)) (R2 rN) iN).set iN ((R2 rN)[iN] + fv * (R2 at_)[iN]) = mixL (elimR fv (R2 rN) (R2 at_)) (R2 rN) (iN + 1) := by
                              have := mixL_set HEL.out hil
                              rwa [elimR_get (by rw [HL2.out at_ ham1, HL2.out rN hlt]) hil] at this
                            rw [hst] at hK9
                            have HK9 := Lib.hid hK9
                            clear hK8 hK9 hst
                            go_simp
                            go_wp2_with fail
                            go_roundw
                            case rel => exact ⟨iN + 1, by omega, by go_num, HK9.out⟩
                            case measure => simp [intOf]; omega
                          · obtain rfl : U = iN := by omega
                            have e : mixL (elimR fv (R2 rN) (R2 at_)) (R2 rN) U = elimR fv (R2 rN) (R2 at_) := by have := mixL_all HEL.out; rwa [HL2.out rN hlt] at this
                            rw [e, HFV.out, elimTo_step R2 cN at_ rN (fun h => HRA.out h.symm)] at hK7
                            have HK9 := Lib.hid hK7
                            clear hK7 e
                            go_wp2_with fail
                            go_roundw
                            case rel => exact ⟨rN + 1, by omega, by go_num, HK9.out⟩
                            case measure => simp [intOf]; omega
                  · obtain rfl : m = rN := by omega
                    obtain ⟨R3, hR3⟩ : ∃ R', R' = elimTo R2 cN at_ m := ⟨_, rfl⟩
                    rw [← hR3] at hK5
                    have hat3 : ∀ i, ser (R3 at_) i = E.inv (ser (R pn) cN) * ser (R pn) i := fun i => by
                      rw [hR3, elimTo_self, HR2.out, updR_same, ser_scaleR, HIV.out, HR1.out]
                    have hoth3 : ∀ r, r < m → r ≠ at_ → ∀ i, ser (R3 r) i = (if r = pn then ser (R at_) i else ser (R r) i) + (if r = pn then ser (R at_) cN else ser (R r) cN) * ser (R3 at_) i := fun r hr hne i => by
                      have h1 : R2 r = if r = pn then R at_ else R r := by
                        rw [HR2.out, updR_other _ _ _ hne, HR1E.out, swapR, sw, if_neg hne]
                        split <;> rfl
                      have h2 : R3 at_ = R2 at_ := by rw [hR3, elimTo_self]
                      have h3 : R3 r = elimR (ser (R2 r) cN) (R2 r) (R2 at_) := by rw [hR3]; unfold elimTo; rw [if_pos ⟨hr, hne⟩]
                      rw [h3, h2, ser_elimR (by rw [HL2.out at_ ham1, HL2.out r hr]), h1]
                      by_cases e : r = pn
                      · rw [if_pos e, if_pos e, if_pos e]
                      · rw [if_neg e, if_neg e, if_neg e]
                    have hS2 := HS.out.step hcU1 hp1 hpm HX0.out (M' := fun i => ser (R3 i)) hat3 hoth3
                    have hQ2 : ∀ x, Solves m U (fun i => ser (R3 i)) x ↔ Solves m U (fun i => ser (R0 i)) x := fun x => (solves_step (M := fun i => ser (R i)) ham1 hpm HX0.out hat3 hoth3 x).trans (HQ.out x)
                    have hpl := hK5.pll
                    have hpf : (fun i => (pl.set cN (at_ + 1)).getD i 0) = fun i => if i = cN then at_ + 1 else pl.getD i 0 := funext fun i => by
                      by_cases e : i = cN
                      · subst e; rw [if_pos rfl, List.getD_eq_getElem?_getD, List.getElem?_set_self (by omega)]; rfl
                      · rw [if_neg e, List.getD_eq_getElem?_getD, List.getElem?_set_ne (fun h => e h.symm), List.getD_eq_getElem?_getD]
                    rw [← hpf] at hS2
                    have hK6 := hK5.setPlace cN (at_ + 1)
                    have f5 := hK5.place.frozen cN
                    have c5 := hK5.placeAt hcU1
                    have hco : (((at_ + 1 : Nat) : Int)) = (at_ : Int) + 1 := by omega
                    rw [hco] at hK6
                    have HH := Lib.hid (And.intro hK6 (And.intro hS2 hQ2))
                    clear hK5 hK6 hS2 hQ2 hpl hpf hat3 hoth3 hco hR3
                    go_wp2_with fail
                    go_roundw
                    case rel => exact ⟨at_ + 1, cN + 1, V1, R3, pl.set cN (at_ + 1), by go_num, by go_num, HH.out.1, HH.out.2.1, HH.out.2.2⟩
                    case measure => simp [intOf]; omega
        · obtain rfl : m = pn := by omega
          have HS2 := Lib.hid (HS.out.skip hcU1 hz)
          clear hz
          go_wp2_with fail
          go_roundw
          case rel => exact ⟨at_, cN + 1, V, R, pl, rfl, by go_num, HK.out, HS2.out, HQ.out⟩
          case measure => simp [intOf]; omega
    · have HEND : Hid (cN = U ∨ at_ = m) := Lib.hid (by omega)
      have hmkU := make_bytes U (by omega)
      have hzU := Lib.hid (zrow_size (.int .u8 0) U)
      rcases (show (cN = U ∧ ¬ (cN < U)) ∨ (cN < U ∧ ¬ (at_ < m)) by omega) with ⟨_, hex⟩ | ⟨hex0, hex⟩
      all_goals
        clear hgo
        go_wp2_with fail
        go_loop [17] (fun c => ∃ fN : Nat, fN ≤ U ∧ c = .int .i64 fN ∧ ∀ i, i < fN → pl.getD i 0 ≠ 0) (fun c => U - (intOf c).toNat)
        case atStart => exact ⟨0, by omega, rfl, fun i h => absurd h (by omega)⟩
        case round =>
          obtain ⟨fN, hf, rfl, hall⟩ := hrel
          by_cases hlt : fN < U
          · have c1 := HK.out.placeAt hlt
            by_cases hq : pl.getD fN 0 = 0
            · rw [hq] at c1
              have HQ0 := Lib.hid hq
              obtain ⟨FL, hFL⟩ : ∃ l, l = ofS U (freeSol (fun i => ser (R i)) (fun i => pl.getD i 0) fN) := ⟨_, rfl⟩
              obtain ⟨UL, hUL⟩ : ∃ l : List E, l = ofS U (fun j => if j = fN then 1 else 0) := ⟨_, rfl⟩
              have hfl : FL.length = U := by rw [hFL, ofS_length]
              have hul : UL.length = U := by rw [hUL, ofS_length]
              have hfu : FL.length = UL.length := by rw [hfl, hul]
              obtain ⟨WX, hWX⟩ : ∃ W, W = WL.alloc (.cells ((zrow (.int .u8 0) U).setIfInBounds fN (.int .u8 1)) 5) := ⟨_, rfl⟩
              have hbx2 : Ext WL WX := by rw [hWX]; exact (Ext.refl WL).alloc _
              have hk2 : KSt w WX B G m cap U w.heap.size V R pl := HK.out.ext hbx2 (Below.trans HK.out.below (Below.mono hbx2 (Nat.le_trans HK.out.hB HK.out.below.size)))
              have hblk := Blk.new WL 5 (zrow (.int .u8 0) U)
              have fz := hblk.frozen fN
              have cz : (WL.alloc (.cells (zrow (.int .u8 0) U) 5)).cell? ⟨WL.heap.size, fN, none⟩ = some (.int .u8 0) := by rw [hblk.cell fN]; exact zrow_get _ _ _ hlt
              have hox : Own WX WL.heap.size 5 (.slice (some ⟨WL.heap.size, 0, none⟩) U U) (bs UL) := by
                have h1 := (Blk.new WL 5 ((zrow (.int .u8 0) U).setIfInBounds fN (.int .u8 1))).own (B := WL.heap.size) (n := U) (cap := U) (Nat.le_refl _) (Nat.le_refl _) (by simp only [maxLen]; omega) (by rw [Array.size_setIfInBounds]; exact hzU.out)
                rw [Array.toList_setIfInBounds, zrow_list, List.take_of_length_le (by simp)] at h1
                have e : (List.replicate U (Value.int .u8 0)).set fN (.int .u8 1) = bs UL := by
                  rw [hUL]
                  apply List.ext_getElem?
                  intro j
                  rw [bs, List.getElem?_map]
                  by_cases hj : j < U
                  · rw [List.getElem?_eq_getElem (show j < (ofS U (fun j => if j = fN then (1 : E) else 0)).length by rw [ofS_length]; exact hj), ofS_getElem]
                    by_cases hjf : j = fN
                    · subst hjf; rw [List.getElem?_set_self (by simpa using hj)]; simp [bv]; rfl
                    · rw [List.getElem?_set_ne (fun h => hjf h.symm), List.getElem?_replicate, if_pos hj, if_neg hjf]; simp [bv]; rfl
                  · rw [List.getElem?_eq_none (by simp; omega), List.getElem?_eq_none (by rw [ofS_length]; omega)]; rfl
                rw [e] at h1
                rw [hWX]; exact h1
              have HX0 : Hid (KSt w WX B G m cap U w.heap.size V R pl ∧ Own WX WL.heap.size 5 (.slice (some ⟨WL.heap.size, 0, none⟩) U U) (bs (mixL FL UL 0))) := Lib.hid ⟨hk2, by rw [mixL_zero]; exact hox⟩
              have HFL := Lib.hid hFL
              have HUL := Lib.hid hUL
              have HFU := Lib.hid hfu
              have HUU := Lib.hid hul
              clear hq hFL hUL hfl hul hfu hbx2 hk2 hblk hox hall
              go_wp2_with fail
              rw [← hWX]
              clear hWX fz cz c1
              go_loopw [19] (fun i wr => ∃ iN : Nat, iN ≤ U ∧ i = .int .i64 iN ∧ KSt w wr B G m cap U w.heap.size V R pl ∧ Own wr WL.heap.size 5 (.slice (some ⟨WL.heap.size, 0, none⟩) U U) (bs (mixL FL UL iN))) (fun i _ => U - (intOf i).toNat)
              case atStart => exact ⟨0, by omega, rfl, HX0.out.1, HX0.out.2⟩
              case round =>
                obtain ⟨iN, hi, rfl, hK7, hO7⟩ := hrel
                clear HX0
                by_cases hlt2 : iN < U
                · have c2 := hK7.placeAt hlt2
                  have hiu : iN < UL.length := by rw [HUU.out]; exact hlt2
                  have hif : iN < FL.length := by rw [HFU.out]; exact hiu
                  have hfi : FL[iN] = freeSol (fun i => ser (R i)) (fun i => pl.getD i 0) fN iN := by
                    have : ser FL iN = freeSol (fun i => ser (R i)) (fun i => pl.getD i 0) fN iN := by rw [HFL.out, ser_ofS_lt _ _ _ hlt2]
                    rwa [ser_at _ _ hif] at this
                  have hui : UL[iN] = if iN = fN then 1 else 0 := by
                    have : ser UL iN = if iN = fN then 1 else 0 := by rw [HUL.out, ser_ofS_lt _ _ _ hlt2]
                    rwa [ser_at _ _ hiu] at this
                  by_cases hq2 : pl.getD iN 0 = 0
                  · rw [hq2] at c2
                    have hsk : mixL FL UL (iN + 1) = mixL FL UL iN := mixL_skip HFU.out hiu (by rw [hfi, hui, freeSol, if_neg (by simpa using hq2)])
                    have HH := Lib.hid (And.intro hK7 hO7)
                    have HSK := Lib.hid hsk
                    clear hq2 hsk hfi hui hK7 hO7
                    go_wp2_with fail
                    go_roundw
                    case rel => exact ⟨iN + 1, by omega, by go_num, HH.out.1, by rw [HSK.out]; exact HH.out.2⟩
                    case measure => simp [intOf]; omega
                  · obtain ⟨kN, hk⟩ : ∃ k, pl.getD iN 0 = k + 1 := ⟨pl.getD iN 0 - 1, by omega⟩
                    have hkat := (HS.out.piv iN kN hk).2.1
                    have hkm : kN < m := by omega
                    rw [hk] at c2
                    have hc2e : (((kN + 1 : Nat) : Int)) = (kN : Int) + 1 := by omega
                    rw [hc2e] at c2
                    obtain ⟨gk, ck, hvk, c3⟩ := hK7.at_ hU hkm
                    have c4 := hK7.getS hkm hvk hlt
                    have hvl := (ser (R kN) fN).lt
                    have hmi : (mixL FL UL iN).set iN (ser (R kN) fN) = mixL FL UL (iN + 1) := by
                      have := mixL_set HFU.out hiu
                      rw [hfi, freeSol, if_pos (by simpa using hq2)] at this
                      rw [hk, Nat.add_sub_cancel] at this
                      exact this
                    have f6 := hO7.frozen iN
                    have c6 := hO7.cell (bs_get (mixL FL UL iN) iN (by rw [mixL_length HFU.out]; exact hiu))
                    have hO8 := hO7.set iN (.int .u8 ((ser (R kN) fN).val : Int))
                    have e8 : (bs (mixL FL UL iN)).set iN (.int .u8 ((ser (R kN) fN).val : Int)) = bs (mixL FL UL (iN + 1)) := by
                      rw [← hmi, bs, bs, List.map_set]; rfl
                    rw [e8] at hO8
                    have hxs : WL.heap.size ≤ WL.heap.size := Nat.le_refl _
                    have hBW : B ≤ WL.heap.size := Nat.le_trans HK.out.hB HK.out.below.size
                    have hK8 : KSt w (wr.setCell ⟨WL.heap.size, iN, none⟩ (.int .u8 ((ser (R kN) fN).val : Int))) B G m cap U w.heap.size V R pl := by
                      have hgl : ∀ {T : TypeId} {v : Value} {xs : List Value} {C : Nat}, Own WL C T v xs → v.ownBlock ≠ some WL.heap.size := fun ho e => by
                        have := (ho.lt _ e).2; omega
                      have fr : ∀ {T : TypeId} {v : Value} {xs : List Value} {C : Nat}, Own wr C T v xs → v.ownBlock ≠ some WL.heap.size → Own (wr.setCell ⟨WL.heap.size, iN, none⟩ (.int .u8 ((ser (R kN) fN).val : Int))) C T v xs := fun ho hne => ho.far (p := ⟨WL.heap.size, iN, none⟩) hne _
                      exact ⟨hK7.below.setCell (p := ⟨WL.heap.size, iN, none⟩) hBW _, fr hK7.own (hgl HK.out.own), ⟨fun i v hv => fr (hK7.rows.own i v hv) (hgl (HK.out.rows.own i v hv))⟩, hK7.far, hK7.vl, hK7.len, fr hK7.place (hgl HK.out.place), hK7.pll, hK7.hB⟩
                    have HH := Lib.hid (And.intro hK8 hO8)
                    clear hK7 hO7 hK8 hO8 e8 hmi hc2e hk hq2 hfi hui hvk hxs
                    go_wp2_with fail
                    go_roundw
                    case rel => exact ⟨iN + 1, by omega, by go_num, HH.out.1, HH.out.2⟩
                    case measure => simp [intOf]; omega
                · obtain rfl : U = iN := by omega
                  have hfin : mixL FL UL U = FL := by have := mixL_all HFU.out; rwa [HUU.out] at this
                  rw [hfin] at hO7
                  have HO7 := Lib.hid hO7
                  have HK7 := Lib.hid hK7
                  have hse : ∀ i, i < U → ser FL i = freeSol (fun i => ser (R i)) (fun i => pl.getD i 0) fN i := fun i hi => by rw [HFL.out, ser_ofS_lt _ _ _ hi]
                  have hsol : Solves m U (fun i => ser (R0 i)) (ser FL) := by
                    rw [← HQ.out]
                    intro r hr
                    have h1 := HS.out.solution HEND.out hlt HQ0.out r hr
                    rw [← h1]
                    exact sumN_congr fun i hi => by rw [hse i hi]
                  have HSOL := Lib.hid hsol
                  have hne : ser FL fN ≠ 0 := by
                    rw [hse fN hlt, freeSol, if_neg (by simpa using HQ0.out), if_pos rfl]
                    exact E.one_ne_zero
                  have HNE := Lib.hid hne
                  have hlw : w.heap.size ≤ WL.heap.size := HK.out.below.size
                  clear hO7 hK7 hse hsol hne hfin
                  go_wp2
                  go_ret
                  exact ⟨.inl ⟨WL.heap.size, FL, rfl, HO7.out.mono hlw, by rw [HFU.out, HUU.out], ⟨fN, hlt, HNE.out⟩, HSOL.out⟩, HK7.out.below⟩
            · have hqi : (((pl.getD fN 0 : Nat) : Int) != 0) = true := by rw [bne_iff_ne]; omega
              have HQ1 := Lib.hid hq
              have HALL := Lib.hid hall
              obtain ⟨q, hqq⟩ : ∃ q, pl.getD fN 0 = q := ⟨_, rfl⟩
              rw [hqq] at c1 hqi
              have hq1 : ¬ (q = 0) := by rw [← hqq]; exact hq
              clear hq hall hqq
              go_wp2_with fail
              go_round
              case rel => exact ⟨fN + 1, by omega, by go_num, fun i hi => by
                rcases Nat.lt_or_ge i fN with h | h
                · exact HALL.out i h
                · obtain rfl : i = fN := by omega
                  exact HQ1.out⟩
              case measure => simp [intOf]; omega
          · obtain rfl : U = fN := by omega
            have HALL := Lib.hid hall
            clear hall
            go_wp2
            go_ret
            exact ⟨.inr ⟨rfl, fun x hx => HS.out.none_ HALL.out x ((HQ.out x).2 hx)⟩, HK.out.below⟩
end Go.Proofs.Ytemnlcfabaocbaa
