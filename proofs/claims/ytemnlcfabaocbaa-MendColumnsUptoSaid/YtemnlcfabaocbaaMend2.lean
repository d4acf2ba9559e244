/-
  The walk of layer 5's Column.
-/
import Derived.Test.YtemnlcfabaocbaaMend1
import Derived.Test.YtemnlcfabaocbaaLaw2
namespace Go.Proofs.Ytemnlcfabaocbaa
open Go.RowKit Gf
set_option maxRecDepth 20000
set_option linter.unusedVariables false

/-- What Column answers. -/
def ColOut (k : Int) (word : List E) (lost : List Bool) (T : TypeId) (w : World) (e : Ending) (w' : World) : Prop :=
  ∃ va vb out bad ee, e = .returned (.tuple #[va, vb, .int .i64 ee]) ∧ ColSpec k word lost out bad ee ∧ Own w' w.heap.size T va (bs out) ∧ Own w' w.heap.size 3 vb (ints bad) ∧ Ext w w'
theorem colOut_bad {k : Int} {word : List E} {lost : List Bool} {T : TypeId} {w w' : World} (hg : ¬ GoodK k word lost) (hx : Ext w w') : ColOut k word lost T w (.returned (.tuple #[.slice none 0 0, .slice none 0 0, .int .i64 2])) w' :=
  ⟨_, _, [], [], 2, rfl, .inl ⟨hg, rfl, rfl, rfl⟩, Own.nil _ _ _, Own.nil _ _ _, hx⟩
theorem colTo_take (p : List E) (n j : Nat) (h : j ≤ n) : (colTo p n).take j = colTo p j := by
  rw [colTo, ← List.map_take, List.take_range, Nat.min_eq_left h]; rfl
theorem intsTake_snoc (l : List Nat) (j : Nat) (h : j < l.length) : l.take (j + 1) = l.take j ++ [l[j]] := take_snoc' l j h
set_option maxHeartbeats 4000000 in
theorem column_n (A C : Option Addr) (n m ca cc : Nat) (k : Int) (word : List E) (lost : List Bool) (w : World) (hn : word.length = n) (hm : lost.length = m) (hr : Rd w A (bs word)) (hs : Rd w C (bools lost)) (hnb : n ≤ 1000000000000) (hmb : m ≤ 1000000000000) (hk : (Lit.int .i64 k).wf = true) :
    Calls Try.prog 63 #[.int .i64 k, .slice A n ca, .slice C m cc] w (ColOut k word lost 34 w) := by
  have HN := Lib.hid hn
  have HM := Lib.hid hm
  clear hn hm
  rcases (show k < 1 ∨ 1 ≤ k by omega) with h1 | h1
  · have d1 : decide (k < 1) = true := decide_eq_true h1
    go_enter Try.func63, Try.ntmps63
    go_wp2
    go_ret3
    exact colOut_bad (fun h => by have := h.1; omega) (Ext.refl _)
  obtain ⟨kn, rfl⟩ := Int.eq_ofNat_of_zero_le (show 0 ≤ k by omega)
  have d1 : decide ((kn : Int) < 1) = false := decide_eq_false (by omega)
  rcases (show n < kn ∨ kn ≤ n by omega) with h2 | h2
  · have d2 : decide ((n : Int) < (kn : Int)) = true := decide_eq_true (by omega)
    go_enter Try.func63, Try.ntmps63
    go_wp2
    go_ret3
    exact colOut_bad (fun h => by have := h.2.1; rw [HN.out] at this; omega) (Ext.refl _)
  have d2 : decide ((n : Int) < (kn : Int)) = false := decide_eq_false (by omega)
  rcases (show 255 < n ∨ n ≤ 255 by omega) with h3 | h3
  · have d3 : decide (255 < (n : Int)) = true := decide_eq_true (by omega)
    go_enter Try.func63, Try.ntmps63
    go_wp2
    go_ret3
    exact colOut_bad (fun h => by have := h.2.2.1; rw [HN.out] at this; omega) (Ext.refl _)
  have d3 : decide (255 < (n : Int)) = false := decide_eq_false (by omega)
  by_cases h4 : m = n
  case neg =>
    have d4 : ((m : Int) != (n : Int)) = true := by rw [bne_iff_ne]; omega
    go_enter Try.func63, Try.ntmps63
    go_wp2
    go_ret3
    exact colOut_bad (fun h => by have := h.2.2.2; rw [HN.out, HM.out] at this; exact h4 this) (Ext.refl _)
  subst h4
  have hgood : GoodK (kn : Int) word lost := ⟨by omega, by rw [HN.out]; omega, by rw [HN.out]; omega, by rw [HN.out, HM.out]⟩
  have HG := Lib.hid hgood
  obtain ⟨at_, hat⟩ : ∃ l, l = thereL lost := ⟨_, rfl⟩
  obtain ⟨N, hN⟩ : ∃ N, at_.length = N := ⟨_, rfl⟩
  have hNm : N ≤ m := by rw [← hN, hat, ← HM.out]; exact there_le lost
  have HAT := Lib.hid hat
  have HNN := Lib.hid hN
  have hmem : ∀ i ∈ at_, i < m := fun i hi => by rw [hat] at hi; have := there_mem hi; rw [HM.out] at this; exact this
  have HMEM := Lib.hid hmem
  have HND : Hid at_.Nodup := Lib.hid (by rw [hat]; exact there_nodup lost)
  have hmk := make_elems m (by omega)
  have hz := Lib.hid (zrow_size (.int .u8 0) m)
  clear hgood hat hN hmem d2 d3
  go_enter Try.func63, Try.ntmps63
  go_wp2_with fail
  refine (there_n C m cc lost _ HM.out hs (by omega)).mono ?_
  rintro e w1 ⟨v, rfl, hot, hx1⟩
  rw [← HAT.out] at hot
  obtain ⟨At, ct, rfl, hrt, hct, hmt, -⟩ := hot.slice
  rw [ints_length, HNN.out]
  have HX1 := Lib.hid hx1
  have HRT := Lib.hid hrt
  have HRW := Lib.hid (hr.ext hx1)
  clear hot hx1 hrt hct hmt hr hs
  by_cases h5 : N < kn
  · have d5 : decide ((N : Int) < (kn : Int)) = true := decide_eq_true (by omega)
    go_wp2
    go_ret3
    exact ⟨_, _, [], [], 42, rfl, .inr (.inl ⟨HG.out, by rw [← HAT.out, HNN.out]; omega, rfl, rfl, rfl⟩), Own.nil _ _ _, Own.nil _ _ _, HX1.out⟩
  have d5 : decide ((N : Int) < (kn : Int)) = false := decide_eq_false (by omega)
  have HKN : Hid ((kn : Int) ≤ ((thereL lost).length : Int)) := Lib.hid (by rw [← HAT.out, HNN.out]; omega)
  go_wp2_with fail
  refine (near_n A At m N ca ct kn word at_ _ HN.out HNN.out HRW.out HRT.out HMEM.out HND.out h3 (by omega) (by omega) (by omega)).mono ?_
  rintro e w2 ⟨hno, hx2⟩
  have HX2 := Lib.hid (HX1.out.trans hx2)
  have HRW2 := Lib.hid (HRW.out.ext hx2)
  have HRT2 := Lib.hid (HRT.out.ext hx2)
  clear hx2
  rcases hno with ⟨v, p, rfl, hnp, hpl, hop⟩ | ⟨v, rfl, hno⟩
  case inr =>
    have HNO := Lib.hid hno
    clear hno
    go_wp2
    go_ret3
    exact ⟨_, _, [], [], 50, rfl, .inr (.inr (.inl ⟨HG.out, HKN.out, fun q hq => HNO.out q (by rw [HAT.out]; exact hq), rfl, rfl, rfl⟩)), Own.nil _ _ _, Own.nil _ _ _, HX2.out⟩
  have HNP : Hid (Near kn word lost p) := Lib.hid (by show NearOK _ _ _ _; rw [← HAT.out]; exact hnp)
  clear hnp
  obtain ⟨Ap, cp, rfl, hrp, hcp, hmp⟩ := hop.bytesN rfl
  have HRP := Lib.hid hrp
  simp only [maxLen] at hmp
  clear hop hrp
  go_wp2_with fail
  have H0 := Lib.hid (And.intro ((Ext.refl w2).alloc (.cells (zrow (.int .u8 0) m) 34)) (Filling.start (colTo p m) (Blk.new w2 34 (zrow (.int .u8 0) m)) hz.out))
  go_loopw [56] (fun i wr => ∃ j : Nat, j ≤ m ∧ i = .int .i64 j ∧ Ext w2 wr ∧ Filling wr w2.heap.size m 34 (colTo p m) j) (fun i _ => m - (intOf i).toNat)
  case atStart => exact ⟨0, by omega, rfl, H0.out.1, H0.out.2⟩
  case round =>
    obtain ⟨j, hj, rfl, hx, hf⟩ := hrel
    clear H0
    by_cases hlt : j < m
    · have hof : (E.of j).val = j := E.val_of (by omega)
      have HC := Lib.hid (polyAt_lit Ap p.length cp p j (E.of j) (by rw [hof]) wr rfl (HRP.out.ext hx) (by simp only [maxLen]; omega))
      have HF := Lib.hid hf
      have HX := Lib.hid hx
      clear hx hf hof
      go_wp2_with fail
      refine HC.out.mono ?_
      rintro e w3 ⟨rfl, hx3⟩
      have hf3 := HF.out.ext hx3
      have hx23 := HX.out.trans hx3
      have f1 := hf3.frozen j
      obtain ⟨u1, hu1⟩ := hf3.some_ hlt
      have h6 := hf3.step (by rw [colTo_length]; exact hlt) hlt
      rw [colTo_get, bv] at h6
      have h7 := hx23.new (p := ⟨w2.heap.size, j, none⟩) (Nat.le_refl _) (.int .u8 ((evL p (E.of j)).val : Int))
      have HH := Lib.hid (And.intro h7 h6)
      have hel := (evL p (E.of j)).lt
      clear hf3 hx23 h6 h7 hx3 HC
      go_wp2_with fail
      go_roundw
      case rel => exact ⟨j + 1, by omega, by go_num, HH.out.1, HH.out.2⟩
      case measure => simp [intOf]; omega
    · obtain rfl : m = j := by omega
      have hout := hf.done (B := w2.heap.size) (colTo_length p m) (Nat.le_refl _) (by simp only [maxLen]; omega)
      have HOUT := Lib.hid hout
      have HX := Lib.hid hx
      obtain ⟨W3, hW3⟩ : ∃ W, W = wr := ⟨_, rfl⟩
      rw [← hW3] at HOUT HX ⊢
      clear hout hx hf hW3
      go_wp2_with fail
      go_loopw [15, 69] (fun v i wr => ∃ (j : Nat) (V : Value), V = v ∧ j ≤ N ∧ i = .int .i64 j ∧ Ext W3 wr ∧ Own wr W3.heap.size 3 V (ints (badAt p word (at_.take j)))) (fun _ i _ => N - (intOf i).toNat)
      case atStart => exact ⟨0, _, rfl, by omega, rfl, Ext.refl _, Own.nil _ _ _⟩
      case round =>
        obtain ⟨j, V, rfl, hj, rfl, hx, ho⟩ := hrel
        by_cases hlt : j < N
        · have hja : j < at_.length := by rw [HNN.out]; exact hlt
          have hx2r := HX.out.trans hx
          obtain ⟨ad, rfl, hc⟩ := (HRT2.out.ext hx2r).at_ (ints_get at_ j hja)
          have hib := HMEM.out at_[j] (List.getElem_mem hja)
          have hts := take_snoc' at_ j hja
          obtain ⟨i, hi⟩ : ∃ i, at_[j] = i := ⟨_, rfl⟩
          rw [hi] at hc hib hts
          have hiw : i < word.length := by rw [HN.out]; exact hib
          obtain ⟨bd, rfl, hc2⟩ := (HRW2.out.ext hx2r).byte hiw
          have hic : i < (colTo p m).length := by rw [colTo_length]; exact hib
          have hc3 := (HOUT.out.ext hx).cell (bs_get (colTo p m) i hic)
          rw [colTo_get] at hc3
          have hl1 := (evL p (E.of i)).lt
          have hl2 := (word[i]).lt
          have hgd : word.getD i 0 = word[i] := by simp [List.getD_eq_getElem?_getD, hiw]
          have hble := badAt_le p word (at_.take j)
          rw [List.length_take, HNN.out] at hble
          have HO := Lib.hid ho
          have HXR := Lib.hid hx
          have hid0 : (0 : Int) ≤ (i : Int) := by omega
          by_cases he : evL p (E.of i) = word[i]
          · have hb0 : (((evL p (E.of i)).val : Int) != ((word[i]).val : Int)) = false := by rw [he]; simp
            have HT := Lib.hid (show badAt p word (at_.take (j + 1)) = badAt p word (at_.take j) by rw [hts]; exact badAt_snoc_no (by rw [hgd]; exact he))
            clear hts hgd he hx2r hi ho hx
            go_wp2_with fail
            go_quiet (fail)
            have HXR2 := Lib.hid (HXR.out.drewN (w := wr) nq)
            have HO2 := Lib.hid (HO.out.drewN nq)
            clear hc hc2 hc3
            go_wp2_with fail
            go_roundw
            case rel => exact ⟨j + 1, _, rfl, by omega, by go_num, HXR2.out, by rw [HT.out]; exact HO2.out⟩
            case measure => simp [intOf]; omega
          · have hb0 : (((evL p (E.of i)).val : Int) != ((word[i]).val : Int)) = true := by
              rw [bne_iff_ne]
              intro e
              exact he (E.ext (by omega))
            have HT := Lib.hid (show badAt p word (at_.take (j + 1)) = badAt p word (at_.take j) ++ [i] by rw [hts]; exact badAt_snoc_yes (by rw [hgd]; exact he))
            clear hts hgd he hx2r hi ho hx
            go_wp2_with fail
            go_quiet (fail)
            obtain ⟨WD, hWD⟩ : ∃ W, W = wr.drewN nq := ⟨_, rfl⟩
            have HXR2 : Hid (Ext W3 WD) := Lib.hid (by rw [hWD]; exact HXR.out.drewN nq)
            have HO2 : Hid (Own WD W3.heap.size 3 V (ints (badAt p word (at_.take j)))) := Lib.hid (by rw [hWD]; exact HO.out.drewN nq)
            rw [← hWD]
            clear hc hc2 hc3 hWD
            have hle := HXR2.out.le
            have hbd : ((ints (badAt p word (at_.take j))).length + 1) * 8 ≤ 140737488355328 := by rw [ints_length]; omega
            go_wp2_with (at_builtin; refine wpList_push WD eltInt rfl _ _ (by rfl) W3.heap.size V _ (by rfl) (by exact HO2.out) (.int .i64 i) (by rfl) rfl hbd hle ?_; intro v' w' ho' _ hb' _)
            go_roundw
            case rel => exact ⟨j + 1, _, rfl, by omega, by go_num, Below.trans HXR2.out hb', by rw [HT.out, ints_snoc]; exact ho'⟩
            case measure => simp [intOf]; omega
        · obtain rfl : N = j := by omega
          have hta : at_.take N = at_ := List.take_of_length_le (by rw [HNN.out]; exact Nat.le_refl _)
          rw [hta] at ho
          have HO := Lib.hid ho
          have HXR := Lib.hid hx
          have hsz : w.heap.size ≤ w2.heap.size ∧ w2.heap.size ≤ W3.heap.size := ⟨HX2.out.le, HX.out.le⟩
          clear ho hx hta
          go_wp2
          go_ret3
          exact ⟨_, _, colTo p m, badAt p word at_, 0, rfl, .inr (.inr (.inr ⟨HG.out, HKN.out, p, HNP.out, by rw [HN.out], by rw [HAT.out], rfl⟩)), (HOUT.out.ext HXR.out).mono hsz.1, HO.out.mono (Nat.le_trans hsz.1 hsz.2), (HX2.out.trans HX.out).trans HXR.out⟩
end Go.Proofs.Ytemnlcfabaocbaa
