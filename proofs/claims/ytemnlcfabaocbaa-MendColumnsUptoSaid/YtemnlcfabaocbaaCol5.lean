/-
  The walks of the document's answer for chapter 5: there, column, Column.
-/
import Derived.Test.YtemnlcfabaocbaaNear6
import Derived.Test.YtemnlcfabaocbaaMend2
namespace Go.Proofs.Ytemnlcfabaocbaa
open Go.RowKit Gf
set_option maxRecDepth 20000
set_option linter.unusedVariables false

theorem there5_n (A : Option Addr) (n cap : Nat) (lost : List Bool) (w : World) (hn : lost.length = n) (hr : Rd w A (bools lost)) (hlen : n ≤ 1000000000000) :
    Calls Try.prog 102 #[.slice A n cap] w fun e w' => e = .returned (.int .i64 (((thereL lost).length : Nat) : Int)) ∧ w = w' := by
  have HN := Lib.hid hn
  clear hn
  go_enter Try.func102, Try.ntmps102
  go_wp2_with fail
  go_loop [3, 4] (fun c i => ∃ k : Nat, k ≤ n ∧ i = .int .i64 k ∧ c = .int .i64 (((thereTo lost k).length : Nat) : Int)) (fun _ i => n - (intOf i).toNat)
  case atStart => exact ⟨0, by omega, rfl, rfl⟩
  case round =>
    obtain ⟨k, hk, rfl, rfl⟩ := hrel
    have hle := thereTo_le lost k
    obtain ⟨c, hc⟩ : ∃ c, c = (thereTo lost k).length := ⟨_, rfl⟩
    rw [← hc] at hle ⊢
    have HC := Lib.hid hc
    clear hc
    by_cases hlt : k < n
    · have hkl : k < lost.length := by rw [HN.out]; exact hlt
      obtain ⟨ad, rfl, hcell⟩ := hr.at_ (bools_get lost k hkl)
      cases hb : lost[k] with
      | false =>
        rw [hb] at hcell
        have HT : Hid (c + 1 = (thereTo lost (k + 1)).length) := Lib.hid (by rw [thereTo_yes hkl hb, List.length_append, HC.out]; rfl)
        clear hb
        go_wp2
        go_round
        case rel => exact ⟨k + 1, by omega, by go_num, by rw [← HT.out]; go_num⟩
        case measure => simp [intOf]; omega
      | true =>
        rw [hb] at hcell
        have HT : Hid (c = (thereTo lost (k + 1)).length) := Lib.hid (by rw [thereTo_no hkl hb, HC.out])
        clear hb
        go_wp2
        go_round
        case rel => exact ⟨k + 1, by omega, by go_num, by rw [← HT.out]⟩
        case measure => simp [intOf]; omega
    · obtain rfl : n = k := by omega
      go_wp2
      go_ret
      exact ⟨ret_int (by rw [HC.out, thereL, HN.out]), rfl⟩
theorem at5_lit (gt ct : Nat) (A : Option Addr) (n : Nat) (p : List E) (cap : Nat) (a : Int) (x : E) (ha : a = x.val) (w : World) (ht : Tab w gt) (hn : p.length = n) (hr : Rd w A (bs p)) (hlen : n ≤ 140737488355328) :
    Calls Try.prog 121 #[.slice (some ⟨gt, 0, none⟩) 256 ct, .slice A n cap, .int .u8 a] w fun e w' => e = .returned (.int .u8 (evL p x).val) ∧ w = w' := by
  subst ha; exact at5_n gt ct A n p cap x w ht hn hr hlen
set_option maxHeartbeats 4000000 in
theorem column5_n (gt ct : Nat) (A C : Option Addr) (n k ca cc : Nat) (word : List E) (lost : List Bool) (w : World) (ht : Tab w gt) (hn : word.length = n) (hm : lost.length = n) (hr : Rd w A (bs word)) (hs : Rd w C (bools lost)) (hn2 : n ≤ 255) (hk : 1 ≤ k) (hkN : k ≤ (thereL lost).length) :
    Calls Try.prog 103 #[.slice (some ⟨gt, 0, none⟩) 256 ct, .int .i64 (k : Int), .slice A n ca, .slice C n cc] w (ColOut (k : Int) word lost 5 w) := by
  have HN := Lib.hid hn
  have HM := Lib.hid hm
  have HT := Lib.hid ht
  have HR := Lib.hid hr
  have HS := Lib.hid hs
  have HKN := Lib.hid hkN
  have HG : Hid (GoodK (k : Int) word lost) := Lib.hid ⟨by omega, by rw [hn]; have := there_le lost; rw [hm] at this; omega, by rw [hn]; exact hn2, by rw [hn, hm]⟩
  have hkb : k ≤ 255 := by have := there_le lost; rw [hm] at this; omega
  clear hn hm ht hr hs hkN
  go_enter Try.func103, Try.ntmps103
  go_wp2_with fail
  refine (near5_n gt ct A C n k ca cc word lost _ HT.out HN.out HM.out HR.out HS.out hn2 hk HKN.out).mono ?_
  rintro e w1 ⟨hno, hx1⟩
  have HX1 := Lib.hid hx1
  clear hx1
  rcases hno with ⟨v, p, rfl, hnp, hpl, hop⟩ | ⟨v, rfl, hno⟩
  case inr =>
    have HNO := Lib.hid hno
    clear hno
    go_wp2
    go_ret3
    exact ⟨_, _, [], [], 50, rfl, .inr (.inr (.inl ⟨HG.out, by have := HKN.out; omega, HNO.out, rfl, rfl, rfl⟩)), Own.nil _ _ _, Own.nil _ _ _, HX1.out⟩
  have HNP : Hid (Near k word lost p) := Lib.hid hnp
  clear hnp
  obtain ⟨Ap, cp, rfl, hrp, hcp, hmp⟩ := hop.bytesN rfl
  have HRP := Lib.hid hrp
  clear hop hrp hcp hmp
  go_wp2_with fail
  go_loopw [13, 14, 15] (fun o b i wr => ∃ (j : Nat) (X Y : Value), X = o ∧ Y = b ∧ j ≤ n ∧ i = .int .i64 j ∧ Ext w1 wr ∧ Own wr w1.heap.size 5 X (bs (colTo p j)) ∧ Own wr w1.heap.size 3 Y (ints (badAt p word (thereTo lost j)))) (fun _ _ i _ => n - (intOf i).toNat)
  case atStart => exact ⟨0, _, _, rfl, rfl, by omega, rfl, Ext.refl _, Own.nil _ _ _, Own.nil _ _ _⟩
  case round =>
    obtain ⟨W1, rfl⟩ : ∃ W, W = wr := ⟨_, rfl⟩
    obtain ⟨j, X, Y, rfl, rfl, hj, rfl, hx, hoX, hoY⟩ := hrel
    have HX := Lib.hid hx
    have HOX := Lib.hid hoX
    have HOY := Lib.hid hoY
    by_cases hlt : j < n
    · have hjl : j < lost.length := by rw [HM.out]; exact hlt
      have hjw : j < word.length := by rw [HN.out]; exact hlt
      have hof : (E.of j).val = j := E.val_of (by omega)
      have HC := Lib.hid (at5_lit gt ct Ap p.length p cp j (E.of j) (by rw [hof]) W1 (HT.out.ext (HX1.out.trans hx)) rfl (HRP.out.ext hx) (by omega))
      obtain ⟨ev, hev⟩ : ∃ v, v = evL p (E.of j) := ⟨_, rfl⟩
      rw [← hev] at HC
      have hel := ev.lt
      have hle : w1.heap.size ≤ W1.heap.size := hx.le
      have hbd : ((bs (colTo p j)).length + 1) * 1 ≤ 140737488355328 := by rw [bs_length, colTo_length]; omega
      have HCS : Hid (colTo p (j + 1) = colTo p j ++ [ev]) := Lib.hid (by rw [colTo_succ, hev])
      have HEV := Lib.hid hev
      clear hx hoX hoY hof hev
      go_wp2_with (first | (go_at_call 121; with_reducible refine HC.out.mono ?_; rintro e w' ⟨rfl, rfl⟩) | (at_builtin; refine wpList_push2 W1 eltU8 rfl _ _ (by rfl) w1.heap.size X _ (by rfl) (by exact HOX.out) (.int .u8 (ev.val : Int)) W1.heap.size rfl (by rfl) rfl hbd hle ?_))
      intro X2 W2 h1 h2 h3 h4
      have hy1 : Own (W1.alloc (.cells #[.int .u8 (ev.val : Int)] 5)) w1.heap.size 3 Y (ints (badAt p word (thereTo lost j))) := HOY.out.alloc _
      have hx1' := HOX.out.alloc (.cells #[.int .u8 (ev.val : Int)] 5)
      have hy2 := hy1.kept h2.grown (hy1.types hx1' (by decide))
      have hx2 : Ext w1 W2 := HX.out.below.trans h3
      have hX2 : Own W2 w1.heap.size 5 X2 (bs (colTo p (j + 1))) := by rw [HCS.out, bs_append, bs_one]; exact h1
      obtain ⟨ad, rfl, hc⟩ := (HS.out.ext (HX1.out.trans hx2)).at_ (bools_get lost j hjl)
      obtain ⟨bd, rfl, hcw⟩ := (HR.out.ext (HX1.out.trans hx2)).byte hjw
      have hwl := (word[j]).lt
      have hgd : word.getD j 0 = word[j] := getD_at hjw
      have hble := badAt_le p word (thereTo lost j)
      have hble2 := thereTo_le lost j
      have HH := Lib.hid (And.intro hx2 (And.intro hX2 hy2))
      clear h1 h2 h3 h4 hy1 hx1' hy2 hx2 hX2 hle hbd HC
      cases hb : lost[j] with
      | true =>
        rw [hb] at hc
        have HTT := Lib.hid (thereTo_no hjl hb)
        clear hb
        go_wp2_with fail
        go_roundw
        case rel => exact ⟨j + 1, X2, Y, rfl, rfl, by omega, by go_num, HH.out.1, HH.out.2.1, by rw [HTT.out]; exact HH.out.2.2⟩
        case measure => simp [intOf]; omega
      | false =>
        rw [hb] at hc
        have HTT := Lib.hid (thereTo_yes hjl hb)
        clear hb
        by_cases he : ev = word[j]
        · have hb0 : ((ev.val : Int) != ((word[j]).val : Int)) = false := by rw [he]; simp
          have HBB : Hid (badAt p word (thereTo lost j ++ [j]) = badAt p word (thereTo lost j)) := Lib.hid (badAt_snoc_no (by rw [hgd, ← HEV.out]; exact he))
          clear he hgd
          go_wp2_with fail
          go_roundw
          case rel => exact ⟨j + 1, X2, Y, rfl, rfl, by omega, by go_num, HH.out.1, HH.out.2.1, by rw [HTT.out, HBB.out]; exact HH.out.2.2⟩
          case measure => simp [intOf]; omega
        · have hb0 : ((ev.val : Int) != ((word[j]).val : Int)) = true := by
            rw [bne_iff_ne]
            intro e'
            exact he (E.ext (by omega))
          have HBB : Hid (badAt p word (thereTo lost j ++ [j]) = badAt p word (thereTo lost j) ++ [j]) := Lib.hid (badAt_snoc_yes (by rw [hgd, ← HEV.out]; exact he))
          have hle2 : w1.heap.size ≤ W2.heap.size := HH.out.1.le
          have hbd2 : ((ints (badAt p word (thereTo lost j))).length + 1) * 8 ≤ 140737488355328 := by rw [ints_length]; omega
          clear he hgd
          go_wp2_with (at_builtin; refine wpList_push2 W2 eltInt rfl _ _ (by rfl) w1.heap.size Y _ (by rfl) (by exact HH.out.2.2) (.int .i64 (j : Int)) W2.heap.size rfl (by rfl) rfl hbd2 hle2 ?_)
          intro Y2 W3 h1 h2 h3 h4
          have hx1' : Own (W2.alloc (.cells #[.int .i64 (j : Int)] 3)) w1.heap.size 5 X2 (bs (colTo p (j + 1))) := HH.out.2.1.alloc _
          have hy1' := HH.out.2.2.alloc (.cells #[.int .i64 (j : Int)] 3)
          have hx2' := hx1'.kept h2.grown (hx1'.types hy1' (by decide))
          have hx3 : Ext w1 W3 := HH.out.1.below.trans h3
          have hY3 : Own W3 w1.heap.size 3 Y2 (ints (badAt p word (thereTo lost (j + 1)))) := by rw [HTT.out, HBB.out, ints_snoc]; exact h1
          have HH3 := Lib.hid (And.intro hx3 (And.intro hx2' hY3))
          clear h1 h2 h3 h4 hx1' hy1' hx2' hx3 hY3 hle2 hbd2
          go_wp2_with fail
          go_roundw
          case rel => exact ⟨j + 1, X2, Y2, rfl, rfl, by omega, by go_num, HH3.out.1, HH3.out.2.1, HH3.out.2.2⟩
          case measure => simp [intOf]; omega
    · obtain rfl : n = j := by omega
      have hle : w.heap.size ≤ w1.heap.size := HX1.out.le
      clear hx hoX hoY
      go_wp2
      go_ret3
      exact ⟨_, _, colTo p n, badAt p word (thereL lost), 0, rfl, .inr (.inr (.inr ⟨HG.out, by have := HKN.out; omega, p, HNP.out, by rw [HN.out], rfl, rfl⟩)), HOX.out.mono hle, by rw [thereL, HM.out]; exact HOY.out.mono hle, HX1.out.trans HX.out⟩
set_option maxHeartbeats 4000000 in
theorem column5_all (A C : Option Addr) (n m ca cc : Nat) (k : Int) (word : List E) (lost : List Bool) (w : World) (hn : word.length = n) (hm : lost.length = m) (hr : Rd w A (bs word)) (hs : Rd w C (bools lost)) (hnb : n ≤ 1000000000000) (hmb : m ≤ 1000000000000) (hk : (Lit.int .i64 k).wf = true) :
    Calls Try.prog 62 #[.int .i64 k, .slice A n ca, .slice C m cc] w (ColOut k word lost 5 w) := by
  have HN := Lib.hid hn
  have HM := Lib.hid hm
  clear hn hm
  rcases (show k < 1 ∨ 1 ≤ k by omega) with h1 | h1
  · have d1 : decide (k < 1) = true := decide_eq_true h1
    go_enter Try.func62, Try.ntmps62
    go_wp2
    go_ret3
    exact colOut_bad (fun h => by have := h.1; omega) (Ext.refl _)
  obtain ⟨kn, rfl⟩ := Int.eq_ofNat_of_zero_le (show 0 ≤ k by omega)
  have d1 : decide ((kn : Int) < 1) = false := decide_eq_false (by omega)
  rcases (show n < kn ∨ kn ≤ n by omega) with h2 | h2
  · have d2 : decide ((n : Int) < (kn : Int)) = true := decide_eq_true (by omega)
    go_enter Try.func62, Try.ntmps62
    go_wp2
    go_ret3
    exact colOut_bad (fun h => by have := h.2.1; rw [HN.out] at this; omega) (Ext.refl _)
  have d2 : decide ((n : Int) < (kn : Int)) = false := decide_eq_false (by omega)
  rcases (show 255 < n ∨ n ≤ 255 by omega) with h3 | h3
  · have d3 : decide (255 < (n : Int)) = true := decide_eq_true (by omega)
    go_enter Try.func62, Try.ntmps62
    go_wp2
    go_ret3
    exact colOut_bad (fun h => by have := h.2.2.1; rw [HN.out] at this; omega) (Ext.refl _)
  have d3 : decide (255 < (n : Int)) = false := decide_eq_false (by omega)
  by_cases h4 : m = n
  case neg =>
    have d4 : ((m : Int) != (n : Int)) = true := by rw [bne_iff_ne]; omega
    go_enter Try.func62, Try.ntmps62
    go_wp2
    go_ret3
    exact colOut_bad (fun h => by have := h.2.2.2; rw [HN.out, HM.out] at this; exact h4 this) (Ext.refl _)
  subst h4
  have hgood : GoodK (kn : Int) word lost := ⟨by omega, by rw [HN.out]; omega, by rw [HN.out]; omega, by rw [HN.out, HM.out]⟩
  have HG := Lib.hid hgood
  obtain ⟨N, hN⟩ : ∃ N, (thereL lost).length = N := ⟨_, rfl⟩
  have hNm : N ≤ m := by rw [← hN, ← HM.out]; exact there_le lost
  have HTH := Lib.hid (there5_n C m cc lost w HM.out hs (by omega))
  rw [hN] at HTH
  have HNN := Lib.hid hN
  have HR := Lib.hid hr
  have HS := Lib.hid hs
  clear hgood hN d2 d3 hr hs
  go_enter Try.func62, Try.ntmps62
  go_wp2_with fail
  refine HTH.out.mono ?_
  rintro e w' ⟨rfl, rfl⟩
  by_cases h5 : N < kn
  · have d5 : decide ((N : Int) < (kn : Int)) = true := decide_eq_true (by omega)
    go_wp2
    go_ret3
    exact ⟨_, _, [], [], 42, rfl, .inr (.inl ⟨HG.out, by rw [HNN.out]; omega, rfl, rfl, rfl⟩), Own.nil _ _ _, Own.nil _ _ _, Ext.refl _⟩
  have d5 : decide ((N : Int) < (kn : Int)) = false := decide_eq_false (by omega)
  go_wp2_with fail
  refine (table_n _).mono ?_
  rintro e w1 ⟨gt, ct, rfl, ht, hx1⟩
  have HX1 := Lib.hid hx1
  have HT := Lib.hid ht
  clear hx1 ht
  go_wp2_with fail
  refine (column5_n gt ct A C m kn ca cc word lost _ HT.out HN.out HM.out (HR.out.ext HX1.out) (HS.out.ext HX1.out) h3 (by omega) (by rw [HNN.out]; omega)).mono ?_
  rintro e w2 ⟨va, vb, out, bad, ee, rfl, hsp, hoa, hob, hx2⟩
  have HSP := Lib.hid hsp
  have hle : w.heap.size ≤ w1.heap.size := HX1.out.le
  clear hsp
  go_wp2
  go_ret3
  exact ⟨va, vb, out, bad, ee, rfl, HSP.out, hoa.mono hle, hob.mono hle, HX1.out.trans hx2⟩
end Go.Proofs.Ytemnlcfabaocbaa
