/-
  Texts of mine, merged: Col5 OpenU2 Law5 RowsM Wei0 Wei MendS MendW.
-/
import Derived.Test.YtemnlcfabaocbaaG4
import Derived.Test.YtemnlcfabaocbaaG5
import Derived.Test.YtemnlcfabaocbaaG6
import Derived.Test.YtemnlcfabaocbaaG7
import Derived.Test.YtemnlcfabaocbaaG8
import Derived.Deep.Grids
import Derived.Deep.Matrix
/-
  The walks of the document's answer for chapter 5: there, column, Column.
-/
namespace Go.Proofs.Ytemnlcfabaocbaa
open Go.RowKit Gf
set_option maxRecDepth 20000
set_option linter.unusedVariables false

theorem there5_n (A : Option Addr) (n cap : Nat) (lost : List Bool) (w : World) (hn : lost.length = n) (hr : Rd w A (bools lost)) (hlen : n ≤ 1000000000000) :
    Calls Try.prog 102 #[.slice A n cap] w fun e w' => e = .returned (.int .i64 (((thereL lost).length : Nat) : Int)) ∧ w = w' := by
  have HN := Lib.hid hn
  clear hn
  go_enter Try.func102, Try.ntmps102
  go_wp2_with fail
  go_loop [3, 4] (fun c i => ∃ k : Nat, k ≤ n ∧ i = .int .i64 k ∧ c = .int .i64 (((thereTo lost k).length : Nat) : Int)) (fun _ i => n - (intOf i).toNat)
  case atStart => exact ⟨0, by omega, rfl, rfl⟩
  case round =>
    obtain ⟨k, hk, rfl, rfl⟩ := hrel
    have hle := thereTo_le lost k
    obtain ⟨c, hc⟩ : ∃ c, c = (thereTo lost k).length := ⟨_, rfl⟩
    rw [← hc] at hle ⊢
    have HC := Lib.hid hc
    clear hc
    by_cases hlt : k < n
    · have hkl : k < lost.length := by rw [HN.out]; exact hlt
      obtain ⟨ad, rfl, hcell⟩ := hr.at_ (bools_get lost k hkl)
      cases hb : lost[k] with
      | false =>
        rw [hb] at hcell
        have HT : Hid (c + 1 = (thereTo lost (k + 1)).length) := Lib.hid (by rw [thereTo_yes hkl hb, List.length_append, HC.out]; rfl)
        clear hb
        go_wp2
        go_round
        case rel => exact ⟨k + 1, by omega, by go_num, by rw [← HT.out]; go_num⟩
        case measure => simp [intOf]; omega
      | true =>
        rw [hb] at hcell
        have HT : Hid (c = (thereTo lost (k + 1)).length) := Lib.hid (by rw [thereTo_no hkl hb, HC.out])
        clear hb
        go_wp2
        go_round
        case rel => exact ⟨k + 1, by omega, by go_num, by rw [← HT.out]⟩
        case measure => simp [intOf]; omega
    · obtain rfl : n = k := by omega
      go_wp2
      go_ret
      exact ⟨ret_int (by rw [HC.out, thereL, HN.out]), rfl⟩
theorem at5_lit (gt ct : Nat) (A : Option Addr) (n : Nat) (p : List E) (cap : Nat) (a : Int) (x : E) (ha : a = x.val) (w : World) (ht : Tab w gt) (hn : p.length = n) (hr : Rd w A (bs p)) (hlen : n ≤ 140737488355328) :
    Calls Try.prog 121 #[.slice (some ⟨gt, 0, none⟩) 256 ct, .slice A n cap, .int .u8 a] w fun e w' => e = .returned (.int .u8 (evL p x).val) ∧ w = w' := by
  subst ha; exact at5_n gt ct A n p cap x w ht hn hr hlen
set_option maxHeartbeats 4000000 in
theorem column5_n (gt ct : Nat) (A C : Option Addr) (n k ca cc : Nat) (word : List E) (lost : List Bool) (w : World) (ht : Tab w gt) (hn : word.length = n) (hm : lost.length = n) (hr : Rd w A (bs word)) (hs : Rd w C (bools lost)) (hn2 : n ≤ 255) (hk : 1 ≤ k) (hkN : k ≤ (thereL lost).length) :
    Calls Try.prog 103 #[.slice (some ⟨gt, 0, none⟩) 256 ct, .int .i64 (k : Int), .slice A n ca, .slice C n cc] w (ColOut (k : Int) word lost 5 w) := by
  have HN := Lib.hid hn
  have HM := Lib.hid hm
  have HT := Lib.hid ht
  have HR := Lib.hid hr
  have HS := Lib.hid hs
  have HKN := Lib.hid hkN
  have HG : Hid (GoodK (k : Int) word lost) := Lib.hid ⟨by omega, by rw [hn]; have := there_le lost; rw [hm] at this; omega, by rw [hn]; exact hn2, by rw [hn, hm]⟩
  have hkb : k ≤ 255 := by have := there_le lost; rw [hm] at this; omega
  clear hn hm ht hr hs hkN
  go_enter Try.func103, Try.ntmps103
  go_wp2_with fail
  refine (near5_n gt ct A C n k ca cc word lost _ HT.out HN.out HM.out HR.out HS.out hn2 hk HKN.out).mono ?_
  rintro e w1 ⟨hno, hx1⟩
  have HX1 := Lib.hid hx1
  clear hx1
  rcases hno with ⟨v, p, rfl, hnp, hpl, hop⟩ | ⟨v, rfl, hno⟩
  case inr =>
    have HNO := Lib.hid hno
    clear hno
    go_wp2
    go_ret3
    exact ⟨_, _, [], [], 50, rfl, .inr (.inr (.inl ⟨HG.out, by have := HKN.out; omega, HNO.out, rfl, rfl, rfl⟩)), Own.nil _ _ _, Own.nil _ _ _, HX1.out⟩
  have HNP : Hid (Near k word lost p) := Lib.hid hnp
  clear hnp
  obtain ⟨Ap, cp, rfl, hrp, hcp, hmp⟩ := hop.bytesN rfl
  have HRP := Lib.hid hrp
  clear hop hrp hcp hmp
  go_wp2_with fail
  go_loopw [13, 14, 15] (fun o b i wr => ∃ (j : Nat) (X Y : Value), X = o ∧ Y = b ∧ j ≤ n ∧ i = .int .i64 j ∧ Ext w1 wr ∧ Own wr w1.heap.size 5 X (bs (colTo p j)) ∧ Own wr w1.heap.size 3 Y (ints (badAt p word (thereTo lost j)))) (fun _ _ i _ => n - (intOf i).toNat)
  case atStart => exact ⟨0, _, _, rfl, rfl, by omega, rfl, Ext.refl _, Own.nil _ _ _, Own.nil _ _ _⟩
  case round =>
    obtain ⟨W1, rfl⟩ : ∃ W, W = wr := ⟨_, rfl⟩
    obtain ⟨j, X, Y, rfl, rfl, hj, rfl, hx, hoX, hoY⟩ := hrel
    have HX := Lib.hid hx
    have HOX := Lib.hid hoX
    have HOY := Lib.hid hoY
    by_cases hlt : j < n
    · have hjl : j < lost.length := by rw [HM.out]; exact hlt
      have hjw : j < word.length := by rw [HN.out]; exact hlt
      have hof : (E.of j).val = j := E.val_of (by omega)
      have HC := Lib.hid (at5_lit gt ct Ap p.length p cp j (E.of j) (by rw [hof]) W1 (HT.out.ext (HX1.out.trans hx)) rfl (HRP.out.ext hx) (by omega))
      obtain ⟨ev, hev⟩ : ∃ v, v = evL p (E.of j) := ⟨_, rfl⟩
      rw [← hev] at HC
      have hel := ev.lt
      have hle : w1.heap.size ≤ W1.heap.size := hx.le
      have hbd : ((bs (colTo p j)).length + 1) * 1 ≤ 140737488355328 := by rw [bs_length, colTo_length]; omega
      have HCS : Hid (colTo p (j + 1) = colTo p j ++ [ev]) := Lib.hid (by rw [colTo_succ, hev])
      have HEV := Lib.hid hev
      clear hx hoX hoY hof hev
      go_wp2_with (first | (go_at_call 121; with_reducible refine HC.out.mono ?_; rintro e w' ⟨rfl, rfl⟩) | (at_builtin; refine wpList_push2 W1 eltU8 rfl _ _ (by rfl) w1.heap.size X _ (by rfl) (by exact HOX.out) (.int .u8 (ev.val : Int)) W1.heap.size rfl (by rfl) rfl hbd hle ?_))
      intro X2 W2 h1 h2 h3 h4
      have hy1 : Own (W1.alloc (.cells #[.int .u8 (ev.val : Int)] 5)) w1.heap.size 3 Y (ints (badAt p word (thereTo lost j))) := HOY.out.alloc _
      have hx1' := HOX.out.alloc (.cells #[.int .u8 (ev.val : Int)] 5)
      have hy2 := hy1.kept h2.grown (hy1.types hx1' (by decide))
      have hx2 : Ext w1 W2 := HX.out.below.trans h3
      have hX2 : Own W2 w1.heap.size 5 X2 (bs (colTo p (j + 1))) := by rw [HCS.out, bs_append, bs_one]; exact h1
      obtain ⟨ad, rfl, hc⟩ := (HS.out.ext (HX1.out.trans hx2)).at_ (bools_get lost j hjl)
      obtain ⟨bd, rfl, hcw⟩ := (HR.out.ext (HX1.out.trans hx2)).byte hjw
      have hwl := (word[j]).lt
      have hgd : word.getD j 0 = word[j] := getD_at hjw
      have hble := badAt_le p word (thereTo lost j)
      have hble2 := thereTo_le lost j
      have HH := Lib.hid (And.intro hx2 (And.intro hX2 hy2))
      clear h1 h2 h3 h4 hy1 hx1' hy2 hx2 hX2 hle hbd HC
      cases hb : lost[j] with
      | true =>
        rw [hb] at hc
        have HTT := Lib.hid (thereTo_no hjl hb)
        clear hb
        go_wp2_with fail
        go_roundw
        case rel => exact ⟨j + 1, X2, Y, rfl, rfl, by omega, by go_num, HH.out.1, HH.out.2.1, by rw [HTT.out]; exact HH.out.2.2⟩
        case measure => simp [intOf]; omega
      | false =>
        rw [hb] at hc
        have HTT := Lib.hid (thereTo_yes hjl hb)
        clear hb
        by_cases he : ev = word[j]
        · have hb0 : ((ev.val : Int) != ((word[j]).val : Int)) = false := by rw [he]; simp
          have HBB : Hid (badAt p word (thereTo lost j ++ [j]) = badAt p word (thereTo lost j)) := Lib.hid (badAt_snoc_no (by rw [hgd, ← HEV.out]; exact he))
          clear he hgd
          go_wp2_with fail
          go_roundw
          case rel => exact ⟨j + 1, X2, Y, rfl, rfl, by omega, by go_num, HH.out.1, HH.out.2.1, by rw [HTT.out, HBB.out]; exact HH.out.2.2⟩
          case measure => simp [intOf]; omega
        · have hb0 : ((ev.val : Int) != ((word[j]).val : Int)) = true := by
            rw [bne_iff_ne]
            intro e'
            exact he (E.ext (by omega))
          have HBB : Hid (badAt p word (thereTo lost j ++ [j]) = badAt p word (thereTo lost j) ++ [j]) := Lib.hid (badAt_snoc_yes (by rw [hgd, ← HEV.out]; exact he))
          have hle2 : w1.heap.size ≤ W2.heap.size := HH.out.1.le
          have hbd2 : ((ints (badAt p word (thereTo lost j))).length + 1) * 8 ≤ 140737488355328 := by rw [ints_length]; omega
          clear he hgd
          go_wp2_with (at_builtin; refine wpList_push2 W2 eltInt rfl _ _ (by rfl) w1.heap.size Y _ (by rfl) (by exact HH.out.2.2) (.int .i64 (j : Int)) W2.heap.size rfl (by rfl) rfl hbd2 hle2 ?_)
          intro Y2 W3 h1 h2 h3 h4
          have hx1' : Own (W2.alloc (.cells #[.int .i64 (j : Int)] 3)) w1.heap.size 5 X2 (bs (colTo p (j + 1))) := HH.out.2.1.alloc _
          have hy1' := HH.out.2.2.alloc (.cells #[.int .i64 (j : Int)] 3)
          have hx2' := hx1'.kept h2.grown (hx1'.types hy1' (by decide))
          have hx3 : Ext w1 W3 := HH.out.1.below.trans h3
          have hY3 : Own W3 w1.heap.size 3 Y2 (ints (badAt p word (thereTo lost (j + 1)))) := by rw [HTT.out, HBB.out, ints_snoc]; exact h1
          have HH3 := Lib.hid (And.intro hx3 (And.intro hx2' hY3))
          clear h1 h2 h3 h4 hx1' hy1' hx2' hx3 hY3 hle2 hbd2
          go_wp2_with fail
          go_roundw
          case rel => exact ⟨j + 1, X2, Y2, rfl, rfl, by omega, by go_num, HH3.out.1, HH3.out.2.1, HH3.out.2.2⟩
          case measure => simp [intOf]; omega
    · obtain rfl : n = j := by omega
      have hle : w.heap.size ≤ w1.heap.size := HX1.out.le
      clear hx hoX hoY
      go_wp2
      go_ret3
      exact ⟨_, _, colTo p n, badAt p word (thereL lost), 0, rfl, .inr (.inr (.inr ⟨HG.out, by have := HKN.out; omega, p, HNP.out, by rw [HN.out], rfl, rfl⟩)), HOX.out.mono hle, by rw [thereL, HM.out]; exact HOY.out.mono hle, HX1.out.trans HX.out⟩
set_option maxHeartbeats 4000000 in
theorem column5_all (A C : Option Addr) (n m ca cc : Nat) (k : Int) (word : List E) (lost : List Bool) (w : World) (hn : word.length = n) (hm : lost.length = m) (hr : Rd w A (bs word)) (hs : Rd w C (bools lost)) (hnb : n ≤ 1000000000000) (hmb : m ≤ 1000000000000) (hk : (Lit.int .i64 k).wf = true) :
    Calls Try.prog 62 #[.int .i64 k, .slice A n ca, .slice C m cc] w (ColOut k word lost 5 w) := by
  have HN := Lib.hid hn
  have HM := Lib.hid hm
  clear hn hm
  rcases (show k < 1 ∨ 1 ≤ k by omega) with h1 | h1
  · have d1 : decide (k < 1) = true := decide_eq_true h1
    go_enter Try.func62, Try.ntmps62
    go_wp2
    go_ret3
    exact colOut_bad (fun h => by have := h.1; omega) (Ext.refl _)
  obtain ⟨kn, rfl⟩ := Int.eq_ofNat_of_zero_le (show 0 ≤ k by omega)
  have d1 : decide ((kn : Int) < 1) = false := decide_eq_false (by omega)
  rcases (show n < kn ∨ kn ≤ n by omega) with h2 | h2
  · have d2 : decide ((n : Int) < (kn : Int)) = true := decide_eq_true (by omega)
    go_enter Try.func62, Try.ntmps62
    go_wp2
    go_ret3
    exact colOut_bad (fun h => by have := h.2.1; rw [HN.out] at this; omega) (Ext.refl _)
  have d2 : decide ((n : Int) < (kn : Int)) = false := decide_eq_false (by omega)
  rcases (show 255 < n ∨ n ≤ 255 by omega) with h3 | h3
  · have d3 : decide (255 < (n : Int)) = true := decide_eq_true (by omega)
    go_enter Try.func62, Try.ntmps62
    go_wp2
    go_ret3
    exact colOut_bad (fun h => by have := h.2.2.1; rw [HN.out] at this; omega) (Ext.refl _)
  have d3 : decide (255 < (n : Int)) = false := decide_eq_false (by omega)
  by_cases h4 : m = n
  case neg =>
    have d4 : ((m : Int) != (n : Int)) = true := by rw [bne_iff_ne]; omega
    go_enter Try.func62, Try.ntmps62
    go_wp2
    go_ret3
    exact colOut_bad (fun h => by have := h.2.2.2; rw [HN.out, HM.out] at this; exact h4 this) (Ext.refl _)
  subst h4
  have hgood : GoodK (kn : Int) word lost := ⟨by omega, by rw [HN.out]; omega, by rw [HN.out]; omega, by rw [HN.out, HM.out]⟩
  have HG := Lib.hid hgood
  obtain ⟨N, hN⟩ : ∃ N, (thereL lost).length = N := ⟨_, rfl⟩
  have hNm : N ≤ m := by rw [← hN, ← HM.out]; exact there_le lost
  have HTH := Lib.hid (there5_n C m cc lost w HM.out hs (by omega))
  rw [hN] at HTH
  have HNN := Lib.hid hN
  have HR := Lib.hid hr
  have HS := Lib.hid hs
  clear hgood hN d2 d3 hr hs
  go_enter Try.func62, Try.ntmps62
  go_wp2_with fail
  refine HTH.out.mono ?_
  rintro e w' ⟨rfl, rfl⟩
  by_cases h5 : N < kn
  · have d5 : decide ((N : Int) < (kn : Int)) = true := decide_eq_true (by omega)
    go_wp2
    go_ret3
    exact ⟨_, _, [], [], 42, rfl, .inr (.inl ⟨HG.out, by rw [HNN.out]; omega, rfl, rfl, rfl⟩), Own.nil _ _ _, Own.nil _ _ _, Ext.refl _⟩
  have d5 : decide ((N : Int) < (kn : Int)) = false := decide_eq_false (by omega)
  go_wp2_with fail
  refine (table_n _).mono ?_
  rintro e w1 ⟨gt, ct, rfl, ht, hx1⟩
  have HX1 := Lib.hid hx1
  have HT := Lib.hid ht
  clear hx1 ht
  go_wp2_with fail
  refine (column5_n gt ct A C m kn ca cc word lost _ HT.out HN.out HM.out (HR.out.ext HX1.out) (HS.out.ext HX1.out) h3 (by omega) (by rw [HNN.out]; omega)).mono ?_
  rintro e w2 ⟨va, vb, out, bad, ee, rfl, hsp, hoa, hob, hx2⟩
  have HSP := Lib.hid hsp
  have hle : w.heap.size ≤ w1.heap.size := HX1.out.le
  clear hsp
  go_wp2
  go_ret3
  exact ⟨va, vb, out, bad, ee, rfl, HSP.out, hoa.mono hle, hob.mono hle, HX1.out.trans hx2⟩
end Go.Proofs.Ytemnlcfabaocbaa
/-
  The arguments of a law opened where they are together of a bulk that is bounded: rows of bools, rows of rows of bytes, a struct of three.
-/
namespace Go.Proofs.Ytemnlcfabaocbaa
open Go.ChangeShapes Go.WideShapes Go.ChangeAt Go.RowKit Gf Go.Deep
set_option linter.unusedVariables false

section
variable {H : Type} {enc : TypeId × Value → H} {P : Program} {w : World}
theorem open_bools_u {base : Nat} {held : Bool} {t e : TypeId} {fuel : Nat} {cs : List Value} {y : DataW H × List MemPlace} (ht : P.underlying t = some (.slice e)) (he : P.underlying e = some .bool) (hc : P.cellsOf e = 1)
    (h : DataW.trod enc P w base (fun _ => true) held fuel t cs = some y) (hB : Rows.uptoBulk y.1 ≤ 1048576) :
    ∃ (A : Option Addr) (cap : Nat) (xs : List Bool), cs = [.slice A xs.length cap] ∧ Rd w A (bools xs) ∧ xs.length ≤ cap ∧ cap ≤ 1048576 := by
  rcases open_bools ht he hc h with ⟨hcs, _⟩ | ⟨a, l, c', B, hcs, _, hl, hm, hx, hcell⟩
  · exact ⟨none, 0, [], hcs, Rd.nil _ _, Nat.le_refl _, by omega⟩
  · have hcap : c' ≤ 1048576 := by
      rw [hx] at hB
      simp only [boolRow, Rows.uptoBulk] at hB
      have h1 := bulk_len (H := H) ((List.range l).map fun i => .lit (.bool (B i)))
      have h2 := bulk_len (H := H) ((List.range (c' - l)).map fun i => .lit (.bool (B (l + i))))
      rw [List.length_map, List.length_range] at h1 h2
      omega
    refine ⟨some a, c', (List.range l).map B, by simpa using hcs, fun _ => ⟨a, rfl, fun j u hu => ?_⟩, by simpa using hl, hcap⟩
    have hj : j < l := by
      have := (List.getElem?_eq_some_iff.1 hu).1
      simpa [bools] using this
    rw [hcell j (by omega)]
    rw [bools, List.getElem?_map, List.getElem?_map, List.getElem?_range hj] at hu
    simpa using hu
theorem array3 {α : Type} {cs : Array α} (h : cs.size = 3) : ∃ c0 c1 c2, cs = #[c0, c1, c2] := by
  obtain ⟨l⟩ := cs
  match l, h with
  | [c0, c1, c2], _ => exact ⟨c0, c1, c2, rfl⟩
theorem open_agg3u {base : Nat} {spare : Nat → Bool} {held : Bool} {r : Reach} {b0 : Nat} {t : TypeId} {f0 f1 f2 : Field} {v : Value} {d : DataW H} {p : List MemPlace} (hs : P.underlying t = some (.struct #[f0, f1, f2])) (hone : oneCellFields P #[f0, f1, f2] = true) (hC : P.cellsOf t = 3)
    (hv : Value.okWide P w r b0 t v) (h : DataW.Trod enc P w base spare held t v d p) :
    ∃ (v0 v1 v2 : Value) (y0 y1 y2 : DataW H × List MemPlace) (n : Nat), v = .agg #[v0, v1, v2] ∧ d = .agg [y0.1, y1.1, y2.1] ∧
      DataW.trod enc P w base spare held n f0.type [v0] = some y0 ∧ DataW.trod enc P w base spare held n f1.type [v1] = some y1 ∧ DataW.trod enc P w base spare held n f2.type [v2] = some y2 := by
  obtain ⟨cs, rfl, hsz⟩ := okWide_struct hs hv
  obtain ⟨c0, c1, c2, rfl⟩ := array3 (hsz.trans hC)
  obtain ⟨fuel, hf⟩ := h
  obtain ⟨xs, n, _, hx, hl, hlen, hff⟩ := DataW.trod_struct hs hf
  obtain ⟨o0, k0⟩ := hone_of hone 0 f0 rfl
  obtain ⟨o1, k1⟩ := hone_of hone 1 f1 rfl
  obtain ⟨o2, k2⟩ := hone_of hone 2 f2 rfl
  match xs, hlen with
  | [y0, y1, y2], _ =>
    simp only [Prod.mk.injEq] at hx
    exact ⟨c0, c1, c2, y0, y1, y2, n, rfl, by simpa using hx.1, by simpa [Value.cells, o0, k0] using hff 0 f0 rfl, by simpa [Value.cells, o1, k1] using hff 1 f1 rfl, by simpa [Value.cells, o2, k2] using hff 2 f2 rfl⟩
theorem intRow_bulk {k : IntKind} {A : Option Addr} {L : Nat} {Z : List Int} (h : A = none → Z.length = 0) : Z.length ≤ Rows.uptoBulk (H := H) (intRow k A L Z) := by
  cases A with
  | none => rw [h rfl]; exact Nat.zero_le _
  | some a =>
    simp only [intRow, Rows.uptoBulk]
    have h1 := bulk_len (H := H) (lits k (Z.take L))
    have h2 := bulk_len (H := H) (lits k (Z.drop L))
    rw [lits_length, List.length_take] at h1
    rw [lits_length, List.length_drop] at h2
    omega
theorem open_rows_u {base : Nat} {held : Bool} {t e q : TypeId} {fuel : Nat} {cs : List Value} {y : DataW H × List MemPlace} (ht : P.underlying t = some (.slice e)) (he : P.underlying e = some (.slice q)) (hq : P.underlying q = some (.int .u8)) (ce : P.cellsOf e = 1) (cq : P.cellsOf q = 1)
    (h : DataW.trod enc P w base (fun _ => true) held fuel t cs = some y) (hB : Rows.uptoBulk y.1 ≤ 1048576) :
    ∃ (A : Option Addr) (cap : Nat) (rs : List (List E)), cs = [.slice A rs.length cap] ∧ RdRows w A rs ∧ rs.length ≤ cap ∧ cap ≤ 1048576 ∧ ∀ r ∈ rs, r.length ≤ 1048576 := by
  rcases open_int_rows ht he hq ce cq h with ⟨hcs, _⟩ | ⟨a, l, c', A, L, C, Z, hcs, _, hl, hm, hx, hrow⟩
  · exact ⟨none, 0, [], hcs, ⟨[], rfl, Rd.nil _ _, fun i r hi => by simp at hi⟩, Nat.le_refl _, by omega, by simp⟩
  · rw [hx] at hB
    simp only [Rows.uptoBulk] at hB
    have h1 := bulk_len (H := H) ((List.range l).map fun r => intRow .u8 (A r) (L r) (Z r))
    have h2 := bulk_len (H := H) ((List.range (c' - l)).map fun j => intRow .u8 (A (l + j)) (L (l + j)) (Z (l + j)))
    rw [List.length_map, List.length_range] at h1 h2
    have hcap : c' ≤ 1048576 := by omega
    have hC : ∀ r, r < l → C r ≤ 1048576 := fun r hr => by
      obtain ⟨_, _, _, hz, _, hnone, _⟩ := hrow r (by omega)
      have h3 := intRow_bulk (H := H) (k := .u8) (A := A r) (L := L r) (Z := Z r) (fun e => by rw [hz]; exact hnone e)
      have h4 := bulk_part (H := H) (List.mem_map.2 ⟨r, List.mem_range.2 hr, rfl⟩ : intRow .u8 (A r) (L r) (Z r) ∈ (List.range l).map fun r => intRow .u8 (A r) (L r) (Z r))
      omega
    have hE : ∀ r, r < l → ∃ xs : List E, xs.length = L r ∧ Rd w (A r) (bs xs) ∧ L r ≤ C r ∧ C r ≤ maxLen := fun r hr => by
      obtain ⟨_, hLC, hCm, hz, hwf, hnone, hcell⟩ := hrow r (by omega)
      let f : Nat → E := fun i => ⟨((Z r).getD i 0).toNat % 256, Nat.mod_lt _ (by decide)⟩
      have hf : ∀ i, i < (Z r).length → (Z r).getD i 0 = ((f i).val : Int) := fun i hi => by
        have hmem : (Z r).getD i 0 ∈ Z r := by
          rw [List.getD_eq_getElem?_getD, List.getElem?_eq_getElem hi]
          exact List.getElem_mem hi
        obtain ⟨x, hx⟩ := toE (hwf _ hmem)
        have hlt := x.lt
        show (Z r).getD i 0 = ((((Z r).getD i 0).toNat % 256 : Nat) : Int)
        rw [hx]
        omega
      refine ⟨(List.range (L r)).map f, by simp, fun hn => ?_, hLC, hCm⟩
      have hL0 : 0 < L r := by simpa [bs] using hn
      cases eA : A r with
      | none => have := hnone eA; omega
      | some ad =>
        refine ⟨ad, rfl, fun j u hu => ?_⟩
        have hj : j < L r := by
          have := (List.getElem?_eq_some_iff.1 hu).1
          simpa [bs] using this
        rw [(hcell ad eA).2 j (by omega), hf j (by omega)]
        rw [bs, List.getElem?_map, List.getElem?_map, List.getElem?_range hj] at hu
        simpa [bv] using hu
    obtain ⟨xs, hxs⟩ := choose_lt hE
    refine ⟨some a, c', (List.range l).map xs, by simpa using hcs, ⟨(List.range l).map fun r => .slice (A r) (L r) (C r), by simp, fun _ => ⟨a, rfl, fun j u hu => ?_⟩, fun i r hi => ?_⟩, by simpa using hl, hcap, fun r hr => ?_⟩
    · have hj : j < l := by
        have := (List.getElem?_eq_some_iff.1 hu).1
        simpa using this
      rw [(hrow j (by omega)).1]
      rw [List.getElem?_map, List.getElem?_range hj] at hu
      simpa using hu
    · have hj : i < l := by
        have := (List.getElem?_eq_some_iff.1 hi).1
        simpa using this
      rw [List.getElem?_map, List.getElem?_range hj] at hi
      simp only [Option.map_some, Option.some.injEq] at hi
      obtain ⟨e1, e2, e3, e4⟩ := hxs i hj
      subst hi
      exact ⟨A i, C i, by rw [List.getElem?_map, List.getElem?_range hj, e1]; rfl, e2, by rw [e1]; exact e3, e4⟩
    · obtain ⟨i, hi, rfl⟩ := List.mem_map.1 hr
      have hj := List.mem_range.1 hi
      rw [(hxs i hj).1]
      exact Nat.le_trans (hxs i hj).2.2.1 (hC i hj)
end
end Go.Proofs.Ytemnlcfabaocbaa
/-
  The walks of the laws' own helpers of chapter 5: num, sameInts.
-/
namespace Go.Proofs.Ytemnlcfabaocbaa
open Go.RowKit Gf
set_option maxRecDepth 20000
set_option linter.unusedVariables false
theorem infoBool : (Try.prog.info? 4).map (fun i => (i.zero, i.size, i.bytes)) = some (some (.bool false), 1, 1) := by kernel_rfl
theorem eltBool : Elt Try.prog 67 4 (.bool false) 1 := ⟨by kernel_rfl, info_parts infoBool, rfl, by decide⟩
theorem num5_any (k : Int) (hk : (Lit.int .i64 k).wf = true) (w : World) : Calls Try.prog 64 #[.int .i64 k] w fun e w' => e = .returned (.int .i64 k) ∧ w = w' := by
  go_enter Try.func64, Try.ntmps64
  go_wp2
  go_ret
  exact ⟨rfl, rfl⟩
theorem sameInts_n (A B : Option Addr) (n m : Nat) (xs : List Nat) (ca cb : Nat) (w : World) (hn : xs.length = n) (hm : xs.length = m) (hr : Rd w A (ints xs)) (hs : Rd w B (ints xs)) (hlen : n ≤ 9000000000000000000) (hb : ∀ x ∈ xs, x ≤ 1000000000) :
    Calls Try.prog 65 #[.slice A n ca, .slice B m cb] w fun e w' => e = .returned (.bool true) ∧ Ext w w' := by
  subst hn
  subst hm
  have HB := Lib.hid hb
  clear hb
  go_enter Try.func65, Try.ntmps65
  go_wp2_with fail
  go_loopw [5] (fun i wr => ∃ k : Nat, k ≤ xs.length ∧ i = .int .i64 k ∧ Ext w wr) (fun i _ => xs.length - (intOf i).toNat)
  case atStart => exact ⟨0, by omega, rfl, Ext.refl _⟩
  case round =>
    obtain ⟨k, hk, rfl, hbel⟩ := hrel
    by_cases hlt : k < xs.length
    · obtain ⟨ad, rfl, hc1⟩ := (hr.ext hbel).at_ (ints_get xs k hlt)
      obtain ⟨bd, rfl, hc2⟩ := (hs.ext hbel).at_ (ints_get xs k hlt)
      have hl0 : (0 : Int) ≤ (k : Int) := by omega
      have hl1 : (k : Int) < (xs.length : Int) := by omega
      have hv := HB.out xs[k] (List.getElem_mem hlt)
      go_wp2_with fail
      go_quiet (fail)
      go_wp2
      go_roundw
      case rel => exact ⟨k + 1, by omega, by go_num, hbel.drewN _⟩
      case measure => simp [intOf]; omega
    · obtain rfl : k = xs.length := by omega
      go_wp2
      go_ret
      exact ⟨rfl, hbel⟩
theorem ColSpec.bads {k : Int} {word : List E} {lost : List Bool} {out : List E} {bad : List Nat} {e : Int} (h : ColSpec k word lost out bad e) : ∀ x ∈ bad, x ≤ 1000000000 := by
  rcases h with ⟨h1, rfl, rfl, rfl⟩ | ⟨h1, h2, rfl, rfl, rfl⟩ | ⟨h1, h2, h3, rfl, rfl, rfl⟩ | ⟨h1, h2, p, h3, rfl, rfl, rfl⟩
  · intro x hx; cases hx
  · intro x hx; cases hx
  · intro x hx; cases hx
  · intro x hx
    have := there_mem (List.mem_filter.1 hx).1
    have h4 := h1.2.2.1
    have h5 := h1.2.2.2
    omega
theorem ColSpec.wf {k : Int} {word : List E} {lost : List Bool} {out : List E} {bad : List Nat} {e : Int} (h : ColSpec k word lost out bad e) : (Lit.int .i64 e).wf = true := by
  rcases h.small.2.2 with rfl | rfl | rfl | rfl <;> rfl
end Go.Proofs.Ytemnlcfabaocbaa
/-
  Layer 5, rows: how long they are, which are lost; a column of them.
-/
namespace Go.Proofs.Ytemnlcfabaocbaa
open Go.RowKit Gf
set_option maxRecDepth 20000
set_option linter.unusedVariables false

/-- A row filled as far as k, with d behind. -/
def half (l : List Value) (d : Value) (k : Nat) : List Value := l.take k ++ List.replicate (l.length - k) d
theorem half_length (l : List Value) (d : Value) (k : Nat) (h : k ≤ l.length) : (half l d k).length = l.length := by simp [half]; omega
theorem half_zero (l : List Value) (d : Value) : half l d 0 = List.replicate l.length d := by simp [half]
theorem half_done (l : List Value) (d : Value) : half l d l.length = l := by simp [half]
theorem half_step (l : List Value) (d : Value) (k : Nat) (h : k < l.length) : (half l d k).set k l[k] = half l d (k + 1) := by
  unfold half
  have e : (l.take k).length = k := by simp; omega
  rw [show l.length - k = (l.length - (k + 1)) + 1 by omega, List.replicate_succ, List.set_append_right _ _ (by omega), e, Nat.sub_self, List.set_cons_zero, ← List.take_append_getElem h, List.append_assoc]
  rfl
theorem half_skip (l : List Value) (d : Value) (k : Nat) (h : k < l.length) (hd : l[k] = d) : half l d (k + 1) = half l d k := by
  unfold half
  rw [show l.length - k = (l.length - (k + 1)) + 1 by omega, List.replicate_succ, ← List.take_append_getElem h, List.append_assoc, hd]
  rfl
structure Half (w : World) (g : Nat) (T : TypeId) (l : List Value) (d : Value) (k : Nat) : Prop where
  blk : ∃ cs, Blk w g T cs ∧ cs.toList = half l d k
theorem Half.start (w : World) (T : TypeId) (l : List Value) (d : Value) (n : Nat) (hn : l.length = n) : Half (w.alloc (.cells (zrow d n) T)) w.heap.size T l d 0 := ⟨_, Blk.new w T (zrow d n), by rw [zrow_list, half_zero, hn]⟩
theorem Half.frozen {w : World} {g k : Nat} {T : TypeId} {l : List Value} {d : Value} (h : Half w g T l d k) (i : Nat) : w.frozen? ⟨g, i, none⟩ = false := by obtain ⟨cs, hb, _⟩ := h.blk; exact hb.frozen i
theorem Half.some_ {w : World} {g k : Nat} {T : TypeId} {l : List Value} {d : Value} (h : Half w g T l d k) (hk : k ≤ l.length) {i : Nat} (hi : i < l.length) : ∃ u, w.cell? ⟨g, i, none⟩ = some u := by
  obtain ⟨cs, hb, hs⟩ := h.blk
  have : cs.size = l.length := by rw [← half_length l d k hk, ← hs]; rfl
  exact ⟨cs[i], by rw [hb.cell i]; exact Array.getElem?_eq_getElem (by omega)⟩
theorem Half.step {w : World} {g k : Nat} {T : TypeId} {l : List Value} {d : Value} (h : Half w g T l d k) (hk : k < l.length) {u : Value} (hu : l[k]? = some u) : Half (w.setCell ⟨g, k, none⟩ u) g T l d (k + 1) := by
  obtain ⟨cs, hb, hs⟩ := h.blk
  obtain rfl : l[k] = u := by rw [List.getElem?_eq_getElem hk] at hu; exact Option.some.inj hu
  exact ⟨_, hb.set_ k _, by rw [Array.toList_setIfInBounds, hs, half_step l d k hk]⟩
theorem Half.skip {w : World} {g k : Nat} {T : TypeId} {l : List Value} {d : Value} (h : Half w g T l d k) (hk : k < l.length) (hd : l[k]? = some d) : Half w g T l d (k + 1) := by
  obtain ⟨cs, hb, hs⟩ := h.blk
  have e : l[k] = d := by rw [List.getElem?_eq_getElem hk] at hd; exact Option.some.inj hd
  exact ⟨cs, hb, by rw [hs, half_skip l d k hk e]⟩
theorem Half.done {w : World} {g n B : Nat} {T : TypeId} {l : List Value} {d : Value} (h : Half w g T l d n) (hl : l.length = n) (hB : B ≤ g) (hm : n ≤ maxLen) : Own w B T (.slice (some ⟨g, 0, none⟩) n n) l := by
  obtain ⟨cs, hb, hs⟩ := h.blk
  subst hl
  rw [half_done] at hs
  have := hb.own (B := B) (n := l.length) (cap := l.length) hB (Nat.le_refl _) hm (by rw [← hs]; rfl)
  rwa [hs, List.take_length] at this

/-- Which rows are lost. -/
def lostL (rs : List (List E)) : List Bool := rs.map fun r => decide (r.length = 0)
theorem lostL_length (rs : List (List E)) : (lostL rs).length = rs.length := List.length_map _
/-- The rows are of one length, L: 0 where all are empty. -/
def Meas (rs : List (List E)) (L : Nat) : Prop := (∀ r ∈ rs, r.length = 0 ∨ r.length = L) ∧ (L = 0 ∨ ∃ r ∈ rs, r.length = L)
theorem Meas.uniq {rs : List (List E)} {L M : Nat} (h : Meas rs L) (k : Meas rs M) : L = M := by
  rcases h with ⟨h1, rfl | ⟨r, hr, hl⟩⟩
  · rcases k with ⟨k1, rfl | ⟨s, hs, hm⟩⟩
    · rfl
    · have := h1 s hs; omega
  · rcases k with ⟨k1, rfl | ⟨s, hs, hm⟩⟩
    · have := k1 r hr; omega
    · have := k1 r hr; have := h1 s hs; omega
theorem meas_skip {rs : List (List E)} {L k : Nat} (h : Meas (rs.take k) L) (hk : k < rs.length) (h0 : rs[k].length = 0) : Meas (rs.take (k + 1)) L := by
  rw [← List.take_append_getElem hk]
  refine ⟨fun r hr => ?_, ?_⟩
  · rcases List.mem_append.1 hr with hr | hr
    · exact h.1 r hr
    · obtain rfl := List.mem_singleton.1 hr; exact .inl h0
  · rcases h.2 with h2 | ⟨r, hr, hl⟩
    · exact .inl h2
    · exact .inr ⟨r, List.mem_append_left _ hr, hl⟩
theorem meas_put {rs : List (List E)} {L k : Nat} (h : Meas (rs.take k) L) (hk : k < rs.length) (h0 : L = 0 ∨ rs[k].length = L) : Meas (rs.take (k + 1)) rs[k].length := by
  rw [← List.take_append_getElem hk]
  refine ⟨fun r hr => ?_, .inr ⟨rs[k], List.mem_append_right _ (List.mem_singleton.2 rfl), rfl⟩⟩
  rcases List.mem_append.1 hr with hr | hr
  · rcases h.1 r hr with h1 | h1 <;> omega
  · obtain rfl := List.mem_singleton.1 hr; exact .inr rfl
theorem meas_bad {rs : List (List E)} {L k : Nat} (h : Meas (rs.take k) L) (hk : k < rs.length) (h0 : L ≠ 0) (h1 : rs[k].length ≠ 0) (h2 : rs[k].length ≠ L) (M : Nat) : ¬ Meas rs M := by
  rintro ⟨k1, -⟩
  rcases h.2 with h3 | ⟨r, hr, hl⟩
  · exact h0 h3
  · have := k1 r (List.mem_of_mem_take hr)
    have := k1 rs[k] (List.getElem_mem hk)
    omega
/-- What a column of the rows holds; nothing at the lost ones. -/
def colL (rs : List (List E)) (c : Nat) : List E := rs.map fun r => r.getD c 0
theorem colL_length (rs : List (List E)) (c : Nat) : (colL rs c).length = rs.length := List.length_map _

set_option maxHeartbeats 1000000 in
theorem colRow_n (A : Option Addr) (N ca c : Nat) (rs : List (List E)) (w : World) (hN : rs.length = N) (hr : RdRows w A rs) (hlen : N ≤ 1000000) (hl : ∀ r ∈ rs, r.length = 0 ∨ c < r.length) (hb : ∀ r ∈ rs, r.length ≤ 9000000000000000000) :
    Calls Try.prog 109 #[.slice A N ca, .int .i64 (c : Int)] w fun e w' => ∃ v, e = .returned v ∧ Own w' w.heap.size 34 v (bs (colL rs c)) ∧ Ext w w' := by
  have HN := Lib.hid hN
  have HL := Lib.hid hl
  have HB := Lib.hid hb
  clear hN hl hb
  have hmo : Try.prog.follows Departure.mixedOrders = true := by kernel_rfl
  have hwd : Fence.wide.depth = none := rfl
  have hwf : ∀ f, Fence.wide.fn f := fun _ => trivial
  have hmk : ∀ w, (Instr.makeSlice 26 (.int .i64 (N : Int)) (.int .i64 (N : Int))).run Try.prog w = .ok (.slice (some ⟨w.heap.size, 0, none⟩) N N) (w.alloc (.cells (zrow (.int .u8 0) N) 34)) := fun w => run_make_elt eltEl _ _ N (by omega) w
  have H0 := Lib.hid (And.intro ((Ext.refl w).alloc (.cells (zrow (.int .u8 0) N) 34)) (Half.start w 34 (bs (colL rs c)) (.int .u8 0) N (by rw [bs_length, colL_length, HN.out])))
  go_enter Try.func109, Try.ntmps109
  go_wp2_with fail
  go_loopw [13] (fun i wr => ∃ k : Nat, k ≤ N ∧ i = .int .i64 k ∧ Ext w wr ∧ Half wr w.heap.size 34 (bs (colL rs c)) (.int .u8 0) k) (fun i _ => N - (intOf i).toNat)
  case atStart => exact ⟨0, by omega, rfl, H0.out.1, H0.out.2⟩
  case round =>
    clear H0
    obtain ⟨W, rfl⟩ : ∃ W, W = wr := ⟨_, rfl⟩
    obtain ⟨k, hk, rfl, hx, hf⟩ := hrel
    by_cases hlt : k < N
    · have hkl : k < rs.length := by rw [HN.out]; exact hlt
      obtain ⟨ad, B1, c1, rfl, hc1, hr1, -, -⟩ := (hr.ext hx).at_ hkl
      have hcl : (colL rs c)[k]? = some (rs[k].getD c 0) := by simp [colL, hkl]
      have hbl : k < (bs (colL rs c)).length := by rw [bs_length, colL_length]; exact hkl
      have hv : (bs (colL rs c))[k]? = some (.int .u8 ((rs[k].getD c 0).val : Int)) := by
        rw [bs_get _ _ (by rw [colL_length]; exact hkl)]
        simp [colL]
      have HV := Lib.hid hv
      have f1 := hf.frozen k
      obtain ⟨u1, hu1⟩ := hf.some_ (by omega) hbl
      have hlk := HB.out rs[k] (List.getElem_mem hkl)
      by_cases h0 : rs[k].length = 0
      · have hg : decide ((rs[k].length : Int) > 0) = false := decide_eq_false (by omega)
        have hz : (rs[k].getD c 0).val = 0 := by
          rw [List.getD_eq_getElem?_getD, List.getElem?_eq_none (by omega)]
          rfl
        rw [hz] at hv
        have HF := Lib.hid (hf.skip hbl hv)
        have HX := Lib.hid hx
        have h0' : (rs[k].length : Int) = 0 := by omega
        clear hx hf hv hz hg
        rw [h0] at hc1
        go_wp2_with fail
        go_roundw
        case rel => exact ⟨k + 1, by omega, by go_num, HX.out, HF.out⟩
        case measure => simp [intOf]; omega
      · have hcr : c < rs[k].length := by rcases HL.out rs[k] (List.getElem_mem hkl) with h | h <;> omega
        obtain ⟨bd, rfl, hc2⟩ := hr1.byte hcr
        have hge : rs[k].getD c 0 = rs[k][c] := by rw [List.getD_eq_getElem?_getD, List.getElem?_eq_getElem hcr]; rfl
        rw [hge] at hv
        have HF := Lib.hid (hf.step hbl hv)
        have HX := Lib.hid (hx.new (p := ⟨w.heap.size, k, none⟩) (Nat.le_refl _) (.int .u8 ((rs[k][c]).val : Int)))
        have hg : decide ((0 : Int) < (rs[k].length : Int)) = true := decide_eq_true (by omega)
        have hl0 : (0 : Int) ≤ (c : Int) := by omega
        have hl1 : (c : Int) < (rs[k].length : Int) := by omega
        have hkk : (k : Int) < (N : Int) := by omega
        have hvl := (rs[k][c]).lt
        clear hx hf hv hge
        go_wp2_with fail
        go_roundw
        case rel => exact ⟨k + 1, by omega, by go_num, HX.out, HF.out⟩
        case measure => simp [intOf]; omega
    · obtain rfl : k = N := by omega
      have HO := Lib.hid (hf.done (B := w.heap.size) (by rw [bs_length, colL_length, HN.out]) (Nat.le_refl _) (by simp only [maxLen]; omega))
      go_wp2
      go_ret
      exact ⟨_, rfl, HO.out, hx⟩
/-- What measure answers. -/
def MeasOut (rs : List (List E)) (w : World) (e : Ending) (w' : World) : Prop :=
  (∃ L v, e = .returned (.tuple #[v, .int .i64 ((L : Nat) : Int), .int .i64 0]) ∧ Meas rs L ∧ Own w' w.heap.size 4 v (bools (lostL rs)) ∧ Ext w w') ∨
  (e = .returned (.tuple #[.slice none 0 0, .int .i64 0, .int .i64 41]) ∧ (∀ L, ¬ Meas rs L) ∧ Ext w w')
set_option maxHeartbeats 2000000 in
theorem measure_n (A : Option Addr) (N ca : Nat) (rs : List (List E)) (w : World) (hN : rs.length = N) (hr : RdRows w A rs) (hlen : N ≤ 1000000) (hb : ∀ r ∈ rs, r.length ≤ 9000000000000000000) :
    Calls Try.prog 107 #[.slice A N ca] w (MeasOut rs w) := by
  have HN := Lib.hid hN
  have HB := Lib.hid hb
  clear hN hb
  have hmk : ∀ w, (Instr.makeSlice 67 (.int .i64 (N : Int)) (.int .i64 (N : Int))).run Try.prog w = .ok (.slice (some ⟨w.heap.size, 0, none⟩) N N) (w.alloc (.cells (zrow (.bool false) N) 4)) := fun w => run_make_elt eltBool _ _ N (by omega) w
  have H0 := Lib.hid (And.intro ((Ext.refl w).alloc (.cells (zrow (.bool false) N) 4)) (Half.start w 4 (bools (lostL rs)) (.bool false) N (by rw [bools_length, lostL_length, HN.out])))
  go_enter Try.func107, Try.ntmps107
  go_wp2_with fail
  go_loopw [6, 14] (fun l i wr => ∃ k L : Nat, k ≤ N ∧ i = .int .i64 k ∧ l = .int .i64 L ∧ L ≤ 9000000000000000000 ∧ Meas (rs.take k) L ∧ Ext w wr ∧ Half wr w.heap.size 4 (bools (lostL rs)) (.bool false) k) (fun _ i _ => N - (intOf i).toNat)
  case atStart => exact ⟨0, 0, by omega, rfl, rfl, by omega, ⟨fun r hr => by simp at hr, .inl rfl⟩, H0.out.1, H0.out.2⟩
  case round =>
    clear H0
    obtain ⟨W, rfl⟩ : ∃ W, W = wr := ⟨_, rfl⟩
    obtain ⟨k, L, hk, rfl, rfl, hL, hm, hx, hf⟩ := hrel
    by_cases hlt : k < N
    · have hkl : k < rs.length := by rw [HN.out]; exact hlt
      obtain ⟨ad, B1, c1, rfl, hc1, -, -, -⟩ := (hr.ext hx).at_ hkl
      have hbl : k < (bools (lostL rs)).length := by rw [bools_length, lostL_length]; exact hkl
      have hv : (bools (lostL rs))[k]? = some (.bool (decide (rs[k].length = 0))) := by
        rw [bools_get _ _ (by rw [lostL_length]; exact hkl)]
        simp [lostL]
      have f1 := hf.frozen k
      obtain ⟨u1, hu1⟩ := hf.some_ (by omega) hbl
      have hlk := HB.out rs[k] (List.getElem_mem hkl)
      have hkk : (k : Int) < (N : Int) := by omega
      by_cases h0 : rs[k].length = 0
      · rw [decide_eq_true h0] at hv
        have HF := Lib.hid (hf.step hbl hv)
        have HX := Lib.hid (hx.new (p := ⟨w.heap.size, k, none⟩) (Nat.le_refl _) (.bool true))
        have HM := Lib.hid (meas_skip hm hkl h0)
        clear hx hf hv hm
        rw [h0] at hc1
        go_wp2_with fail
        go_roundw
        case rel => exact ⟨k + 1, L, by omega, by go_num, rfl, hL, HM.out, HX.out, HF.out⟩
        case measure => simp [intOf]; omega
      · rw [decide_eq_false h0] at hv
        have HF := Lib.hid (hf.skip hbl hv)
        have HX := Lib.hid hx
        have g0 : ((rs[k].length : Int) == 0) = false := by rw [beq_eq_false_iff_ne]; omega
        by_cases hL0 : L = 0
        · subst hL0
          have HM := Lib.hid (meas_put hm hkl (.inl rfl))
          clear hx hf hv hm
          go_wp2_with fail
          go_roundw
          case rel => exact ⟨k + 1, rs[k].length, by omega, by go_num, rfl, hlk, HM.out, HX.out, HF.out⟩
          case measure => simp [intOf]; omega
        · have g1 : ((L : Int) != 0) = true := by rw [bne_iff_ne]; omega
          by_cases hLe : rs[k].length = L
          · have HM : Hid (Meas (rs.take (k + 1)) L) := Lib.hid (by have := meas_put hm hkl (.inr hLe); rwa [hLe] at this)
            have g2 : ((rs[k].length : Int) != (L : Int)) = false := by rw [bne_eq_false_iff_eq]; omega
            clear hx hf hv hm
            go_wp2_with fail
            go_roundw
            case rel => exact ⟨k + 1, L, by omega, by go_num, rfl, hL, HM.out, HX.out, HF.out⟩
            case measure => simp [intOf]; omega
          · have HM := Lib.hid (meas_bad hm hkl hL0 h0 hLe)
            have g2 : ((rs[k].length : Int) != (L : Int)) = true := by rw [bne_iff_ne]; omega
            clear hx hf hv hm
            go_wp2_with fail
            go_ret3
            exact .inr ⟨rfl, HM.out, HX.out⟩
    · obtain rfl : k = N := by omega
      have HO := Lib.hid (hf.done (B := w.heap.size) (by rw [bools_length, lostL_length, HN.out]) (Nat.le_refl _) (by simp only [maxLen]; omega))
      rw [List.take_of_length_le (by rw [HN.out]; omega)] at hm
      go_wp2
      go_ret3
      exact .inl ⟨L, _, rfl, hm, HO.out, hx⟩
end Go.Proofs.Ytemnlcfabaocbaa
/-
  Chapter 5, plain: the polynomial through values as a sum of weights; a straight column.
-/
namespace Go.Proofs.Ytemnlcfabaocbaa
open Go.RowKit Gf
set_option maxRecDepth 20000
set_option linter.unusedVariables false

/-- The product of what x differs by from these. -/
def pr (l : List E) (x : E) : E := l.foldl (fun s b => s * (x + b)) 1
theorem pr_snoc (l : List E) (b x : E) : pr (l ++ [b]) x = pr l x * (x + b) := by simp [pr]
theorem foldl_pull (x : E) : ∀ (l : List E) (c : E), l.foldl (fun s b => s * (x + b)) c = c * pr l x
  | [], c => (E.mul_one c).symm
  | b :: l, c => by
    show l.foldl (fun s b => s * (x + b)) (c * (x + b)) = c * l.foldl (fun s b => s * (x + b)) (1 * (x + b))
    rw [foldl_pull x l, foldl_pull x l (1 * (x + b)), E.one_mul, E.mul_assoc]
theorem pr_cons (l : List E) (b x : E) : pr (b :: l) x = (x + b) * pr l x := by
  show l.foldl (fun s b => s * (x + b)) (1 * (x + b)) = _
  rw [foldl_pull, E.one_mul]
theorem pr_ne {l : List E} {x : E} (h : x ∉ l) : pr l x ≠ 0 := by
  induction l with
  | nil => exact E.one_ne_zero
  | cons b l ih =>
    rw [pr_cons]
    intro hz
    rcases E.mul_eq_zero.1 hz with h1 | h1
    · exact h (by rw [E.add_eq_zero.1 h1]; exact List.mem_cons_self)
    · exact ih (fun hm => h (List.mem_cons_of_mem _ hm)) h1
theorem pr_zero {l : List E} {x : E} (h : x ∈ l) : pr l x = 0 := by
  induction l with
  | nil => cases h
  | cons b l ih =>
    rw [pr_cons]
    rcases List.mem_cons.1 h with rfl | h1
    · rw [E.add_self, E.zero_mul]
    · rw [ih h1, E.mul_zero]
/-- All but one. -/
def less (l : List E) (a : E) : List E := l.filter fun b => !decide (b = a)
theorem less_length {l : List E} {a : E} (hn : l.Nodup) (ha : a ∈ l) : (less l a).length + 1 = l.length := by
  induction l with
  | nil => cases ha
  | cons b l ih =>
    obtain ⟨h1, h2⟩ := List.nodup_cons.1 hn
    by_cases e : b = a
    · subst e
      have : less (b :: l) b = l := by
        rw [less, List.filter_cons_of_neg (by simp)]
        exact List.filter_eq_self.2 fun x hx => by
          have : x ≠ b := fun e => h1 (e ▸ hx)
          simp [this]
      rw [this]; rfl
    · have : less (b :: l) a = b :: less l a := by rw [less, List.filter_cons_of_pos (by simp [e])]; rfl
      rw [this, List.length_cons, ih h2 (by rcases List.mem_cons.1 ha with h | h; exact absurd h.symm e; exact h), List.length_cons]
theorem pr_less {l : List E} {a : E} (hn : l.Nodup) (ha : a ∈ l) (x : E) : pr l x = (x + a) * pr (less l a) x := by
  induction l with
  | nil => cases ha
  | cons b l ih =>
    obtain ⟨h1, h2⟩ := List.nodup_cons.1 hn
    by_cases e : b = a
    · subst e
      have : less (b :: l) b = l := by
        rw [less, List.filter_cons_of_neg (by simp)]
        exact List.filter_eq_self.2 fun x hx => by
          have : x ≠ b := fun e => h1 (e ▸ hx)
          simp [this]
      rw [this, pr_cons]
    · have : less (b :: l) a = b :: less l a := by rw [less, List.filter_cons_of_pos (by simp [e])]; rfl
      rw [this, pr_cons, pr_cons, ih h2 (by rcases List.mem_cons.1 ha with h | h; exact absurd h.symm e; exact h), E.mul_left_comm]
theorem evL_pr (x : E) (l : List E) : evL (vanishL l) x = pr l x := by
  have : ∀ k, k ≤ l.length → evL (vanishL (l.take k)) x = pr (l.take k) x := by
    intro k
    induction k with
    | zero => intro _; show evL [1] x = 1; rw [evL_cons, evL_nil, E.mul_zero, E.add_zero]
    | succ k ih =>
      intro hk
      rw [vanishL_take l k (by omega), evL_times, ih (by omega), ← List.take_append_getElem (show k < l.length by omega), pr_snoc, evL_lin, E.add_comm x]
  have := this l.length (Nat.le_refl _)
  rwa [List.take_length] at this
theorem not_less (l : List E) (a : E) : a ∉ less l a := fun h => by
  have := (List.mem_filter.1 h).2
  simp at this
/-- How the value at place j of these makes the one at x. -/
def wgt (pts : List E) (x : E) (j : Nat) : E := pr (less pts (pts.getD j 0)) x * E.inv (pr (less pts (pts.getD j 0)) (pts.getD j 0))
theorem lagrange {pts : List E} (hn : pts.Nodup) (vals : List E) : ∀ j, j ≤ pts.length → ∃ f : List E, f.length = pts.length ∧ (∀ i, i < pts.length → evL f (pts.getD i 0) = if i < j then vals.getD i 0 else 0) ∧ ∀ x, evL f x = sumN j (fun i => wgt pts x i * vals.getD i 0)
  | 0, _ => ⟨List.replicate pts.length 0, by simp, fun i hi => by
      rw [if_neg (by omega)]
      exact (evL_ser (a := List.replicate pts.length 0) (b := []) (funext fun i => by simp [ser, List.getElem?_replicate]; split <;> rfl) _).trans (evL_nil _), fun x => (evL_ser (a := List.replicate pts.length 0) (b := []) (funext fun i => by simp [ser, List.getElem?_replicate]; split <;> rfl) _).trans (evL_nil _)⟩
  | j + 1, hj => by
    obtain ⟨f, h1, h2, h3⟩ := lagrange hn vals j (by omega)
    have hjp : j < pts.length := by omega
    have hg : ∀ i (hi : i < pts.length), pts.getD i 0 = pts[i] := fun i hi => by rw [List.getD_eq_getElem?_getD, List.getElem?_eq_getElem hi]; rfl
    have hmem : pts.getD j 0 ∈ pts := by rw [hg j hjp]; exact List.getElem_mem hjp
    have hl : (vanishL (less pts (pts.getD j 0))).length = f.length := by rw [vanish_length, less_length hn hmem, h1]
    have hne : pr (less pts (pts.getD j 0)) (pts.getD j 0) ≠ 0 := pr_ne (not_less _ _)
    refine ⟨elimR (vals.getD j 0 * E.inv (pr (less pts (pts.getD j 0)) (pts.getD j 0))) f (vanishL (less pts (pts.getD j 0))), by rw [elimR_length hl, h1], fun i hi => ?_, fun x => ?_⟩
    · rw [evL_elim hl, h2 i hi, evL_pr]
      by_cases e : i = j
      · subst e
        rw [if_neg (Nat.lt_irrefl _), if_pos (Nat.lt_succ_self _), E.zero_add, E.mul_assoc, E.inv_mul hne, E.mul_one]
      · have hin : pts.getD i 0 ∈ less pts (pts.getD j 0) := by
          rw [less, List.mem_filter, hg i hi, hg j hjp]
          refine ⟨List.getElem_mem hi, ?_⟩
          have : pts[i] ≠ pts[j] := fun h => e ((List.getElem_inj hn).1 h)
          simp [this]
        rw [pr_zero hin, E.mul_zero, E.add_zero]
        by_cases h4 : i < j
        · rw [if_pos h4, if_pos (by omega)]
        · rw [if_neg h4, if_neg (by omega)]
    · rw [evL_elim hl, h3 x, sumN, evL_pr]
      congr 1
      rw [wgt, E.mul_comm (pr (less pts (pts.getD j 0)) x), E.mul_comm (vals.getD j 0), E.mul_assoc, E.mul_assoc, E.mul_comm (vals.getD j 0)]
theorem wgt_off {pts : List E} (hn : pts.Nodup) {x : E} (hx : x ∉ pts) {j : Nat} (hj : j < pts.length) : pr pts x * E.inv ((x + pts.getD j 0) * pr (less pts (pts.getD j 0)) (pts.getD j 0)) = wgt pts x j := by
  have hg : pts.getD j 0 = pts[j] := by rw [List.getD_eq_getElem?_getD, List.getElem?_eq_getElem hj]; rfl
  have hmem : pts.getD j 0 ∈ pts := by rw [hg]; exact List.getElem_mem hj
  rw [wgt, pr_less hn hmem x]
  generalize pts.getD j 0 = a at *
  have h1 : x + a ≠ 0 := fun h => hx (by rw [E.add_eq_zero.1 h]; exact hmem)
  have h2 : pr (less pts a) a ≠ 0 := pr_ne (not_less _ _)
  have h3 : E.inv ((x + a) * pr (less pts a) a) = E.inv (x + a) * E.inv (pr (less pts a) a) := (E.inv_eq (by
    rw [E.mul_assoc, E.mul_left_comm (pr (less pts a) a), ← E.mul_assoc, E.mul_inv h1, E.one_mul, E.mul_inv h2])).symm
  rw [h3, E.mul_comm (x + a), E.mul_assoc, ← E.mul_assoc (x + a), E.mul_inv h1, E.one_mul]
theorem wgt_own {pts : List E} (hn : pts.Nodup) {i j : Nat} (hi : i < pts.length) (hj : j < pts.length) : wgt pts (pts.getD i 0) j = if j = i then 1 else 0 := by
  have hg : ∀ i (hi : i < pts.length), pts.getD i 0 = pts[i] := fun i hi => by rw [List.getD_eq_getElem?_getD, List.getElem?_eq_getElem hi]; rfl
  rw [wgt]
  by_cases e : j = i
  · subst e
    rw [if_pos rfl, E.mul_inv (pr_ne (not_less _ _))]
  · have hin : pts.getD i 0 ∈ less pts (pts.getD j 0) := by
      rw [less, List.mem_filter, hg i hi, hg j hj]
      refine ⟨List.getElem_mem hi, ?_⟩
      have : pts[i] ≠ pts[j] := fun h => e ((List.getElem_inj hn).1 h).symm
      simp [this]
    rw [if_neg e, pr_zero hin, E.zero_mul]
/-- The values at the first k places that are there make a polynomial; where it goes through the others too, the word is straight. -/
theorem straight_col {k : Nat} {word : List E} {lost : List Bool} (hg : GoodK (k : Int) word lost) (hk : k ≤ (thereL lost).length) {f : List E} (hf : f.length = k)
    (h1 : ∀ i ∈ thereL lost, evL f (E.of i) = word.getD i 0) : ColSpec (k : Int) word lost (colTo f word.length) [] 0 := by
  refine .inr (.inr (.inr ⟨hg, by omega, f, ?_, rfl, ?_, rfl⟩))
  · refine near_straight (by have := dg_le f; rw [Int.toNat_natCast]; omega) (by rw [pts_length, Int.toNat_natCast]; exact hk) (by rw [vals_length, pts_length]) fun i hi => ?_
    have hi' : i < (thereL lost).length := by rw [pts_length] at hi; exact hi
    have := h1 _ (List.getElem_mem hi')
    simpa [ptsL, valsL] using this
  · symm
    rw [badAt, List.filter_eq_nil_iff]
    intro i hi
    simp only [h1 i hi]
    simp
end Go.Proofs.Ytemnlcfabaocbaa
/-
  Layer 5: the weights.
-/
namespace Go.Proofs.Ytemnlcfabaocbaa
open Go.RowKit Gf
set_option maxRecDepth 20000
set_option linter.unusedVariables false

def lowL (pts : List E) : List E := pts.map fun a => pr (less pts a) a
theorem lowL_length (pts : List E) : (lowL pts).length = pts.length := List.length_map _
theorem less_yes {l : List E} {k : Nat} (hk : k < l.length) {a : E} (h : l[k] ≠ a) : less (l.take (k + 1)) a = less (l.take k) a ++ [l[k]] := by
  rw [← List.take_append_getElem hk, less, List.filter_append, List.filter_cons_of_pos (by simp [h]), List.filter_nil]; rfl
theorem less_no {l : List E} {k : Nat} (hk : k < l.length) {a : E} (h : l[k] = a) : less (l.take (k + 1)) a = less (l.take k) a := by
  rw [← List.take_append_getElem hk, less, List.filter_append, List.filter_cons_of_neg (by simp [h]), List.filter_nil, List.append_nil]; rfl
theorem ofXor {a b : Nat} (ha : a < 256) (hb : b < 256) : E.of (a ^^^ b) = E.of a + E.of b := E.ext (by
  show (E.of (a ^^^ b)).val = (E.of a).val ^^^ (E.of b).val
  rw [E.val_of (xor_lt ha hb), E.val_of ha, E.val_of hb])
theorem xorE {a b : Nat} (ha : a < 256) (hb : b < 256) : ((a ^^^ b : Nat) : Int) = ((E.of a + E.of b).val : Int) := by
  rw [← ofXor ha hb, E.val_of (xor_lt ha hb)]

def wrow (pts : List E) (m i : Nat) : List E := (List.range m).map fun j => wgt pts (E.of i) j
theorem wrow_length (pts : List E) (m i : Nat) : (wrow pts m i).length = m := by simp [wrow]
theorem wrow_get (pts : List E) (m i j : Nat) (h : j < (wrow pts m i).length) : (wrow pts m i)[j] = wgt pts (E.of i) j := by simp [wrow]
def rowsV (b m N : Nat) : List Value := (List.range N).map fun i => .slice (some ⟨b + i, 0, none⟩) m m
theorem rowsV_length (b m N : Nat) : (rowsV b m N).length = N := by simp [rowsV]
theorem rowsV_get (b m N i : Nat) (h : i < N) : (rowsV b m N)[i]? = some (.slice (some ⟨b + i, 0, none⟩) m m) := by simp [rowsV, h]
structure WSt (w wr : World) (pts : List E) (N m i l : Nat) : Prop where
  ext : Ext w wr
  low : Own wr w.heap.size 34 (.slice (some ⟨w.heap.size, 0, none⟩) m m) (bs (lowL pts))
  list : Own wr w.heap.size 26 (.slice (some ⟨w.heap.size + 1, 0, none⟩) N N) (half (rowsV (w.heap.size + 2) m N) (.slice none 0 0) l)
  rows : ∀ i', i' < i → Own wr w.heap.size 34 (.slice (some ⟨w.heap.size + 2 + i', 0, none⟩) m m) (bs (wrow pts m i'))
theorem WSt.beyond {w wr w2 : World} {pts : List E} {N m i l : Nat} (h : WSt w wr pts N m i l) (hx : Ext wr w2) : WSt w w2 pts N m i l :=
  ⟨h.ext.trans hx, h.low.ext hx, h.list.ext hx, fun i' hi => (h.rows i' hi).ext hx⟩
theorem WSt.put {w wr : World} {pts : List E} {N m i l j : Nat} (h : WSt w wr pts N m i l) (u : Value) : WSt w (wr.setCell ⟨w.heap.size + 2 + i, j, none⟩ u) pts N m i l :=
  ⟨h.ext.new (p := ⟨w.heap.size + 2 + i, j, none⟩) (by show w.heap.size ≤ w.heap.size + 2 + i; omega) u, h.low.far (p := ⟨w.heap.size + 2 + i, j, none⟩) (by simp only [Value.ownBlock, ne_eq, Option.some.injEq]; omega) u, h.list.far (p := ⟨w.heap.size + 2 + i, j, none⟩) (by simp only [Value.ownBlock, ne_eq, Option.some.injEq]; omega) u, fun i' hi => (h.rows i' hi).far (p := ⟨w.heap.size + 2 + i, j, none⟩) (by simp only [Value.ownBlock, ne_eq, Option.some.injEq]; omega) u⟩
theorem WSt.hang {w wr : World} {pts : List E} {N m i : Nat} (h : WSt w wr pts N m i i) (hi : i < N) : WSt w (wr.setCell ⟨w.heap.size + 1, i, none⟩ (.slice (some ⟨w.heap.size + 2 + i, 0, none⟩) m m)) pts N m i (i + 1) := by
  refine ⟨h.ext.new (p := ⟨w.heap.size + 1, i, none⟩) (by show w.heap.size ≤ w.heap.size + 1; omega) _, h.low.far (p := ⟨w.heap.size + 1, i, none⟩) (by simp only [Value.ownBlock, ne_eq, Option.some.injEq]; omega) _, ?_, fun i' hi => (h.rows i' hi).far (p := ⟨w.heap.size + 1, i, none⟩) (by simp only [Value.ownBlock, ne_eq, Option.some.injEq]; omega) _⟩
  have hl : i < (rowsV (w.heap.size + 2) m N).length := by rw [rowsV_length]; exact hi
  have := h.list.set i (.slice (some ⟨w.heap.size + 2 + i, 0, none⟩) m m)
  have e := half_step (rowsV (w.heap.size + 2) m N) (.slice none 0 0) i hl
  have e2 := rowsV_get (w.heap.size + 2) m N i hi
  rw [List.getElem?_eq_getElem hl] at e2
  rw [Option.some.inj e2] at e
  rwa [e] at this
theorem WSt.row {w wr : World} {pts : List E} {N m i l : Nat} (h : WSt w wr pts N m i l) (hr : Own wr w.heap.size 34 (.slice (some ⟨w.heap.size + 2 + i, 0, none⟩) m m) (bs (wrow pts m i))) : WSt w wr pts N m (i + 1) l :=
  ⟨h.ext, h.low, h.list, fun i' hi => by
    rcases (show i' < i ∨ i' = i by omega) with h1 | rfl
    · exact h.rows i' h1
    · exact hr⟩
theorem own_col {m : Nat} {pts : List E} (hp : pts.length = m) (hn : pts.Nodup) {o i : Nat} (ho : o < m) (hi : pts.getD o 0 = E.of i) : (List.replicate m (.int .u8 0) : List Value).set o (.int .u8 1) = bs (wrow pts m i) := by
  apply List.ext_getElem?
  intro j
  by_cases hj : j < m
  · rw [bs_get _ _ (by rw [wrow_length]; exact hj), wrow_get, ← hi, wgt_own hn (by omega) (by omega), List.getElem?_set]
    by_cases e : o = j
    · subst e; simp [ho]; rfl
    · rw [if_neg e, if_neg (fun h => e h.symm)]; simp [hj]; rfl
  · rw [List.getElem?_eq_none (by simp; omega), List.getElem?_eq_none (by rw [bs_length, wrow_length]; omega)]

set_option maxHeartbeats 4000000 in
theorem weights_n (A : Option Addr) (N m ca : Nat) (ats : List Nat) (w : World) (hm : ats.length = m) (hr : Rd w A (ints ats)) (hN : N ≤ 255) (hmN : m ≤ N) (hnd : ats.Nodup) (hb : ∀ a ∈ ats, a < N) :
    Calls Try.prog 108 #[.int .i64 (N : Int), .slice A m ca] w fun e w' => e = .returned (.slice (some ⟨w.heap.size + 1, 0, none⟩) N N) ∧ WSt w w' (ptsL ats) N m N N := by
  obtain ⟨pts, hpts⟩ : ∃ l, l = ptsL ats := ⟨_, rfl⟩
  rw [← hpts]
  have hpl : pts.length = m := by rw [hpts, pts_length, hm]
  have hpg : ∀ k (h : k < ats.length) (h' : k < pts.length), pts[k] = E.of ats[k] := fun k h h' => by subst hpts; simp [ptsL]
  have hpn : pts.Nodup := by rw [hpts]; exact pts_nodup hnd fun i hi => by have := hb i hi; omega
  have HM := Lib.hid hm
  have HB := Lib.hid hb
  have HND := Lib.hid hnd
  have HP := Lib.hid (And.intro hpl (And.intro hpg hpn))
  clear hm hb hnd hpl hpg hpn hpts
  have hmo : Try.prog.follows Departure.mixedOrders = true := by kernel_rfl
  have hmk : ∀ w, (Instr.makeSlice 26 (.int .i64 (m : Int)) (.int .i64 (m : Int))).run Try.prog w = .ok (.slice (some ⟨w.heap.size, 0, none⟩) m m) (w.alloc (.cells (zrow (.int .u8 0) m) 34)) := fun w => run_make_elt eltEl _ _ m (by omega) w
  have h0 : Own (w.alloc (.cells (zrow (.int .u8 0) m) 34)) w.heap.size 34 (.slice (some ⟨w.heap.size, 0, none⟩) m m) (half (bs (lowL pts)) (.int .u8 0) 0) := by
    have h1 := (Blk.new w 34 (zrow (.int .u8 0) m)).own (B := w.heap.size) (n := m) (cap := m) (Nat.le_refl _) (Nat.le_refl _) (by simp only [maxLen]; omega) (zrow_size _ _)
    rw [zrow_list, List.take_of_length_le (by simp)] at h1
    rw [half_zero, bs_length, lowL_length, HP.out.1]; exact h1
  have H0 := Lib.hid (And.intro ((Ext.refl w).alloc (.cells (zrow (.int .u8 0) m) 34)) h0)
  clear h0
  go_enter Try.func108, Try.ntmps108
  go_wp2_with fail
  go_loopw [23] (fun i wr => ∃ k : Nat, k ≤ m ∧ i = .int .i64 k ∧ Ext w wr ∧ wr.heap.size = w.heap.size + 1 ∧ Own wr w.heap.size 34 (.slice (some ⟨w.heap.size, 0, none⟩) m m) (half (bs (lowL pts)) (.int .u8 0) k)) (fun i _ => m - (intOf i).toNat)
  case atStart => exact ⟨0, by omega, rfl, H0.out.1, by simp, H0.out.2⟩
  case round =>
    clear H0
    obtain ⟨W, rfl⟩ : ∃ W, W = wr := ⟨_, rfl⟩
    obtain ⟨k, hk, rfl, hx, hsz, ho⟩ := hrel
    by_cases hlt : k < m
    · have hkl : k < ats.length := by rw [HM.out]; exact hlt
      have hkp : k < pts.length := by rw [HP.out.1]; exact hlt
      have hll : k < (bs (lowL pts)).length := by rw [bs_length, lowL_length]; exact hkp
      have hhl : k < (half (bs (lowL pts)) (.int .u8 0) k).length := by rw [half_length _ _ _ (by omega)]; exact hll
      obtain ⟨ad, hA, hc1⟩ := (hr.ext hx).at_ (ints_get ats k hkl)
      subst hA
      have hak := HB.out _ (List.getElem_mem hkl)
      obtain ⟨a, ha⟩ : ∃ a, a = ats[k] := ⟨_, rfl⟩
      rw [← ha] at hc1 hak
      have hpa : pts[k] = E.of a := by rw [ha]; exact HP.out.2.1 k hkl hkp
      have HLOW : Hid ((bs (lowL pts))[k]? = some (.int .u8 ((pr (less pts (E.of a)) (E.of a)).val : Int))) := Lib.hid (by rw [bs_get _ _ (by rw [lowL_length]; exact hkp)]; simp [lowL, hpa])
      clear ha hpa
      have f1 := ho.frozen k
      have c1 := ho.cell (List.getElem?_eq_getElem hhl)
      have h1 := ho.set k (.int .u8 1)
      have HX := Lib.hid (hx.new (p := ⟨w.heap.size, k, none⟩) (Nat.le_refl _) (.int .u8 1))
      have HO := Lib.hid h1
      have HSZ := Lib.hid hsz
      have hkm : (k : Int) < (m : Int) := by omega
      clear h1 ho hx hsz
      go_wp2_with fail
      go_loopw [33] (fun i wr => ∃ j : Nat, j ≤ m ∧ i = .int .i64 j ∧ Ext w wr ∧ wr.heap.size = w.heap.size + 1 ∧ Own wr w.heap.size 34 (.slice (some ⟨w.heap.size, 0, none⟩) m m) ((half (bs (lowL pts)) (.int .u8 0) k).set k (.int .u8 ((pr (less (pts.take j) (E.of a)) (E.of a)).val : Int)))) (fun i _ => m - (intOf i).toNat)
      case atStart => exact ⟨0, by omega, rfl, HX.out, by rw [← HSZ.out]; simp, HO.out⟩
      case round =>
        clear HX HO HSZ f1 c1 hc1
        obtain ⟨W2, rfl⟩ : ∃ W, W = wr := ⟨_, rfl⟩
        obtain ⟨j, hj, rfl, hx, hsz, ho⟩ := hrel
        by_cases hlt2 : j < m
        · have hjl : j < ats.length := by rw [HM.out]; exact hlt2
          have hjp : j < pts.length := by rw [HP.out.1]; exact hlt2
          obtain ⟨ad2, hA, hc2⟩ := (hr.ext hx).at_ (ints_get ats j hjl)
          cases hA
          have hbk := HB.out _ (List.getElem_mem hjl)
          have hpb : pts[j] = E.of ats[j] := HP.out.2.1 j hjl hjp
          obtain ⟨b, hb⟩ : ∃ b, b = ats[j] := ⟨_, rfl⟩
          rw [← hb] at hc2 hbk hpb
          clear hb
          have hof : (E.of a).val = a := E.val_of (by omega)
          have hofb : (E.of b).val = b := E.val_of (by omega)
          by_cases he : a = b
          · have g1 : ((a : Int) != (b : Int)) = false := by rw [bne_eq_false_iff_eq]; omega
            have hno := less_no hjp (a := E.of a) (by rw [hpb, he])
            rw [← hno] at ho
            have HO := Lib.hid ho
            have HX := Lib.hid hx
            have HSZ := Lib.hid hsz
            clear ho hx hsz hno
            go_wp2_with fail
            go_roundw
            case rel => exact ⟨j + 1, by omega, by go_num, HX.out, HSZ.out, HO.out⟩
            case measure => simp [intOf]; omega
          · have g1 : ((a : Int) != (b : Int)) = true := by rw [bne_iff_ne]; omega
            have hyes := less_yes hjp (a := E.of a) (by rw [hpb]; intro h; exact he (of_inj (by omega) (by omega) h).symm)
            obtain ⟨cur, hcur⟩ : ∃ c, c = pr (less (pts.take j) (E.of a)) (E.of a) := ⟨_, rfl⟩
            have hnx : pr (less (pts.take (j + 1)) (E.of a)) (E.of a) = cur * (E.of a + E.of b) := by rw [hyes, pr_snoc, hcur, hpb]
            rw [← hcur] at ho
            have c1 := ho.cell (j := k) (List.getElem?_set_self hhl)
            have f1 := ho.frozen k
            have h1 := ho.set k (.int .u8 ((cur * (E.of a + E.of b)).val : Int))
            rw [List.set_set, ← hnx] at h1
            have HX := Lib.hid (hx.new (p := ⟨w.heap.size, k, none⟩) (Nat.le_refl _) (.int .u8 ((pr (less (pts.take (j + 1)) (E.of a)) (E.of a)).val : Int)))
            have HO := Lib.hid h1
            have HSZ := Lib.hid hsz
            have HNX := Lib.hid hnx
            have hxr := xorE (a := a) (b := b) (by omega) (by omega)
            have hxi := bits_i64_xor a b (by omega) (by omega)
            rw [hxr] at hxi
            have HXI := Lib.hid hxi
            have hsl := (E.of a + E.of b).lt
            have hcl := cur.lt
            clear ho hx hsz h1 hyes hnx hxr hxi hcur
            rw [HNX.out] at HX
            have hkm2 : (k : Int) < (m : Int) := by omega
            go_wp2_with (go_at_call 58; with_reducible refine (times_lit _ _ cur (E.of a + E.of b) rfl (by rw [HXI.out]; omega) _).mono ?_; rintro e w' ⟨rfl, rfl⟩)
            rw [HNX.out] at HO
            go_roundw
            case rel => exact ⟨j + 1, by omega, by go_num, HX.out, by rw [← HSZ.out]; simp, by rw [HNX.out]; exact HO.out⟩
            case measure => simp [intOf]; omega
        · obtain rfl : m = j := by omega
          rw [List.take_of_length_le (by rw [HP.out.1]; omega)] at ho
          have HO := Lib.hid ho
          have HX := Lib.hid hx
          have HSZ := Lib.hid hsz
          have HST : Hid ((half (bs (lowL pts)) (.int .u8 0) k).set k (.int .u8 ((pr (less pts (E.of a)) (E.of a)).val : Int)) = half (bs (lowL pts)) (.int .u8 0) (k + 1)) := Lib.hid (by
            rw [← half_step _ _ k hll]
            congr 1
            have := HLOW.out
            rw [List.getElem?_eq_getElem hll] at this
            exact (Option.some.inj this).symm)
          clear ho hx hsz
          go_wp2_with fail
          go_roundw
          case rel => exact ⟨k + 1, by omega, by go_num, HX.out, HSZ.out, by rw [← HST.out]; exact HO.out⟩
          case measure => simp [intOf]; omega
    · obtain rfl : m = k := by omega
      rw [show half (bs (lowL pts)) (.int .u8 0) m = bs (lowL pts) from by have := half_done (bs (lowL pts)) (.int .u8 0); rwa [bs_length, lowL_length, HP.out.1] at this] at ho
      have HO := Lib.hid ho
      have HX := Lib.hid hx
      have HSZ := Lib.hid hsz
      clear ho hx hsz
      have hmk2 : ∀ w, (Instr.makeSlice 93 (.int .i64 (N : Int)) (.int .i64 (N : Int))).run Try.prog w = .ok (.slice (some ⟨w.heap.size, 0, none⟩) N N) (w.alloc (.cells (zrow (.slice none 0 0) N) 26)) := fun w => run_make_elt eltRowEl _ _ N (by omega) w
      have hL : Hid (WSt w (W.alloc (.cells (zrow (.slice none 0 0) N) 26)) pts N m 0 0 ∧ (W.alloc (.cells (zrow (.slice none 0 0) N) 26)).heap.size = w.heap.size + 2) := Lib.hid (by
        have h1 := (Blk.new W 26 (zrow (.slice none 0 0) N)).own (B := w.heap.size) (n := N) (cap := N) (by rw [HSZ.out]; omega) (Nat.le_refl _) (by simp only [maxLen]; omega) (zrow_size _ _)
        rw [zrow_list, List.take_of_length_le (by simp), HSZ.out] at h1
        have e := half_zero (rowsV (w.heap.size + 2) m N) (.slice none 0 0)
        rw [rowsV_length] at e
        refine ⟨⟨HX.out.alloc _, HO.out.alloc _, by rw [e]; exact h1, fun i' h => by omega⟩, by simp [HSZ.out]⟩)
      clear HO HX
      go_wp2_with fail
      rw [HSZ.out]
      clear HSZ
      go_loopw [58] (fun i wr => ∃ k : Nat, k ≤ N ∧ i = .int .i64 k ∧ WSt w wr pts N m k k ∧ wr.heap.size = w.heap.size + 2 + k) (fun i _ => N - (intOf i).toNat)
      case atStart => exact ⟨0, by omega, rfl, hL.out.1, hL.out.2⟩
      case round =>
        clear hL
        obtain ⟨W1, rfl⟩ : ∃ W, W = wr := ⟨_, rfl⟩
        obtain ⟨i, hi, rfl, hst, hsz⟩ := hrel
        by_cases hlt2 : i < N
        · have hst1 := hst.beyond ((Ext.refl W1).alloc (.cells (zrow (.int .u8 0) m) 34))
          have f1 := hst1.list.frozen i
          have hnl : i < (half (rowsV (w.heap.size + 2) m N) (.slice none 0 0) i).length := by rw [half_length _ _ _ (by rw [rowsV_length]; omega), rowsV_length]; exact hlt2
          have c1 := hst1.list.cell (List.getElem?_eq_getElem hnl)
          have hrow := (Blk.new W1 34 (zrow (.int .u8 0) m)).own (B := w.heap.size) (n := m) (cap := m) (by rw [hsz]; omega) (Nat.le_refl _) (by simp only [maxLen]; omega) (zrow_size _ _)
          rw [zrow_list, List.take_of_length_le (by simp), hsz] at hrow
          have hrow2 := hrow.far (p := ⟨w.heap.size + 1, i, none⟩) (by simp only [Value.ownBlock, ne_eq, Option.some.injEq]; omega) (.slice (some ⟨w.heap.size + 2 + i, 0, none⟩) m m)
          have hst2 := hst1.hang hlt2
          have hsz2 : ((W1.alloc (.cells (zrow (.int .u8 0) m) 34)).setCell ⟨w.heap.size + 1, i, none⟩ (.slice (some ⟨w.heap.size + 2 + i, 0, none⟩) m m)).heap.size = w.heap.size + 2 + (i + 1) := by simp [hsz]; omega
          have hiN : (i : Int) < (N : Int) := by omega
          have HS := Lib.hid (And.intro hst2 (And.intro hrow2 hsz2))
          have HSZ := Lib.hid hsz
          clear hst hst1 hst2 hrow hrow2 hsz hsz2
          go_wp2_with fail
          rw [HSZ.out]
          obtain ⟨W3, hW3⟩ : ∃ W, W = (W1.alloc (.cells (zrow (.int .u8 0) m) 34)).setCell ⟨w.heap.size + 1, i, none⟩ (.slice (some ⟨w.heap.size + 2 + i, 0, none⟩) m m) := ⟨_, rfl⟩
          rw [← hW3] at HS ⊢
          clear hW3 HSZ f1 c1
          go_loopw [12, 13, 69] (fun a o i69 wr => ∃ (j : Nat) (O : Value), O = o ∧ j ≤ m ∧ i69 = .int .i64 j ∧ wr = W3 ∧ a = .int .u8 ((pr (less (pts.take j) (E.of i)) (E.of i)).val : Int) ∧ ((O = .int .i64 (-1) ∧ E.of i ∉ pts.take j) ∨ ∃ q : Nat, q < m ∧ O = .int .i64 q ∧ pts.getD q 0 = E.of i)) (fun _ _ i69 _ => m - (intOf i69).toNat)
          case atStart => exact ⟨0, _, rfl, by omega, rfl, rfl, rfl, .inl ⟨rfl, by simp⟩⟩
          case round =>
            obtain ⟨j, O, rfl, hj, rfl, rfl, rfl, hown⟩ := hrel
            have HW := Lib.hid hown
            clear hown
            by_cases hlt3 : j < m
            · have hjl : j < ats.length := by rw [HM.out]; exact hlt3
              have hjp : j < pts.length := by rw [HP.out.1]; exact hlt3
              obtain ⟨ad, rfl, hc2⟩ := (hr.ext HS.out.1.ext).at_ (ints_get ats j hjl)
              have hbk := HB.out _ (List.getElem_mem hjl)
              have hpb : pts[j] = E.of ats[j] := HP.out.2.1 j hjl hjp
              have hgb : pts.getD j 0 = E.of ats[j] := by rw [List.getD_eq_getElem?_getD, List.getElem?_eq_getElem hjp, ← hpb]; rfl
              obtain ⟨b, hb⟩ : ∃ b, b = ats[j] := ⟨_, rfl⟩
              rw [← hb] at hc2 hbk hpb hgb
              clear hb
              by_cases he : b = i
              · have g1 : ((b : Int) == (i : Int)) = true := by rw [beq_iff_eq]; omega
                have HNO := Lib.hid (less_no hjp (a := E.of i) (by rw [hpb, he]))
                have HGB : Hid (pts.getD j 0 = E.of i) := Lib.hid (by rw [hgb, he])
                clear hpb hgb he
                go_wp2_with fail
                go_roundw
                case rel => exact ⟨j + 1, _, rfl, by omega, by go_num, by first | rfl | trivial, by rw [HNO.out], .inr ⟨j, hlt3, rfl, HGB.out⟩⟩
                case measure => simp [intOf]; omega
              · have g1 : ((b : Int) == (i : Int)) = false := by rw [beq_eq_false_iff_ne]; omega
                have hne : pts[j] ≠ E.of i := by rw [hpb]; intro h; exact he (of_inj (by omega) (by omega) h)
                have hyes := less_yes hjp (a := E.of i) hne
                obtain ⟨cur, hcur⟩ : ∃ c, c = pr (less (pts.take j) (E.of i)) (E.of i) := ⟨_, rfl⟩
                have HNX : Hid (pr (less (pts.take (j + 1)) (E.of i)) (E.of i) = cur * (E.of i + E.of b)) := Lib.hid (by rw [hyes, pr_snoc, hcur, hpb])
                rw [← hcur]
                have HW2 : Hid ((O = .int .i64 (-1) ∧ E.of i ∉ pts.take (j + 1)) ∨ ∃ q : Nat, q < m ∧ O = .int .i64 q ∧ pts.getD q 0 = E.of i) := Lib.hid (by
                  rcases HW.out with ⟨h1, h2⟩ | h1
                  · refine .inl ⟨h1, ?_⟩
                    rw [← List.take_append_getElem hjp]
                    intro h
                    rcases List.mem_append.1 h with h | h
                    · exact h2 h
                    · exact hne (List.mem_singleton.1 h).symm
                  · exact .inr h1)
                have hxi := bits_i64_xor i b (by omega) (by omega)
                rw [xorE (a := i) (b := b) (by omega) (by omega)] at hxi
                have HXI := Lib.hid hxi
                have hsl := (E.of i + E.of b).lt
                have hcl := cur.lt
                clear hpb hgb hne hyes hcur hxi
                go_wp2_with (go_at_call 58; with_reducible refine (times_lit _ _ cur (E.of i + E.of b) rfl (by rw [HXI.out]; omega) _).mono ?_; rintro e w' ⟨rfl, rfl⟩)
                go_roundw
                case rel => exact ⟨j + 1, O, rfl, by omega, by go_num, by first | rfl | trivial, by rw [HNX.out], HW2.out⟩
                case measure => simp [intOf]; omega
            · obtain rfl : m = j := by omega
              rw [List.take_of_length_le (by rw [HP.out.1]; omega)] at HW ⊢
              rcases HW.out with ⟨ho1, hno⟩ | ⟨q, hq, ho1, hqi⟩
              · subst ho1
                have hle : less pts (E.of i) = pts := List.filter_eq_self.2 fun x hx => by
                  have : x ≠ E.of i := fun e => hno (e ▸ hx)
                  simp [this]
                rw [hle]
                obtain ⟨al, hal⟩ : ∃ c, c = pr pts (E.of i) := ⟨_, rfl⟩
                rw [← hal]
                have HAL := Lib.hid hal
                have HNO := Lib.hid hno
                have H5 : Hid (Own wr w.heap.size 34 (.slice (some ⟨w.heap.size + 2 + i, 0, none⟩) m m) (half (bs (wrow pts m i)) (.int .u8 0) 0)) := Lib.hid (by
                  rw [half_zero, bs_length, wrow_length]; exact HS.out.2.1)
                have H6 := Lib.hid (And.intro HS.out.1 HS.out.2.2)
                clear hle hal hno HW HS
                go_wp2_with fail
                go_loopw [95] (fun i95 wr => ∃ j : Nat, j ≤ m ∧ i95 = .int .i64 j ∧ WSt w wr pts N m i (i + 1) ∧ wr.heap.size = w.heap.size + 2 + (i + 1) ∧ Own wr w.heap.size 34 (.slice (some ⟨w.heap.size + 2 + i, 0, none⟩) m m) (half (bs (wrow pts m i)) (.int .u8 0) j)) (fun i95 _ => m - (intOf i95).toNat)
                case atStart => exact ⟨0, by omega, rfl, H6.out.1, H6.out.2, H5.out⟩
                case round =>
                  clear H5 H6
                  obtain ⟨W4, rfl⟩ : ∃ W, W = wr := ⟨_, rfl⟩
                  obtain ⟨j, hj, rfl, hs4, hz4, ho4⟩ := hrel
                  have HS4 := Lib.hid hs4
                  have HZ4 := Lib.hid hz4
                  have HO4 := Lib.hid ho4
                  clear hs4 hz4 ho4
                  by_cases hlt4 : j < m
                  · have hjl : j < ats.length := by rw [HM.out]; exact hlt4
                    have hjp : j < pts.length := by rw [HP.out.1]; exact hlt4
                    have hnl : i < (half (rowsV (w.heap.size + 2) m N) (.slice none 0 0) (i + 1)).length := by rw [half_length _ _ _ (by rw [rowsV_length]; omega), rowsV_length]; exact hlt2
                    have c1 := HS4.out.list.cell (j := i) (u := .slice (some ⟨w.heap.size + 2 + i, 0, none⟩) m m) (by
                      rw [half, List.getElem?_append_left (by rw [List.length_take, rowsV_length]; omega), List.getElem?_take, if_pos (by omega), rowsV_get _ _ _ _ hlt2])
                    obtain ⟨ad, rfl, hc2⟩ := (hr.ext HS4.out.ext).at_ (ints_get ats j hjl)
                    have hbk := HB.out _ (List.getElem_mem hjl)
                    have hpb : pts[j] = E.of ats[j] := HP.out.2.1 j hjl hjp
                    have hgb : pts.getD j 0 = E.of ats[j] := by rw [List.getD_eq_getElem?_getD, List.getElem?_eq_getElem hjp, ← hpb]; rfl
                    obtain ⟨b, hb⟩ : ∃ b, b = ats[j] := ⟨_, rfl⟩
                    rw [← hb] at hc2 hbk hpb hgb
                    clear hb
                    obtain ⟨lo, hlo⟩ : ∃ l, l = pr (less pts (E.of b)) (E.of b) := ⟨_, rfl⟩
                    have hlc : (bs (lowL pts))[j]? = some (.int .u8 (lo.val : Int)) := by
                      rw [bs_get _ _ (by rw [lowL_length]; exact hjp)]
                      simp [lowL, hpb, hlo]
                    have c3 := HS4.out.low.cell hlc
                    have hmem : E.of b ∈ pts := by rw [← hpb]; exact List.getElem_mem hjp
                    have hne1 : E.of i + E.of b ≠ 0 := fun h => HNO.out (by rw [E.add_eq_zero.1 h]; exact hmem)
                    have hne2 : lo ≠ 0 := by rw [hlo]; exact pr_ne (not_less _ _)
                    have hw : al * E.inv ((E.of i + E.of b) * lo) = wgt pts (E.of i) j := by
                      have := wgt_off HP.out.2.2 HNO.out hjp
                      rw [hgb, ← hlo, ← HAL.out] at this
                      exact this
                    have HNE : Hid ((E.of i + E.of b) * lo ≠ 0) := Lib.hid (fun h => by
                      rcases E.mul_eq_zero.1 h with h | h
                      · exact hne1 h
                      · exact hne2 h)
                    have HWG := Lib.hid hw
                    have hxi := bits_i64_xor i b (by omega) (by omega)
                    rw [xorE (a := i) (b := b) (by omega) (by omega)] at hxi
                    have HXI := Lib.hid hxi
                    have hsl := (E.of i + E.of b).lt
                    have hll := lo.lt
                    have hal2 := al.lt
                    have hjm : (j : Int) < (m : Int) := by omega
                    have hiN2 : (i : Int) < (N : Int) := by omega
                    clear hpb hgb hlo hlc hmem hne1 hne2 hw hxi hnl
                    have d1 : ∀ w', Ext W4 w' → w'.cell? ⟨w.heap.size + 1, i, none⟩ = some (.slice (some ⟨w.heap.size + 2 + i, 0, none⟩) m m) := fun w' h => (h.cell (p := ⟨w.heap.size + 1, i, none⟩) (World.block_lt_of_cell? _ _ c1)).trans c1
                    have d3 : ∀ w', Ext W4 w' → w'.cell? ⟨w.heap.size, j, none⟩ = some (.int .u8 (lo.val : Int)) := fun w' h => (h.cell (p := ⟨w.heap.size, j, none⟩) (World.block_lt_of_cell? _ _ c3)).trans c3
                    have hx5 : Ext W4 W4.drew := (Ext.refl W4).drewN 1
                    have ho5 := HO4.out.ext hx5
                    have hs5 := HS4.out.beyond hx5
                    have hbl : j < (bs (wrow pts m i)).length := by rw [bs_length, wrow_length]; exact hlt4
                    have f5 := ho5.frozen j
                    obtain ⟨u5, c5⟩ : ∃ u, W4.drew.cell? ⟨w.heap.size + 2 + i, j, none⟩ = some u := ⟨_, ho5.cell (List.getElem?_eq_getElem (show j < (half (bs (wrow pts m i)) (.int .u8 0) j).length by rw [half_length _ _ _ (by omega)]; exact hbl))⟩
                    have h6 := ho5.set j (.int .u8 ((al * E.inv ((E.of i + E.of b) * lo)).val : Int))
                    have hst := half_step (bs (wrow pts m i)) (.int .u8 0) j hbl
                    have hge : (bs (wrow pts m i))[j] = .int .u8 ((al * E.inv ((E.of i + E.of b) * lo)).val : Int) := by
                      have h7 := bs_get (wrow pts m i) j (by rw [wrow_length]; exact hlt4)
                      rw [List.getElem?_eq_getElem hbl, wrow_get] at h7
                      rw [Option.some.inj h7, HWG.out]
                    rw [hge] at hst
                    rw [hst] at h6
                    have HH := Lib.hid (And.intro (hs5.put (j := j) (.int .u8 ((al * E.inv ((E.of i + E.of b) * lo)).val : Int))) (And.intro HZ4.out h6))
                    clear hx5 ho5 hs5 h6 hst hge hbl
                    go_wp2_with fail
                    refine wp_region_mix (fun i => [0, 0, 0, 0, 0, 0, 0, 0, 0, 0, 0, 0, 0, 0, 1, 1, 3, 3, 3, 0, 2].getD i 0) (fun w' => Ext W4 w') hmo (by kernel_rfl) (by kernel_rfl) ((Ext.refl _).drewN 1) ?_
                    refine mix_still (.slice (some ⟨w.heap.size + 1, 0, none⟩) N N) rfl (fun w' hw' => by go_simp) ?_
                    refine mix_still (.int .i64 (i : Int)) rfl (fun w' hw' => by go_simp) ?_
                    refine mix_still (.pointer (some ⟨w.heap.size + 1, i, none⟩)) rfl (fun w' hw' => by go_simp) ?_
                    refine mix_still (.slice (some ⟨w.heap.size + 2 + i, 0, none⟩) m m) rfl (fun w' hw' => by have := d1 w' hw'; go_simp) ?_
                    refine mix_still (.int .i64 (j : Int)) rfl (fun w' hw' => by go_simp) ?_
                    refine mix_still (.int .u8 (al.val : Int)) rfl (fun w' hw' => by go_simp) ?_
                    refine mix_still (.int .i64 (i : Int)) rfl (fun w' hw' => by go_simp) ?_
                    refine mix_still (.int .i64 (b : Int)) rfl (fun w' hw' => by go_simp) ?_
                    refine mix_still (.int .i64 (bits .xor .i64 (i : Int) (b : Int))) rfl (fun w' hw' => by go_simp) ?_
                    refine mix_still (.int .u8 (bits .xor .i64 (i : Int) (b : Int) % 256)) rfl (fun w' hw' => by go_simp; first | rfl | exact IntWalk.u8_wrap _ | go_num | simp [IntKind.wrap]) ?_
                    refine mix_still (.slice (some ⟨w.heap.size, 0, none⟩) m m) rfl (fun w' hw' => by go_simp) ?_
                    refine mix_still (.int .i64 (j : Int)) rfl (fun w' hw' => by go_simp) ?_
                    refine mix_still (.pointer (some ⟨w.heap.size, j, none⟩)) rfl (fun w' hw' => by go_simp) ?_
                    refine mix_still (.int .u8 (lo.val : Int)) rfl (fun w' hw' => by have := d3 w' hw'; go_simp) ?_
                    refine mix_call 58 #[.int .u8 (bits .xor .i64 (i : Int) (b : Int) % 256), .int .u8 (lo.val : Int)] rfl (by go_simp) ?_
                    refine (times_lit _ _ (E.of i + E.of b) lo (by rw [HXI.out]; omega) rfl _).mono ?_
                    rintro e w5 ⟨rfl, rfl⟩
                    refine ⟨_, rfl, (Ext.refl W4).drewN 1, ?_⟩
                    refine mix_call 96 #[.int .u8 (al.val : Int), .int .u8 (((E.of i + E.of b) * lo).val : Int)] rfl (by go_simp) ?_
                    refine (over_any al ((E.of i + E.of b) * lo) HNE.out _).mono ?_
                    rintro e w5 ⟨rfl, rfl⟩
                    refine ⟨_, rfl, (Ext.refl W4).drewN 1, ?_⟩
                    refine mix_pure (.tuple #[.int .u8 ((al * E.inv ((E.of i + E.of b) * lo)).val : Int), .int .i64 0]) rfl (fun w' => by go_simp) ?_
                    refine mix_pure (.int .u8 ((al * E.inv ((E.of i + E.of b) * lo)).val : Int)) rfl (fun w' => by go_simp) ?_
                    refine mix_pure (.int .i64 0) rfl (fun w' => by go_simp) ?_
                    refine mix_still (.pointer (some ⟨w.heap.size + 2 + i, j, none⟩)) rfl (fun w' hw' => by go_simp) ?_
                    refine mix_store (W4.drew.setCell ⟨w.heap.size + 2 + i, j, none⟩ (.int .u8 ((al * E.inv ((E.of i + E.of b) * lo)).val : Int))) rfl (by go_simp) ?_
                    refine mix_nil ?_
                    clear d1 d3 c1 c3 f5 c5
                    go_wp2_with fail
                    go_roundw
                    case rel => exact ⟨j + 1, by omega, by go_num, HH.out.1, by simpa using HH.out.2.1, HH.out.2.2⟩
                    case measure => simp [intOf]; omega
                  · obtain rfl : m = j := by omega
                    have hrow : Own W4 w.heap.size 34 (.slice (some ⟨w.heap.size + 2 + i, 0, none⟩) m m) (bs (wrow pts m i)) := by
                      have h1 := HO4.out
                      have h2 := half_done (bs (wrow pts m i)) (.int .u8 0)
                      rw [bs_length, wrow_length] at h2
                      rwa [h2] at h1
                    have HS5 := Lib.hid (And.intro (HS4.out.row hrow) HZ4.out)
                    clear hrow
                    go_wp2_with fail
                    go_roundw
                    case rel => exact ⟨i + 1, by omega, by go_num, HS5.out.1, HS5.out.2⟩
                    case measure => simp [intOf]; omega
              · subst ho1
                have hnl : i < (half (rowsV (w.heap.size + 2) m N) (.slice none 0 0) (i + 1)).length := by rw [half_length _ _ _ (by rw [rowsV_length]; omega), rowsV_length]; exact hlt2
                have c1 := HS.out.1.list.cell (j := i) (u := .slice (some ⟨w.heap.size + 2 + i, 0, none⟩) m m) (by
                  rw [half, List.getElem?_append_left (by rw [List.length_take, rowsV_length]; omega), List.getElem?_take, if_pos (by omega), rowsV_get _ _ _ _ hlt2])
                have f2 := HS.out.2.1.frozen q
                have c2 := HS.out.2.1.cell (j := q) (u := .int .u8 0) (by simp [hq])
                have hrw := HS.out.2.1.set q (.int .u8 1)
                rw [own_col HP.out.1 HP.out.2.2 hq hqi] at hrw
                have HS4 := Lib.hid (And.intro ((HS.out.1.put (j := q) (.int .u8 1)).row hrw) (And.intro HS.out.2.2 hq))
                have hqm : (q : Int) < (m : Int) := by omega
                have hge : decide ((0 : Int) ≤ (q : Int)) = true := decide_eq_true (by omega)
                clear hnl hrw HS
                go_wp2_with fail
                go_roundw
                case rel => exact ⟨i + 1, by omega, by go_num, HS4.out.1, by simpa using HS4.out.2.1⟩
                case measure => simp [intOf]; omega
        · obtain rfl : N = i := by omega
          have HS := Lib.hid hst
          clear hst
          go_wp2
          go_ret
          exact ⟨rfl, HS.out⟩
end Go.Proofs.Ytemnlcfabaocbaa
/-
  Layer 5, plain: what is answered of rows.
-/
namespace Go.Proofs.Ytemnlcfabaocbaa
open Go.RowKit Gf
set_option maxRecDepth 20000
set_option linter.unusedVariables false

def GoodR (k : Int) (rs : List (List E)) : Prop := 1 ≤ k ∧ k ≤ rs.length ∧ rs.length ≤ 255
/-- The answer of one column. -/
def ColR (k : Int) (rs : List (List E)) (c : Nat) (o : List E) (b : List Nat) (e : Int) : Prop := ColSpec k (colL rs c) (lostL rs) o b e
theorem GoodR.col {k : Int} {rs : List (List E)} (h : GoodR k rs) (c : Nat) : GoodK k (colL rs c) (lostL rs) :=
  ⟨h.1, by rw [colL_length]; exact h.2.1, by rw [colL_length]; exact h.2.2, by rw [colL_length, lostL_length]⟩
/-- The rows from the columns, as far as c. -/
def outTo (rs : List (List E)) (O : Nat → List E) (L : Nat) : List (List E) := (List.range rs.length).map fun i => (List.range L).map fun c => (O c).getD i 0
/-- The places that were wrong in some column below c. -/
def metTo (n : Nat) (B : Nat → List Nat) (L : Nat) : List Bool := (List.range n).map fun i => (List.range L).any fun c => decide (i ∈ B c)
def badTo (n : Nat) (B : Nat → List Nat) (L : Nat) : List Nat := (List.range n).filter fun i => (List.range L).any fun c => decide (i ∈ B c)
theorem outTo_congr {rs : List (List E)} {O O' : Nat → List E} {L : Nat} (h : ∀ c, c < L → O c = O' c) : outTo rs O L = outTo rs O' L := by
  unfold outTo
  apply List.map_congr_left
  intro i hi
  apply List.map_congr_left
  intro c hc
  rw [h c (List.mem_range.1 hc)]
theorem any_congr {B B' : Nat → List Nat} {L : Nat} (h : ∀ c, c < L → B c = B' c) (i : Nat) : ((List.range L).any fun c => decide (i ∈ B c)) = ((List.range L).any fun c => decide (i ∈ B' c)) := by
  rw [Bool.eq_iff_iff, List.any_eq_true, List.any_eq_true]
  constructor
  · rintro ⟨c, hc, hd⟩
    exact ⟨c, hc, by rw [← h c (List.mem_range.1 hc)]; exact hd⟩
  · rintro ⟨c, hc, hd⟩
    exact ⟨c, hc, by rw [h c (List.mem_range.1 hc)]; exact hd⟩
theorem badTo_congr {B B' : Nat → List Nat} {L n : Nat} (h : ∀ c, c < L → B c = B' c) : badTo n B L = badTo n B' L := by
  unfold badTo
  congr 1
  funext i
  exact any_congr h i
/-- What is answered of rows. -/
def MendSpec (k : Int) (rs : List (List E)) (out : List (List E)) (bad : List Nat) (e : Int) : Prop :=
  (¬ GoodR k rs ∧ out = [] ∧ bad = [] ∧ e = 2) ∨
  (GoodR k rs ∧ (∀ L, ¬ Meas rs L) ∧ out = [] ∧ bad = [] ∧ e = 41) ∨
  (∃ L, GoodR k rs ∧ Meas rs L ∧ ((thereL (lostL rs)).length : Int) < k ∧ out = [] ∧ bad = [] ∧ e = 42) ∨
  (∃ L c, GoodR k rs ∧ Meas rs L ∧ k ≤ (thereL (lostL rs)).length ∧ c < L ∧ (∀ c', c' < c → ∃ o b, ColR k rs c' o b 0) ∧ (∃ o b, ColR k rs c o b e) ∧ e ≠ 0 ∧ out = [] ∧ bad = []) ∨
  (∃ (L : Nat) (O : Nat → List E) (B : Nat → List Nat), GoodR k rs ∧ Meas rs L ∧ k ≤ (thereL (lostL rs)).length ∧ (∀ c, c < L → ColR k rs c (O c) (B c) 0) ∧ out = outTo rs O L ∧ bad = badTo rs.length B L ∧ e = 0)
theorem MendSpec.uniq {k : Int} {rs : List (List E)} {out out' : List (List E)} {bad bad' : List Nat} {e e' : Int} (h : MendSpec k rs out bad e) (h' : MendSpec k rs out' bad' e') : out = out' ∧ bad = bad' ∧ e = e' := by
  rcases h with ⟨h1, rfl, rfl, rfl⟩ | ⟨h1, h2, rfl, rfl, rfl⟩ | ⟨L, h1, h2, h3, rfl, rfl, rfl⟩ | ⟨L, c, h1, h2, h3, h4, h5, ⟨o, b, h6⟩, h7, rfl, rfl⟩ | ⟨L, O, B, h1, h2, h3, h4, rfl, rfl, rfl⟩ <;>
    rcases h' with ⟨k1, rfl, rfl, rfl⟩ | ⟨k1, k2, rfl, rfl, rfl⟩ | ⟨M, k1, k2, k3, rfl, rfl, rfl⟩ | ⟨M, c', k1, k2, k3, k4, k5, ⟨o', b', k6⟩, k7, rfl, rfl⟩ | ⟨M, O', B', k1, k2, k3, k4, rfl, rfl, rfl⟩ <;>
    first
    | exact ⟨rfl, rfl, rfl⟩
    | exact absurd k1 h1
    | exact absurd h1 k1
    | exact absurd k2 (h2 _)
    | exact absurd h2 (k2 _)
    | (exfalso; omega)
    | skip
  · refine ⟨rfl, rfl, ?_⟩
    rcases Nat.lt_trichotomy c c' with hc | rfl | hc
    · obtain ⟨o2, b2, k8⟩ := k5 c hc
      exact absurd (ColSpec.uniq h6 k8).2.2 h7
    · exact (ColSpec.uniq h6 k6).2.2
    · obtain ⟨o2, b2, h8⟩ := h5 c' hc
      exact absurd (ColSpec.uniq k6 h8).2.2 k7
  · obtain rfl := h2.uniq k2
    exact absurd (ColSpec.uniq h6 (k4 c h4)).2.2 h7
  · obtain rfl := h2.uniq k2
    exact absurd (ColSpec.uniq k6 (h4 c' k4)).2.2 k7
  · obtain rfl := h2.uniq k2
    exact ⟨outTo_congr fun c hc => (ColSpec.uniq (h4 c hc) (k4 c hc)).1, badTo_congr fun c hc => (ColSpec.uniq (h4 c hc) (k4 c hc)).2.1, rfl⟩
end Go.Proofs.Ytemnlcfabaocbaa
/-
  Layer 5: what mend.Mend holds while it goes through the columns.
-/
namespace Go.Proofs.Ytemnlcfabaocbaa
open Go.RowKit Gf
set_option maxRecDepth 20000
set_option linter.unusedVariables false

theorem bs_set (l : List E) (c : Nat) (x : E) : (bs l).set c (.int .u8 (x.val : Int)) = bs (l.set c x) := by
  rw [bs, bs, List.map_set]; rfl
theorem bools_set (l : List Bool) (c : Nat) (x : Bool) : (bools l).set c (.bool x) = bools (l.set c x) := by
  rw [bools, bools, List.map_set]
/-- The list of the rows at W0's end, its rows behind it, then the marks; behind the marks the weights. -/
structure MSt (W0 wr : World) (N L m : Nat) (pts : List E) (R : Nat → List E) (M : List Bool) : Prop where
  ext : Ext W0 wr
  list : Own wr W0.heap.size 24 (.slice (some ⟨W0.heap.size, 0, none⟩) N N) (rowsV (W0.heap.size + 1) L N)
  rows : ∀ i, i < N → Own wr W0.heap.size 5 (.slice (some ⟨W0.heap.size + 1 + i, 0, none⟩) L L) (bs (R i))
  met : Own wr W0.heap.size 4 (.slice (some ⟨W0.heap.size + 1 + N, 0, none⟩) N N) (bools M)
  wl : Own wr W0.heap.size 26 (.slice (some ⟨W0.heap.size + N + 3, 0, none⟩) N N) (rowsV (W0.heap.size + N + 4) m N)
  wrows : ∀ i, i < N → Own wr W0.heap.size 34 (.slice (some ⟨W0.heap.size + N + 4 + i, 0, none⟩) m m) (bs (wrow pts m i))
theorem MSt.beyond {W0 wr w2 : World} {N L m : Nat} {pts : List E} {R : Nat → List E} {M : List Bool} (h : MSt W0 wr N L m pts R M) (hx : Ext wr w2) : MSt W0 w2 N L m pts R M :=
  ⟨h.ext.trans hx, h.list.ext hx, fun i hi => (h.rows i hi).ext hx, h.met.ext hx, h.wl.ext hx, fun i hi => (h.wrows i hi).ext hx⟩
theorem MSt.put {W0 wr : World} {N L m : Nat} {pts : List E} {R : Nat → List E} {M : List Bool} (h : MSt W0 wr N L m pts R M) {i : Nat} (hi : i < N) (c : Nat) (x : E) :
    MSt W0 (wr.setCell ⟨W0.heap.size + 1 + i, c, none⟩ (.int .u8 (x.val : Int))) N L m pts (fun i' => if i' = i then (R i).set c x else R i') M := by
  refine ⟨h.ext.new (p := ⟨W0.heap.size + 1 + i, c, none⟩) (by show W0.heap.size ≤ W0.heap.size + 1 + i; omega) _, h.list.far (p := ⟨W0.heap.size + 1 + i, c, none⟩) (by simp only [Value.ownBlock, ne_eq, Option.some.injEq]; omega) _, fun i' hi' => ?_,
    h.met.far (p := ⟨W0.heap.size + 1 + i, c, none⟩) (by simp only [Value.ownBlock, ne_eq, Option.some.injEq]; omega) _, h.wl.far (p := ⟨W0.heap.size + 1 + i, c, none⟩) (by simp only [Value.ownBlock, ne_eq, Option.some.injEq]; omega) _, fun i' hi' => (h.wrows i' hi').far (p := ⟨W0.heap.size + 1 + i, c, none⟩) (by simp only [Value.ownBlock, ne_eq, Option.some.injEq]; omega) _⟩
  by_cases e : i' = i
  · subst e
    have := (h.rows i' hi').set c (.int .u8 (x.val : Int))
    rw [bs_set] at this
    simpa using this
  · have := (h.rows i' hi').far (p := ⟨W0.heap.size + 1 + i, c, none⟩) (by simp only [Value.ownBlock, ne_eq, Option.some.injEq]; omega) (.int .u8 (x.val : Int))
    simpa [e] using this
theorem MSt.mark {W0 wr : World} {N L m : Nat} {pts : List E} {R : Nat → List E} {M : List Bool} (h : MSt W0 wr N L m pts R M) (i : Nat) :
    MSt W0 (wr.setCell ⟨W0.heap.size + 1 + N, i, none⟩ (.bool true)) N L m pts R (M.set i true) := by
  refine ⟨h.ext.new (p := ⟨W0.heap.size + 1 + N, i, none⟩) (by show W0.heap.size ≤ W0.heap.size + 1 + N; omega) _, h.list.far (p := ⟨W0.heap.size + 1 + N, i, none⟩) (by simp only [Value.ownBlock, ne_eq, Option.some.injEq]; omega) _, fun i' hi' => (h.rows i' hi').far (p := ⟨W0.heap.size + 1 + N, i, none⟩) (by simp only [Value.ownBlock, ne_eq, Option.some.injEq]; omega) _,
    ?_, h.wl.far (p := ⟨W0.heap.size + 1 + N, i, none⟩) (by simp only [Value.ownBlock, ne_eq, Option.some.injEq]; omega) _, fun i' hi' => (h.wrows i' hi').far (p := ⟨W0.heap.size + 1 + N, i, none⟩) (by simp only [Value.ownBlock, ne_eq, Option.some.injEq]; omega) _⟩
  have := h.met.set i (.bool true)
  rwa [bools_set] at this
/-- The rows: the columns below c are there, the others zero. -/
def rowTo (O : Nat → List E) (L c i : Nat) : List E := (List.range L).map fun x => if x < c then (O x).getD i 0 else 0
theorem rowTo_length (O : Nat → List E) (L c i : Nat) : (rowTo O L c i).length = L := by simp [rowTo]
theorem rowTo_zero (O : Nat → List E) (L i : Nat) : rowTo O L 0 i = List.replicate L 0 := by
  apply List.ext_getElem
  · simp [rowTo]
  · intro j h1 h2; simp [rowTo]
theorem rowTo_all (O : Nat → List E) (L i : Nat) : rowTo O L L i = (List.range L).map fun c => (O c).getD i 0 := by
  apply List.map_congr_left
  intro c hc
  rw [if_pos (List.mem_range.1 hc)]
theorem rowTo_set (O : Nat → List E) (L c i : Nat) (x : E) (o : List E) (hc : c < L) (hx : o.getD i 0 = x) (l : List E) (hl : ∀ j, j ≠ c → l[j]? = (rowTo O L c i)[j]?) (hn : l.length = L) : l.set c x = rowTo (fun c' => if c' = c then o else O c') L (c + 1) i := by
  apply List.ext_getElem?
  intro j
  by_cases e : j = c
  · subst e
    rw [List.getElem?_set_self (by omega), rowTo]
    simp [hc]
    rw [List.getD_eq_getElem?_getD] at hx
    exact hx.symm
  · rw [List.getElem?_set_ne (fun h => e h.symm), hl j e, rowTo, rowTo]
    by_cases hj : j < L
    · simp only [List.getElem?_map, List.getElem?_range hj, Option.map_some, Option.some.injEq]
      by_cases h2 : j < c
      · rw [if_pos h2, if_pos (by omega), if_neg e]
      · rw [if_neg h2, if_neg (by omega)]
    · rw [List.getElem?_eq_none (by simp; omega), List.getElem?_eq_none (by simp; omega)]
end Go.Proofs.Ytemnlcfabaocbaa
