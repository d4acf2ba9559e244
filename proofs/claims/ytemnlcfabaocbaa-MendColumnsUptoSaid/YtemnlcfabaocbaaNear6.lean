/-
  The walk of the document's answer for chapter 5: near, by linear equations.
-/
import Derived.Test.YtemnlcfabaocbaaNear5
namespace Go.Proofs.Ytemnlcfabaocbaa
open Go.RowKit Gf
set_option maxRecDepth 20000
set_option linter.unusedVariables false

/-- A row of the equations that is being filled. -/
def rowF (e : Nat) (x y : E) (a b : Nat) : S := fun t => if t < e + 1 then (if t < a then y * E.pow x t else 0) else if t - (e + 1) < b then E.pow x (t - (e + 1)) else 0
theorem rowF_zero (e : Nat) (x y : E) : rowF e x y 0 0 = S.zero := funext fun t => by simp [rowF, S.zero]
theorem rowF_one (e : Nat) (x y : E) (j b : Nat) (hj : j < e + 1) : upd (rowF e x y j b) j (y * E.pow x j) = rowF e x y (j + 1) b := funext fun t => by
  unfold upd rowF
  by_cases h : t = j
  · subst h; rw [if_pos rfl, if_pos hj, if_pos (Nat.lt_succ_self _)]
  · rw [if_neg h]
    by_cases h2 : t < e + 1
    · rw [if_pos h2, if_pos h2]
      by_cases h3 : t < j
      · rw [if_pos h3, if_pos (by omega)]
      · rw [if_neg h3, if_neg (by omega)]
    · rw [if_neg h2, if_neg h2]
theorem rowF_skip (e : Nat) (x y : E) (j b : Nat) (hj : e + 1 ≤ j) : rowF e x y j b = rowF e x y (j + 1) b := funext fun t => by
  unfold rowF
  by_cases h2 : t < e + 1
  · rw [if_pos h2, if_pos h2, if_pos (by omega), if_pos (by omega)]
  · rw [if_neg h2, if_neg h2]
theorem rowF_two (e : Nat) (x y : E) (a j : Nat) : upd (rowF e x y a j) (e + 1 + j) (E.pow x j) = rowF e x y a (j + 1) := funext fun t => by
  unfold upd rowF
  by_cases h : t = e + 1 + j
  · subst h; rw [if_pos rfl, if_neg (by omega), if_pos (by omega), Nat.add_sub_cancel_left]
  · rw [if_neg h]
    by_cases h2 : t < e + 1
    · rw [if_pos h2, if_pos h2]
    · rw [if_neg h2, if_neg h2]
      by_cases h3 : t - (e + 1) < j
      · rw [if_pos h3, if_pos (by omega)]
      · rw [if_neg h3, if_neg (by omega)]
theorem rowF_all (e k : Nat) (x y : E) (hk : 1 ≤ k) : ofS (e + 1 + k + e) (rowF e x y (k + e) (k + e)) = bwRow e k x y := by
  apply list_ext
  · rw [ofS_length, bwRow_length]
  · intro t ht
    rw [ofS_length] at ht
    rw [ser_ofS_lt _ _ _ ht]
    by_cases h : t < e + 1
    · rw [bwRow_left e k x y h, rowF, if_pos h, if_pos (by omega)]
    · obtain ⟨j, rfl⟩ := Nat.exists_eq_add_of_le (Nat.le_of_not_lt h)
      rw [bwRow_right e k x y (by omega), rowF, if_neg h, Nat.add_sub_cancel_left, if_pos (by omega)]
/-- How many of the first i values are wrong. -/
def cntTo (p xs ys : List E) : Nat → Nat
  | 0 => 0
  | i + 1 => cntTo p xs ys i + if evL p (xs.getD i 0) = ys.getD i 0 then 0 else 1
theorem cntTo_take (p xs ys : List E) (h : ys.length = xs.length) : ∀ i, i ≤ xs.length → cntTo p xs ys i = (wrongs p (xs.take i) (ys.take i)).length
  | 0, _ => by simp [cntTo, wrongs]
  | i + 1, hi => by
    have hx : i < xs.length := hi
    have hy : i < ys.length := by omega
    rw [cntTo, cntTo_take p xs ys h i (by omega), take_snoc' xs i hx, take_snoc' ys i hy, getD_at hx, getD_at hy]
    unfold wrongs
    rw [List.zip_append (by simp; omega), List.filter_append, List.map_append, List.length_append]
    congr 1
    by_cases e : evL p xs[i] = ys[i] <;> simp [e]
theorem cntTo_all {p xs ys : List E} (h : ys.length = xs.length) : cntTo p xs ys xs.length = (wrongs p xs ys).length := by
  rw [cntTo_take p xs ys h _ (Nat.le_refl _), List.take_length, ← h, List.take_length]
theorem cntTo_le (p xs ys : List E) : ∀ i, cntTo p xs ys i ≤ i
  | 0 => Nat.le_refl _
  | i + 1 => by
    rw [cntTo]
    have := cntTo_le p xs ys i
    split <;> omega
/-- Another row of its kind has grown. -/
theorem far_moved {w w' : World} {B : Nat} {T : TypeId} {v v' u : Value} {ys : List Value} (hm : Moved w w' v v') (hu : Own w B T u ys) (hf : u.ownBlock = none ∨ u.ownBlock ≠ v.ownBlock) : Own w' B T u ys ∧ (u.ownBlock = none ∨ u.ownBlock ≠ v'.ownBlock) := by
  refine ⟨hu.kept hm.grown hf, ?_⟩
  rcases hm with ⟨e, _⟩ | ⟨e, _⟩
  · rw [e]; exact hf
  · cases h : u.ownBlock with
    | none => exact .inl rfl
    | some g =>
      refine .inr fun e' => ?_
      rw [e] at e'
      injection e' with e'
      have := (hu.lt g h).2
      omega
theorem far_symm {u v : Value} (h : u.ownBlock = none ∨ u.ownBlock ≠ v.ownBlock) : v.ownBlock = none ∨ v.ownBlock ≠ u.ownBlock := by
  cases e : v.ownBlock with
  | none => exact .inl rfl
  | some g =>
    refine .inr fun e' => ?_
    rcases h with h | h
    · rw [h] at e'; cases e'
    · exact h (by rw [e, ← e'])
theorem vals_snoc (word : List E) (l : List Nat) (i : Nat) (h : i < word.length) : valsL word (l ++ [i]) = valsL word l ++ [word[i]] := by simp [valsL, List.getD_eq_getElem?_getD, h]
theorem pts_snoc (l : List Nat) (i : Nat) : ptsL (l ++ [i]) = ptsL l ++ [E.of i] := by simp [ptsL]
/-- What near answers. -/
def Near5Out (k : Nat) (xs ys : List E) (B : Nat) (e : Ending) (w' : World) : Prop :=
  (∃ v p, e = .returned (.tuple #[v, .bool true]) ∧ NearOK k xs ys p ∧ p.length ≤ k ∧ Own w' B 5 v (bs p)) ∨ (∃ v, e = .returned (.tuple #[v, .bool false]) ∧ ∀ p, ¬ NearOK k xs ys p)
/-- The rows of the equations so far. -/
structure Rowing (w0 w : World) (e k U i : Nat) (xs ys : List E) (v : Value) : Prop where
  ext : Ext w0 w
  ex : ∃ V : List Value, V.length = i ∧ Own w w0.heap.size 24 v V ∧ OwnRows w w0.heap.size 5 V (fun a => bwRow e k (xs.getD a 0) (ys.getD a 0)) ∧ FarApart V
set_option maxHeartbeats 16000000 in
theorem near5_n (gt ct : Nat) (A C : Option Addr) (n k ca cc : Nat) (word : List E) (lost : List Bool) (w : World) (ht : Tab w gt) (hn : word.length = n) (hm : lost.length = n) (hr : Rd w A (bs word)) (hs : Rd w C (bools lost)) (hn2 : n ≤ 255) (hk : 1 ≤ k) (hkN : k ≤ (thereL lost).length) :
    Calls Try.prog 120 #[.slice (some ⟨gt, 0, none⟩) 256 ct, .int .i64 (k : Int), .slice A n ca, .slice C n cc] w fun e w' => Near5Out k (ptsL (thereL lost)) (valsL word (thereL lost)) w.heap.size e w' ∧ Ext w w' := by
  have hmo : Try.prog.follows Departure.mixedOrders = true := by kernel_rfl
  have hwd : Fence.wide.depth = none := rfl
  have hwf : ∀ f, Fence.wide.fn f := fun _ => trivial
  have HN := Lib.hid hn
  have HM := Lib.hid hm
  have HT := Lib.hid ht
  have HR := Lib.hid hr
  have HS := Lib.hid hs
  have HTL0 := Lib.hid (there_le lost)
  obtain ⟨at_, hat⟩ : ∃ l, l = thereL lost := ⟨_, rfl⟩
  obtain ⟨xs, hxs⟩ : ∃ l, l = ptsL at_ := ⟨_, rfl⟩
  obtain ⟨ys, hys⟩ : ∃ l, l = valsL word at_ := ⟨_, rfl⟩
  rw [← hat] at hkN HTL0 ⊢
  rw [← hxs, ← hys]
  have HAT := Lib.hid hat
  have HXE := Lib.hid hxs
  have HYE := Lib.hid hys
  have HKN := Lib.hid hkN
  have HTL := HTL0
  clear hn hm ht hr hs hkN hat hxs hys HTL0
  go_enter Try.func120, Try.ntmps120
  go_wp2_with fail
  go_loopw [10, 11, 12] (fun x y i wr => ∃ (j : Nat) (X Y : Value), X = x ∧ Y = y ∧ j ≤ n ∧ i = .int .i64 j ∧ Ext w wr ∧ Own wr w.heap.size 5 X (bs (ptsL (thereTo lost j))) ∧ Own wr w.heap.size 5 Y (bs (valsL word (thereTo lost j))) ∧ (X.ownBlock = none ∨ X.ownBlock ≠ Y.ownBlock)) (fun _ _ i _ => n - (intOf i).toNat)
  case atStart => exact ⟨0, _, _, rfl, rfl, by omega, rfl, Ext.refl _, Own.nil _ _ _, Own.nil _ _ _, .inl rfl⟩
  case round =>
    obtain ⟨W1, rfl⟩ : ∃ W, W = wr := ⟨_, rfl⟩
    obtain ⟨j, X, Y, rfl, rfl, hj, rfl, hx, hoX, hoY, hfar⟩ := hrel
    by_cases hlt : j < n
    · have hjl : j < lost.length := by rw [HM.out]; exact hlt
      have hjw : j < word.length := by rw [HN.out]; exact hlt
      obtain ⟨ad, rfl, hc⟩ := (HS.out.ext hx).at_ (bools_get lost j hjl)
      have HX := Lib.hid hx
      have HFAR := Lib.hid hfar
      have HOX := Lib.hid hoX
      have HOY := Lib.hid hoY
      cases hb : lost[j] with
      | true =>
        rw [hb] at hc
        have HTT := Lib.hid (thereTo_no hjl hb)
        clear hb hx hoX hoY hfar
        go_wp2_with fail
        go_roundw
        case rel => exact ⟨j + 1, X, Y, rfl, rfl, by omega, by go_num, HX.out, by rw [HTT.out]; exact HOX.out, by rw [HTT.out]; exact HOY.out, HFAR.out⟩
        case measure => simp [intOf]; omega
      | false =>
        rw [hb] at hc
        have HTT := Lib.hid (thereTo_yes hjl hb)
        have hle := hx.le
        have hbd : ((bs (ptsL (thereTo lost j))).length + 1) * 1 ≤ 140737488355328 := by rw [bs_length, pts_length]; have := thereTo_le lost j; omega
        have hbd2 : ((bs (valsL word (thereTo lost j))).length + 1) * 1 ≤ 140737488355328 := by rw [bs_length, vals_length]; have := thereTo_le lost j; omega
        have hof : (E.of j).val = j := E.val_of (by omega)
        have HOF := Lib.hid hof
        clear hb hx hoX hoY hfar hof
        go_wp2_with (at_builtin; refine wpList_push2 W1 eltU8 rfl _ _ (by rfl) w.heap.size X _ (by rfl) (by exact HOX.out) (.int .u8 (j : Int)) W1.heap.size rfl (by rfl) rfl hbd hle ?_)
        intro X2 W2 h1 h2 h3 h4
        have hy1 : Own (W1.alloc (.cells #[.int .u8 (j : Int)] 5)) w.heap.size 5 Y (bs (valsL word (thereTo lost j))) := HOY.out.alloc _
        obtain ⟨hy2, hf2⟩ := far_moved h2 hy1 (far_symm HFAR.out)
        have hx2 : Below w.heap.size w W2 := HX.out.below.trans h3
        have hX2 : Own W2 w.heap.size 5 X2 (bs (ptsL (thereTo lost j ++ [j]))) := by rw [pts_snoc, bs_append, bs_one, HOF.out]; exact h1
        obtain ⟨bd, rfl, hcw⟩ := (HR.out.ext (show Ext w W2 from hx2)).byte hjw
        have hwl := (word[j]).lt
        have hle2 : w.heap.size ≤ W2.heap.size := hx2.size
        have HALL := Lib.hid (And.intro hX2 (And.intro hy2 (And.intro hf2 hx2)))
        clear h1 h2 h3 h4 hy1 hy2 hf2 hx2 hX2 hle hbd hc
        go_wp2_with (at_builtin; refine wpList_push2 W2 eltU8 rfl _ _ (by rfl) w.heap.size Y _ (by rfl) (by exact HALL.out.2.1) (.int .u8 ((word[j]).val : Int)) W2.heap.size rfl (by rfl) rfl hbd2 hle2 ?_)
        intro Y2 W3 h1 h2 h3 h4
        have hx1 : Own (W2.alloc (.cells #[.int .u8 ((word[j]).val : Int)] 5)) w.heap.size 5 X2 (bs (ptsL (thereTo lost j ++ [j]))) := HALL.out.1.alloc _
        obtain ⟨hx2, hf2⟩ := far_moved h2 hx1 (far_symm HALL.out.2.2.1)
        have hx3 : Ext w W3 := HALL.out.2.2.2.trans h3
        have hY2 : Own W3 w.heap.size 5 Y2 (bs (valsL word (thereTo lost j ++ [j]))) := by rw [vals_snoc word _ j hjw, bs_append, bs_one]; exact h1
        have HH := Lib.hid (And.intro hx3 (And.intro hx2 (And.intro hY2 hf2)))
        clear h1 h2 h3 h4 hx1 hx2 hf2 hx3 hY2 hle2 hbd2 HALL
        go_wp2_with fail
        go_roundw
        case rel => exact ⟨j + 1, X2, Y2, rfl, rfl, by omega, by go_num, HH.out.1, by rw [HTT.out]; exact HH.out.2.1, by rw [HTT.out]; exact HH.out.2.2.1, HH.out.2.2.2⟩
        case measure => simp [intOf]; omega
    · obtain rfl : n = j := by omega
      have hat := HAT.out
      have hxs := HXE.out
      have hys := HYE.out
      have htt : thereTo lost n = at_ := by rw [hat, thereL, HM.out]
      rw [htt] at hoX hoY
      obtain ⟨N, hN⟩ : ∃ N, xs.length = N := ⟨_, rfl⟩
      have hNl : at_.length = N := by rw [← hN, hxs, pts_length]
      have hyN : ys.length = N := by rw [hys, vals_length, hNl]
      have hkN : k ≤ N := by rw [← hNl]; exact HKN.out
      have hNn : N ≤ n := by rw [← hNl]; have := HTL.out; rw [HM.out] at this; exact this
      have hnd : xs.Nodup := by
        rw [hxs, hat]
        exact pts_nodup (there_nodup lost) fun i hi => by have := there_mem hi; rw [HM.out] at this; omega
      rw [← hxs] at hoX
      rw [← hys] at hoY
      obtain ⟨gx, cx, rfl, hgx1, hgx2, hcx, hcx2⟩ := hoX.some_ (fun e => by have := congrArg List.length e; rw [bs_length, hN] at this; simp at this; omega)
      obtain ⟨gy, cy, rfl, hgy1, hgy2, hcy, hcy2⟩ := hoY.some_ (fun e => by have := congrArg List.length e; rw [bs_length, hyN] at this; simp at this; omega)
      rw [bs_length, hN] at hoX hcx ⊢
      rw [bs_length, hyN] at hoY hcy ⊢
      have HXS := Lib.hid hN
      have HYS := Lib.hid hyN
      have HND := Lib.hid hnd
      have HX := Lib.hid hx
      have HRX := Lib.hid hoX.rd
      have HRY := Lib.hid hoY.rd
      obtain ⟨e, he⟩ : ∃ e, e = (N - k) / 2 := ⟨_, rfl⟩
      have hei : ((N : Int) - (k : Int)) / 2 = (e : Int) := by rw [he]; omega
      have heb : e ≤ 255 := by omega
      have HE := Lib.hid he
      have HEI := Lib.hid hei
      have HT1 := Lib.hid (HT.out.ext hx)
      clear hat htt hxs hys hN hNl hyN hnd hoX hoY hx hfar he hei hgx1 hgx2 hgy1 hgy2
      go_wp2_with fail
      rw [HEI.out]
      refine (straight_n gt ct _ _ N k cx cy xs ys _ HT1.out HXS.out HYS.out HRX.out HRY.out HND.out hkN hcx hcy hcx2 hcy2 (by omega)).mono ?_
      rintro e' W2 ⟨hso, hx2⟩
      have HX2 := Lib.hid (HX.out.trans hx2)
      have HRX2 := Lib.hid (HRX.out.ext hx2)
      have HRY2 := Lib.hid (HRY.out.ext hx2)
      have HT2 := Lib.hid (HT1.out.ext hx2)
      have hle2 : w.heap.size ≤ W1.heap.size := HX.out.le
      clear hx2
      rcases hso with ⟨v, p, rfl, hop, hpl, hall⟩ | rfl
      · have HP : Hid (NearOK k xs ys p) := Lib.hid (near_straight (by rw [← hpl]; exact dg_le p) (by rw [HXS.out]; exact hkN) (by rw [HXS.out, HYS.out]) fun i hi => by
          have h1 := hall i (by rw [← HXS.out]; exact hi)
          rw [getD_at hi, getD_at (by rw [HYS.out, ← HXS.out]; exact hi)] at h1
          exact h1)
        have HOP := Lib.hid hop
        have HPL := Lib.hid hpl
        clear hop hpl hall
        go_wp2
        go_ret2
        exact ⟨.inl ⟨_, p, rfl, HP.out, by rw [HPL.out]; exact Nat.le_refl _, HOP.out.mono hle2⟩, HX2.out⟩
      · obtain ⟨U, hU⟩ : ∃ U, U = e + 1 + k + e := ⟨_, rfl⟩
        have hUb : U ≤ 1000 := by omega
        have hU0 : 0 < U := by omega
        have hUe : e + 1 < U := by omega
        have HU := Lib.hid hU
        have hmk : ∀ w, (Instr.makeSlice 24 (.int .i64 ((e : Int) + 1 + (k : Int) + (e : Int))) (.int .i64 ((e : Int) + 1 + (k : Int) + (e : Int)))).run Try.prog w = .ok (.slice (some ⟨w.heap.size, 0, none⟩) U U) (w.alloc (.cells (zrow (.int .u8 0) U) 5)) := fun w => by
          have := make_bytes U (by omega) w
          rw [show ((U : Nat) : Int) = (e : Int) + 1 + (k : Int) + (e : Int) by omega] at this
          exact this
        clear hU
        go_wp2_with fail
        go_loopw [16, 17] (fun rws i wr => ∃ (iN : Nat) (v : Value), v = rws ∧ iN ≤ N ∧ i = .int .i64 iN ∧ Rowing W2 wr e k U iN xs ys v) (fun _ i _ => N - (intOf i).toNat)
        case atStart => exact ⟨0, _, rfl, by omega, rfl, Ext.refl _, [], rfl, Own.nil _ _ _, ⟨fun i v h => by simp at h⟩, FarApart.nil⟩
        case round =>
          obtain ⟨W3, rfl⟩ : ∃ W, W = wr := ⟨_, rfl⟩
          obtain ⟨iN, v, rfl, hi, rfl, hRw⟩ := hrel
          have HRW := Lib.hid hRw
          clear hRw
          by_cases hlt : iN < N
          · have hix : iN < xs.length := by rw [HXS.out]; exact hlt
            have hiy : iN < ys.length := by rw [HYS.out]; exact hlt
            obtain ⟨x, hx⟩ : ∃ x, x = xs[iN] := ⟨_, rfl⟩
            obtain ⟨y, hy⟩ : ∃ y, y = ys[iN] := ⟨_, rfl⟩
            have hxl := x.lt
            have hyl := y.lt
            have HXI := Lib.hid hx
            have HYI := Lib.hid hy
            have hoz := own_zeros W3 U (by omega)
            rw [← rowF_zero e x y] at hoz
            have HOZ := Lib.hid hoz
            have hd256 : decide ((iN : Int) < (N : Int)) = true := decide_eq_true (by omega)
            clear hx hy hoz
            go_wp2_with fail
            go_loopw [19, 20] (fun pw j wr => ∃ jN : Nat, jN ≤ k + e ∧ j = .int .i64 jN ∧ pw = .int .u8 ((E.pow x jN).val : Int) ∧ Ext W3 wr ∧ Own wr W3.heap.size 5 (.slice (some ⟨W3.heap.size, 0, none⟩) U U) (bs (ofS U (rowF e x y jN jN)))) (fun _ j _ => k + e - (intOf j).toNat)
            case atStart => exact ⟨0, by omega, rfl, rfl, (Ext.refl W3).alloc _, HOZ.out⟩
            case round =>
              obtain ⟨W4, rfl⟩ : ∃ W, W = wr := ⟨_, rfl⟩
              obtain ⟨jN, hj, rfl, rfl, hx4, ho4⟩ := hrel
              clear HOZ
              by_cases hlt2 : jN < k + e
              · have hI1 : (jN : Int) < (k : Int) + (e : Int) := by omega
                have hI1' : decide ((jN : Int) < (k : Int) + (e : Int)) = true := decide_eq_true hI1
                have hUi : e + 1 + jN < U := by rw [HU.out]; omega
                have hUi2 : (e : Int) + 1 + (jN : Int) < (U : Int) := by omega
                obtain ⟨pw, hpw⟩ : ∃ p, p = E.pow x jN := ⟨_, rfl⟩
                rw [← hpw]
                have HPW := Lib.hid hpw
                have HPS : Hid (Value.int .u8 ((pw * x).val : Int) = Value.int .u8 ((E.pow x (jN + 1)).val : Int)) := Lib.hid (by rw [hpw, E.pow_succ])
                have hpl := pw.lt
                have hpl2 := (pw * x).lt
                have hpl3 := (y * pw).lt
                have hxw := HX2.out.trans (HRW.out.ext.trans hx4)
                have HXW := Lib.hid (HRW.out.ext.trans hx4)
                clear hpw
                rcases (show jN ≤ e ∨ e + 1 ≤ jN by omega) with hje | hje
                · have hjU : jN < U := by omega
                  have hdl : decide ((jN : Int) ≤ (e : Int)) = true := decide_eq_true (by omega)
                  have c1 := (HRY2.out.ext HXW.out).at_ (bs_get ys iN hiy)
                  obtain ⟨ady, hady, c1⟩ := c1
                  injection hady with hady
                  subst hady
                  rw [← HYI.out, add_plain] at c1
                  obtain ⟨gi, g1, g2⟩ := (HT2.out.ext HXW.out).at_ y pw
                  have f1 := ho4.frozen jN
                  have d1 := ho4.cell (ofS_getb U (rowF e x y jN jN) jN hjU)
                  have ho5 := ho4.set jN (.int .u8 ((y * pw).val : Int))
                  have hup : upd (rowF e x y jN jN) jN (y * pw) = rowF e x y (jN + 1) jN := by rw [HPW.out]; exact rowF_one e x y jN jN (by omega)
                  rw [ofS_setb, hup] at ho5
                  have f2 := ho5.frozen (e + 1 + jN)
                  have d2 := ho5.cell (ofS_getb U (rowF e x y (jN + 1) jN) (e + 1 + jN) hUi)
                  have ho6 := ho5.set (e + 1 + jN) (.int .u8 (pw.val : Int))
                  have hup2 : upd (rowF e x y (jN + 1) jN) (e + 1 + jN) pw = rowF e x y (jN + 1) (jN + 1) := by rw [HPW.out]; exact rowF_two e x y (jN + 1) jN
                  rw [ofS_setb, hup2] at ho6
                  have hx6 := (hx4.new (p := ⟨W3.heap.size, jN, none⟩) (Nat.le_refl _) (.int .u8 ((y * pw).val : Int))).new (p := ⟨W3.heap.size, e + 1 + jN, none⟩) (Nat.le_refl _) (.int .u8 (pw.val : Int))
                  obtain ⟨W5, hW5⟩ : ∃ W, W = (W4.setCell ⟨W3.heap.size, jN, none⟩ (.int .u8 ((y * pw).val : Int))).setCell ⟨W3.heap.size, e + 1 + jN, none⟩ (.int .u8 (pw.val : Int)) := ⟨_, rfl⟩
                  rw [← hW5] at ho6 hx6
                  have HO6 := Lib.hid ho6
                  have HX6 := Lib.hid hx6
                  clear ho4 hx4 ho5 ho6 hx6 hup hup2 hxw
                  go_wp2_with fail
                  rw [← hW5]
                  clear hW5 c1 g1 g2 f1 d1 f2 d2
                  obtain ⟨adx, hadx, c1⟩ := (HRX2.out.ext (HRW.out.ext.trans HX6.out)).at_ (bs_get xs iN hix)
                  injection hadx with hadx
                  subst hadx
                  rw [← HXI.out, add_plain] at c1
                  obtain ⟨gi, g1, g2⟩ := (HT2.out.ext (HRW.out.ext.trans HX6.out)).at_ pw x
                  go_quiet (fail)
                  have HH := Lib.hid (And.intro (HX6.out.drewN (w := W5) nq) (HO6.out.drewN nq))
                  clear c1 g1 g2
                  go_wp2_with fail
                  go_roundw
                  case rel => exact ⟨jN + 1, by omega, by go_num, HPS.out, HH.out.1, HH.out.2⟩
                  case measure => simp [intOf]; omega
                · have hdl : decide ((jN : Int) ≤ (e : Int)) = false := decide_eq_false (by omega)
                  rw [rowF_skip e x y jN jN hje] at ho4
                  have f2 := ho4.frozen (e + 1 + jN)
                  have d2 := ho4.cell (ofS_getb U (rowF e x y (jN + 1) jN) (e + 1 + jN) hUi)
                  have ho6 := ho4.set (e + 1 + jN) (.int .u8 (pw.val : Int))
                  have hup2 : upd (rowF e x y (jN + 1) jN) (e + 1 + jN) pw = rowF e x y (jN + 1) (jN + 1) := by rw [HPW.out]; exact rowF_two e x y (jN + 1) jN
                  rw [ofS_setb, hup2] at ho6
                  have hx6 := hx4.new (p := ⟨W3.heap.size, e + 1 + jN, none⟩) (Nat.le_refl _) (.int .u8 (pw.val : Int))
                  obtain ⟨W5, hW5⟩ : ∃ W, W = W4.setCell ⟨W3.heap.size, e + 1 + jN, none⟩ (.int .u8 (pw.val : Int)) := ⟨_, rfl⟩
                  rw [← hW5] at ho6 hx6
                  have HO6 := Lib.hid ho6
                  have HX6 := Lib.hid hx6
                  clear ho4 hx4 ho6 hx6 hup2 hxw
                  go_wp2_with fail
                  rw [← hW5]
                  clear hW5 f2 d2
                  obtain ⟨adx, hadx, c1⟩ := (HRX2.out.ext (HRW.out.ext.trans HX6.out)).at_ (bs_get xs iN hix)
                  injection hadx with hadx
                  subst hadx
                  rw [← HXI.out, add_plain] at c1
                  obtain ⟨gi, g1, g2⟩ := (HT2.out.ext (HRW.out.ext.trans HX6.out)).at_ pw x
                  go_quiet (fail)
                  have HH := Lib.hid (And.intro (HX6.out.drewN (w := W5) nq) (HO6.out.drewN nq))
                  clear c1 g1 g2
                  go_wp2_with fail
                  go_roundw
                  case rel => exact ⟨jN + 1, by omega, by go_num, HPS.out, HH.out.1, HH.out.2⟩
                  case measure => simp [intOf]; omega
              · have hje : jN = k + e := by omega
                have hI1' : decide ((jN : Int) < (k : Int) + (e : Int)) = false := decide_eq_false (by omega)
                have hfin : ofS U (rowF e x y jN jN) = bwRow e k (xs.getD iN 0) (ys.getD iN 0) := by
                  rw [getD_at hix, getD_at hiy, ← HXI.out, ← HYI.out, HU.out, hje]; exact rowF_all e k x y hk
                rw [hfin] at ho4
                obtain ⟨V, hVl, hVo, hVr, hVf⟩ := HRW.out.ex
                have hVo4 := hVo.ext hx4
                have hle4 : W2.heap.size ≤ W4.heap.size := (HRW.out.ext.trans hx4).le
                have hbd : (V.length + 1) * 24 ≤ 140737488355328 := by rw [hVl]; omega
                have HO4 := Lib.hid ho4
                have HX4 := Lib.hid hx4
                have HV := Lib.hid (And.intro hVl (And.intro hVo4 (And.intro hVr hVf)))
                clear hje hfin ho4 hx4 hVl hVo hVr hVf hVo4
                go_wp2_with (at_builtin; refine wpList_push2 W4 eltRowU8 rfl _ _ (by rfl) W2.heap.size v _ (by rfl) (by exact HV.out.2.1) (.slice (some ⟨W3.heap.size, 0, none⟩) U U) W4.heap.size rfl (by rfl) rfl hbd hle4 ?_)
                intro v2 W6 k1 k2 k3 k4
                have HR6 : Hid (Rowing W2 W6 e k U (iN + 1) xs ys v2) := Lib.hid (by
                  have hV1 := HV.out.2.1.alloc (.cells #[.slice (some ⟨W3.heap.size, 0, none⟩) U U] 24)
                  refine ⟨(HRW.out.ext.trans HX4.out).below.trans k3, V ++ [.slice (some ⟨W3.heap.size, 0, none⟩) U U], by rw [List.length_append, HV.out.1]; rfl, k1, ⟨fun a u ha => ?_⟩, HV.out.2.2.2.snoc fun a u ha => ?_⟩
                  · rcases Nat.lt_or_ge a V.length with h1 | h1
                    · rw [List.getElem?_append_left h1] at ha
                      have h2 := ((HV.out.2.2.1.own a u ha).ext HX4.out).alloc (.cells #[.slice (some ⟨W3.heap.size, 0, none⟩) U U] 24)
                      exact h2.kept k2.grown (h2.types hV1 (by decide))
                    · rw [List.getElem?_append_right h1] at ha
                      have ha0 : a - V.length = 0 := by
                        rcases Nat.eq_zero_or_pos (a - V.length) with h | h
                        · exact h
                        · rw [List.getElem?_eq_none (by simp; omega)] at ha; cases ha
                      rw [ha0] at ha
                      simp at ha
                      subst ha
                      have hak : a = iN := by have := HV.out.1; omega
                      rw [hak]
                      have h2 := HO4.out.alloc (.cells #[.slice (some ⟨W3.heap.size, 0, none⟩) U U] 24)
                      exact (h2.kept k2.grown (h2.types hV1 (by decide))).mono HRW.out.ext.le
                  · have hu0 := HV.out.2.2.1.own a u ha
                    have hne : ∀ g, u.ownBlock = some g → g < W3.heap.size := fun g e' => (hu0.lt g e').2
                    constructor
                    · cases e' : u.ownBlock with
                      | none => exact .inl rfl
                      | some g => exact .inr fun e2 => by simp only [Value.ownBlock, Option.some.injEq] at e2; have := hne g e'; omega
                    · exact .inr fun e2 => by have := hne _ e2.symm; simp at this)
                clear k1 k2 k3 k4 HV HO4 HX4 hle4 hbd
                go_wp2_with fail
                go_roundw
                case rel => exact ⟨iN + 1, v2, rfl, by omega, by go_num, HR6.out⟩
                case measure => simp [intOf]; omega
          · obtain rfl : N = iN := by omega
            obtain ⟨V, hVl, hVo, hVr, hVf⟩ := HRW.out.ex
            obtain ⟨G, cap, rfl⟩ := own_some hVo (by omega)
            rw [hVl] at hVo ⊢
            have hUi : (e : Int) + 1 + (k : Int) + (e : Int) = (U : Int) := by rw [HU.out]; omega
            have HUI := Lib.hid hUi
            have HKE := Lib.hid (kernel_n gt ct G N cap U V (fun i => bwRow e k (xs.getD i 0) (ys.getD i 0)) W2.heap.size W2 W3 HT2.out HRW.out.ext (Nat.le_refl _) HRW.out.ext.le hVo hVr hVf hVl (fun i _ => by rw [bwRow_length, HU.out]) hU0 (by omega) (by omega))
            have HEN : Hid (e = (xs.length - k) / 2) := Lib.hid (by rw [HXS.out]; exact HE.out)
            have HLL : Hid (ys.length = xs.length) := Lib.hid (by rw [HXS.out, HYS.out])
            have hq := fun (w : World) (a : Option Addr) (l c : Nat) => Lib.run_eql_slice_nil (P := Try.prog) w 24 5 a l c 0 0 Try.underlying24
            clear hVl hVo hVr hVf hUi hmk
            go_wp2_with fail
            rw [HUI.out]
            refine HKE.out.mono ?_
            rintro e' W4 ⟨hko, hb⟩
            have HX4 : Hid (Ext W2 W4) := Lib.hid (Below.trans HRW.out.ext hb)
            have hle3 : W2.heap.size ≤ W3.heap.size := HRW.out.ext.le
            have hlew : w.heap.size ≤ W2.heap.size := HX2.out.le
            clear hb HKE
            rcases hko with ⟨g, sv, rfl, hso, hsl, hne, hsol⟩ | ⟨rfl, hnone⟩
            case inr =>
              have HNO : Hid (∀ p, ¬ NearOK k xs ys p) := Lib.hid fun p hp => by
                obtain ⟨s, hs, i, hi, hne⟩ := bw_some HLL.out HEN.out hk hp
                rw [HXS.out, ← HU.out] at hs
                exact hne (hnone s hs i (by rw [HU.out]; exact hi))
              clear hnone
              go_wp2
              go_ret2
              exact ⟨.inr ⟨_, rfl, HNO.out⟩, HX2.out.trans HX4.out⟩
            have HF : Hid (∀ q, NearOK k xs ys q → 0 < dg (sv.take (e + 1)) ∧ DivOK (sv.drop (e + 1)) (sv.take (e + 1)) (Gf.trim q) []) := Lib.hid fun q hq => by
              refine bw_full HND.out HLL.out HEN.out hk hq (by rw [hsl, HU.out]) (by rw [← HU.out]; exact hne) ?_
              rw [HXS.out, ← HU.out]
              exact hsol
            have hxd : Ext W4 W4.drew := (Ext.refl W4).drewN 1
            have hrs := hso.rd.ext hxd
            have hr1 : Rd W4.drew (some ⟨g, e + 1, none⟩) (bs (sv.drop (e + 1))) := by
              have h1 := hrs.cut (k := e + 1) (cap := U) (by rw [bs_length, hsl]; omega) (by rw [bs_length, hsl]; exact Nat.le_refl _)
              rw [if_neg (by omega), ← bs_drop] at h1
              simpa [add_plain] using h1
            have hr2 : Rd W4.drew (some ⟨g, 0, none⟩) (bs (sv.take (e + 1))) := by rw [bs_take]; exact hrs.take _
            have HDV := Lib.hid (refDivide_all (some ⟨g, e + 1, none⟩) (some ⟨g, 0, none⟩) (U - (e + 1)) (e + 1) (U - (e + 1)) U (sv.drop (e + 1)) (sv.take (e + 1)) W4.drew (by rw [List.length_drop, hsl]) (by rw [List.length_take, hsl]; omega) hr1 hr2 (by omega) (by omega))
            have hUd : ¬ (U = e + 1) := by omega
            have hUd2 : ¬ (U ≤ e + 1) := by omega
            have hee : (e : Int) + 1 ≤ (U : Int) := by omega
            have hee2 : e + 1 ≤ U := by omega
            have hwe : IntKind.i64.wrap ((e : Int) + 1) = (e : Int) + 1 := IntWalk.i64_in _ (by omega)
            have hwt : ((e : Int) + 1).toNat = e + 1 := by omega
            have hw0 : (0 : Int) ≤ (e : Int) + 1 := by omega
            clear hso hsl hne hsol hrs hr1 hr2 hxd
            go_wp2_with fail
            refine wp_region_mix (fun i => [0, 0, 0, 0, 0, 0, 0, 0, 1, 3, 3, 3, 3, 3, 3, 3].getD i 0) (fun w' => Ext W4 w') hmo (by kernel_rfl) (by kernel_rfl) ((Ext.refl _).drewN 1) ?_
            refine mix_still (.slice (some ⟨g, 0, none⟩) U U) rfl (fun w' hw' => by go_simp) ?_
            refine mix_still (.int .i64 (e : Int)) rfl (fun w' hw' => by go_simp) ?_
            refine mix_still (.int .i64 ((e : Int) + 1)) rfl (fun w' hw' => by go_simp) ?_
            refine mix_still (.slice (some ⟨g, e + 1, none⟩) (U - (e + 1)) (U - (e + 1))) rfl (fun w' hw' => by go_simp) ?_
            refine mix_still (.slice (some ⟨g, 0, none⟩) U U) rfl (fun w' hw' => by go_simp) ?_
            refine mix_still (.int .i64 (e : Int)) rfl (fun w' hw' => by go_simp) ?_
            refine mix_still (.int .i64 ((e : Int) + 1)) rfl (fun w' hw' => by go_simp) ?_
            refine mix_still (.slice (some ⟨g, 0, none⟩) (e + 1) U) rfl (fun w' hw' => by go_simp) ?_
            refine mix_call 44 #[.slice (some ⟨g, e + 1, none⟩) (U - (e + 1)) (U - (e + 1)), .slice (some ⟨g, 0, none⟩) (e + 1) U] rfl (by go_simp) ?_
            refine HDV.out.mono ?_
            rintro e' W5 ⟨vs, vr, p, r, kk, rfl, hdv, hop, hor, hx5⟩
            have hx5' : Ext W4 W5 := ((Ext.refl W4).drewN 1).trans hx5
            refine ⟨_, rfl, hx5', ?_⟩
            refine mix_pure (.tuple #[vs, vr, .int .i64 kk]) rfl (fun w' => by go_simp) ?_
            refine mix_pure vs rfl (fun w' => by go_simp) ?_
            refine mix_pure vr rfl (fun w' => by go_simp) ?_
            refine mix_pure (.int .i64 kk) rfl (fun w' => by go_simp) ?_
            refine mix_pure vs rfl (fun w' => by go_simp) ?_
            refine mix_pure vr rfl (fun w' => by go_simp) ?_
            refine mix_pure (.int .i64 kk) rfl (fun w' => by go_simp) ?_
            refine mix_nil ?_
            obtain ⟨Ap, cp, rfl, hrp, hcp, hmp⟩ := hop.bytesN rfl
            obtain ⟨Ar, cr, rfl, -, -, -⟩ := hor.bytesN rfl
            have HOP : Hid (Own W5 w.heap.size 5 (.slice Ap p.length cp) (bs p)) := Lib.hid (hop.mono (Nat.le_trans hlew (HX4.out.le)))
            have HRP := Lib.hid hrp
            have HX5 : Hid (Ext W2 W5) := Lib.hid (HX4.out.trans hx5')
            clear hop hor hx5 hx5' hrp HDV hwe hwt hw0 hUd hUd2 hee hee2
            rcases hdv with ⟨h0, -, -, rfl⟩ | ⟨h0, hd, rfl⟩
            · have HNO : Hid (∀ q, ¬ NearOK k xs ys q) := Lib.hid fun q hq => by have := (HF.out q hq).1; omega
              clear h0
              go_wp2_with fail
              refine bodyPost_ret (results_tmp2 rfl _ _ _) rfl ?_
              refine ⟨.inr ⟨.slice none 0 0, ?_, HNO.out⟩, HX2.out.trans HX5.out⟩
              first | (with_reducible rfl) | (simp; done) | go_simp
            · have HUQ : Hid (∀ q, NearOK k xs ys q → p = Gf.trim q ∧ r = []) := Lib.hid fun q hq => hd.uniq (HF.out q hq).2
              clear hd h0
              by_cases hr0 : r.length = 0
              · have hr0i : ((r.length : Int) != 0) = false := by rw [bne_eq_false_iff_eq]; omega
                by_cases hpk : p.length ≤ k
                · have hpd : decide ((k : Int) < (p.length : Int)) = false := decide_eq_false (by omega)
                  have HRX5 := Lib.hid (HRX2.out.ext HX5.out)
                  have HRY5 := Lib.hid (HRY2.out.ext HX5.out)
                  have HT5 := Lib.hid (HT2.out.ext HX5.out)
                  have HXW5 := Lib.hid (HX2.out.trans HX5.out)
                  have hcl : ∀ i, cntTo p xs ys i ≤ i := cntTo_le p xs ys
                  have HCL := Lib.hid hcl
                  clear hr0 hcl hq
                  go_wp2_with fail
                  go_simp
                  go_loopw [24, 25] (fun c i wr => ∃ iN : Nat, iN ≤ N ∧ i = .int .i64 iN ∧ c = .int .i64 ((cntTo p xs ys iN : Nat) : Int) ∧ Ext W5 wr) (fun _ i _ => N - (intOf i).toNat)
                  case atStart => exact ⟨0, by omega, rfl, rfl, Ext.refl _⟩
                  case round =>
                    obtain ⟨W6, rfl⟩ : ∃ W, W = wr := ⟨_, rfl⟩
                    obtain ⟨iN, hi, rfl, rfl, hx6⟩ := hrel
                    have hcb := HCL.out iN
                    obtain ⟨cN, hcN⟩ : ∃ c, c = cntTo p xs ys iN := ⟨_, rfl⟩
                    rw [← hcN] at hcb ⊢
                    have HCN := Lib.hid hcN
                    clear hcN
                    by_cases hlt : iN < N
                    · have hix : iN < xs.length := by rw [HXS.out]; exact hlt
                      have hiy : iN < ys.length := by rw [HYS.out]; exact hlt
                      obtain ⟨adx, hadx, c1⟩ := (HRX5.out.ext hx6).at_ (bs_get xs iN hix)
                      injection hadx with hadx
                      subst hadx
                      rw [add_plain] at c1
                      obtain ⟨ady, hady, c2⟩ := (HRY5.out.ext hx6).at_ (bs_get ys iN hiy)
                      injection hady with hady
                      subst hady
                      rw [add_plain] at c2
                      have HA := Lib.hid (fun nn : Nat => at5_n gt ct Ap p.length p cp xs[iN] (W6.drewN nn) ((HT5.out.ext hx6).ext ((Ext.refl W6).drewN nn)) rfl ((HRP.out.ext hx6).drewN nn) (by omega))
                      have hl1 := (xs[iN]).lt
                      have hl2 := (ys[iN]).lt
                      have hl3 := (evL p xs[iN]).lt
                      have HX6 := Lib.hid hx6
                      clear hx6
                      by_cases he : evL p xs[iN] = ys[iN]
                      · have hb : (((evL p xs[iN]).val : Int) != ((ys[iN]).val : Int)) = false := by rw [he]; simp
                        have HCN2 : Hid (cN = cntTo p xs ys (iN + 1)) := Lib.hid (by rw [cntTo, getD_at hix, getD_at hiy, if_pos he, Nat.add_zero]; exact HCN.out)
                        clear he
                        go_wp2_with fail
                        go_quiet ((go_at_call 121; with_reducible exact quiet_left (HA.out _)))
                        have HX7 := Lib.hid (HX6.out.drewN (w := W6) nq)
                        clear c1 c2 HA
                        go_wp2_with fail
                        go_roundw
                        case rel => exact ⟨iN + 1, by omega, by go_num, by rw [← HCN2.out], HX7.out⟩
                        case measure => simp [intOf]; omega
                      · have hb : (((evL p xs[iN]).val : Int) != ((ys[iN]).val : Int)) = true := by
                          rw [bne_iff_ne]
                          intro e'
                          exact he (E.ext (by omega))
                        have HCN2 : Hid (cN + 1 = cntTo p xs ys (iN + 1)) := Lib.hid (by rw [cntTo, getD_at hix, getD_at hiy, if_neg he, HCN.out])
                        clear he
                        go_wp2_with fail
                        go_quiet ((go_at_call 121; with_reducible exact quiet_left (HA.out _)))
                        have HX7 := Lib.hid (HX6.out.drewN (w := W6) nq)
                        clear c1 c2 HA
                        go_wp2_with fail
                        go_roundw
                        case rel => exact ⟨iN + 1, by omega, by go_num, by rw [← HCN2.out]; go_num, HX7.out⟩
                        case measure => simp [intOf]; omega
                    · obtain rfl : N = iN := by omega
                      have hcw : cN = (wrongs p xs ys).length := by
                        rw [HCN.out]
                        have := cntTo_all (p := p) HLL.out
                        rwa [HXS.out] at this
                      have HX6 := Lib.hid hx6
                      have HCW := Lib.hid hcw
                      clear hx6 hcw
                      by_cases hce : cN ≤ e
                      · have hcd : decide ((cN : Int) ≤ (e : Int)) = true := decide_eq_true (by omega)
                        have HNR : Hid (NearOK k xs ys p) := Lib.hid ⟨Nat.le_trans (dg_le p) hpk, by rw [← HCW.out, HXS.out]; have := HE.out; omega⟩
                        go_wp2_with fail
                        go_ret2
                        exact ⟨.inl ⟨_, p, rfl, HNR.out, hpk, HOP.out.ext HX6.out⟩, HXW5.out.trans HX6.out⟩
                      · have hcd : decide ((cN : Int) ≤ (e : Int)) = false := decide_eq_false (by omega)
                        have HNO : Hid (∀ q, ¬ NearOK k xs ys q) := Lib.hid fun q hq => by
                          have h1 := hq.few
                          have h2 : wrongs p xs ys = wrongs q xs ys := wrongs_congr fun x => by rw [(HUQ.out q hq).1, evL_trim]
                          rw [← h2, ← HCW.out, HXS.out] at h1
                          have := HE.out
                          omega
                        go_wp2_with fail
                        go_ret2
                        exact ⟨.inr ⟨_, rfl, HNO.out⟩, HXW5.out.trans HX6.out⟩
                · have hpd : decide ((k : Int) < (p.length : Int)) = true := decide_eq_true (by omega)
                  have HNO : Hid (∀ q, ¬ NearOK k xs ys q) := Lib.hid fun q hq => by
                    have h1 := (HUQ.out q hq).1
                    rw [h1, trim_length] at hpk
                    exact hpk hq.len
                  clear hr0 hq
                  go_wp2_with fail
                  refine bodyPost_ret (results_tmp2 rfl _ _ _) rfl ?_
                  refine ⟨.inr ⟨.slice none 0 0, ?_, HNO.out⟩, HX2.out.trans HX5.out⟩
                  first | (with_reducible rfl) | (simp; done) | go_simp
              · have hr0i : ((r.length : Int) != 0) = true := by rw [bne_iff_ne]; omega
                have HNO : Hid (∀ q, ¬ NearOK k xs ys q) := Lib.hid fun q hq => by
                  have h1 := (HUQ.out q hq).2
                  rw [h1] at hr0
                  exact hr0 rfl
                clear hq
                go_wp2_with fail
                refine bodyPost_ret (results_tmp2 rfl _ _ _) rfl ?_
                refine ⟨.inr ⟨.slice none 0 0, ?_, HNO.out⟩, HX2.out.trans HX5.out⟩
                first | (with_reducible rfl) | (simp; done) | go_simp
end Go.Proofs.Ytemnlcfabaocbaa
