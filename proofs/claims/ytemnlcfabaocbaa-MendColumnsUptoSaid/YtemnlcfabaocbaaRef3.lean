/-
  The walks of the document's answer for chapter 2: sums, multiples, products, the derivative.
-/
import Derived.Test.YtemnlcfabaocbaaRef2
import Derived.Test.YtemnlcfabaocbaaQuiet
namespace Go.Proofs.Ytemnlcfabaocbaa
open Go.RowKit Gf
set_option maxRecDepth 20000
set_option linter.unusedVariables false

/-- A region of quiet operations with a store at its end, outside of a fence. -/
theorem region_store_plain {P : Program} {id : Nat} {Q : Exit → Act → World → Prop} {a : Act} {w : World} {L : List Oper} (hm : P.follows .mixedOrders = true) (hc : closes L = true) (hB : Region.lexB .any (muted L).toArray = true) (hnd : noDefer L.toArray = true)
    (h : wpQuietIn Fence.wide 0 P (muted L).toArray (fun w' => ∃ n, w' = w.drewN n) (fun a' => ∀ w', (∃ n, w' = w.drewN n) → ∀ s, L.getLast? = some s → s.wpIn Fence.wide 0 P a' w' (fun a w => Q .normal a w) Q) L.dropLast a) : (Code.region id L.toArray true).wp P Q a w :=
  (wpIn_wide (n := 0)).1 (region_store hm hc hB hnd h)

theorem coef_n (A : Option Addr) (n : Nat) (p : List E) (cap i : Nat) (w : World) (hn : p.length = n) (hr : Rd w A (bs p)) (hi : i ≤ 140737488355328) :
    Calls Try.prog 89 #[.slice A n cap, .int .i64 i] w fun e w' => e = .returned (.int .u8 (ser p i).val) ∧ w = w' := by
  by_cases h : i < n
  · have hp : i < p.length := by omega
    obtain ⟨ad, rfl, hc⟩ := hr.byte hp
    rw [← ser_at p i hp] at hc
    clear hn hp
    go_enter Try.func89, Try.ntmps89
    go_wp2
    go_ret
    exact ⟨rfl, rfl⟩
  · have hz := Lib.hid (ser_out p i (by omega))
    clear hn
    go_enter Try.func89, Try.ntmps89
    go_wp2
    go_ret
    exact ⟨by rw [hz.out]; rfl, rfl⟩
theorem bs_ofS_succ (k : Nat) (f : S) : bs (ofS (k + 1) f) = bs (ofS k f) ++ [.int .u8 ((f k).val : Int)] := by rw [ofS_succ, bs_append]; rfl
set_option maxHeartbeats 1000000 in
theorem refPlus_n (A B : Option Addr) (n m : Nat) (p q : List E) (ca cb : Nat) (w : World) (hn : p.length = n) (hm : q.length = m) (hr : Rd w A (bs p)) (hs : Rd w B (bs q)) (hlen : n ≤ 140737488355327) (hlenq : m ≤ 140737488355327) :
    Calls Try.prog 36 #[.slice A n ca, .slice B m cb] w fun e w' => ∃ v, e = .returned v ∧ Own w' w.heap.size 5 v (bs (plusL p q)) ∧ Ext w w' := by
  obtain ⟨N, hN, hc⟩ : ∃ N, N = max n m ∧ ((n < m ∧ N = m) ∨ (m ≤ n ∧ N = n)) := ⟨_, rfl, by omega⟩
  have HT := Lib.hid (show trim (ofS N (S.add (ser p) (ser q))) = plusL p q by rw [plusL, hn, hm, hN])
  have hNl : N ≤ 140737488355327 := by omega
  have HL := Lib.hid (ofS_length N (S.add (ser p) (ser q)))
  clear hN
  have key : ∀ (k : Nat) (V : Value) (wr : World), Ext w wr → Own wr w.heap.size 5 V (bs (ofS k (S.add (ser p) (ser q)))) → k < N →
      ((bs (ofS k (S.add (ser p) (ser q)))).length + 1) * 1 ≤ 140737488355328 := fun k V wr _ _ hk => by rw [bs_ofS_len]; omega
  rcases hc with ⟨hlt, rfl⟩ | ⟨hlt, rfl⟩
  rotate_left
  have hdec : decide (N < m) = false := decide_eq_false (by omega)
  rotate_left
  all_goals
    go_enter Try.func36, Try.ntmps36
    go_wp2
    go_loopw [6, 7] (fun v i wr => ∃ (k : Nat) (V : Value), V = v ∧ k ≤ N ∧ i = .int .i64 k ∧ Ext w wr ∧ Own wr w.heap.size 5 V (bs (ofS k (S.add (ser p) (ser q))))) (fun _ i _ => N - (intOf i).toNat)
    case atStart => exact ⟨0, _, rfl, by omega, rfl, Ext.refl _, Own.nil _ _ _⟩
    case round =>
      obtain ⟨k, V, rfl, hk, rfl, hx, ho⟩ := hrel
      by_cases hlt2 : k < N
      · have hle := hx.le
        have hbd := key k V wr hx ho hlt2
        have hxo := bits_u8_xor (ser p k) (ser q k)
        have h1 := (ser p k).lt
        have h2 := (ser q k).lt
        have h3 := (ser p k + ser q k).lt
        have hrp := hr.ext hx
        have hrq := hs.ext hx
        have hkb : k ≤ 140737488355328 := by omega
        have HS := Lib.hid (bs_ofS_succ k (S.add (ser p) (ser q)))
        go_wp2_with (first | (go_at_call 89; with_reducible refine (coef_n A _ p _ k _ hn hrp hkb).mono ?_; rintro e w' ⟨rfl, rfl⟩) | (go_at_call 89; with_reducible refine (coef_n B _ q _ k _ hm hrq hkb).mono ?_; rintro e w' ⟨rfl, rfl⟩) | (at_builtin; refine wpList_push _ eltU8 rfl _ _ (by rfl) w.heap.size V _ (by rfl) (by exact ho) (.int .u8 (ser p k + ser q k).val) (by rfl) rfl hbd hle ?_; intro v' w' ho' _ hb' _))
        go_roundw
        case rel => exact ⟨k + 1, _, rfl, by omega, by go_num, Below.trans hx hb', by rw [HS.out]; exact ho'⟩
        case measure => simp [intOf]; omega
      · obtain rfl : k = N := by omega
        obtain ⟨A1, c1, rfl, -, hr1, -, -⟩ := ho.bytes
        rw [HL.out]
        have hx' := hx
        go_wp2_with fail
        refine (refTrim_n A1 _ _ c1 _ HL.out hr1 (by omega)).mono ?_
        rintro e w2 ⟨v, rfl, ho2, hx2⟩
        go_wp2
        go_ret
        exact ⟨_, rfl, by rw [← HT.out]; exact ho2.mono hx.le, hx.trans hx2⟩
set_option maxHeartbeats 1000000 in
theorem refScale_n (A : Option Addr) (n : Nat) (p : List E) (cap : Nat) (c : E) (w : World) (hn : p.length = n) (hr : Rd w A (bs p)) (hlen : n ≤ 140737488355327) :
    Calls Try.prog 38 #[.slice A n cap, .int .u8 c.val] w fun e w' => ∃ v, e = .returned v ∧ Own w' w.heap.size 5 v (bs (scaleL p c)) ∧ Ext w w' := by
  have HT := Lib.hid (show trim (ofS n (S.smul c (ser p))) = scaleL p c by rw [scaleL, hn])
  have HL := Lib.hid (ofS_length n (S.smul c (ser p)))
  have HN := Lib.hid hn
  have hcl := c.lt
  clear hn
  go_enter Try.func38, Try.ntmps38
  go_wp2
  go_loopw [5, 6] (fun v i wr => ∃ (k : Nat) (V : Value), V = v ∧ k ≤ n ∧ i = .int .i64 k ∧ Ext w wr ∧ Own wr w.heap.size 5 V (bs (ofS k (S.smul c (ser p))))) (fun _ i _ => n - (intOf i).toNat)
  case atStart => exact ⟨0, _, rfl, by omega, rfl, Ext.refl _, Own.nil _ _ _⟩
  case round =>
    obtain ⟨k, V, rfl, hk, rfl, hx, ho⟩ := hrel
    by_cases hlt : k < n
    · have hkp : k < p.length := by have := HN.out; omega
      obtain ⟨ad, rfl, hc⟩ := (hr.ext hx).byte hkp
      have hle := hx.le
      have hbd : ((bs (ofS k (S.smul c (ser p)))).length + 1) * 1 ≤ 140737488355328 := by rw [bs_ofS_len]; omega
      have hpl := (p[k]).lt
      have hml := (p[k] * c).lt
      have HS := Lib.hid (show bs (ofS (k + 1) (S.smul c (ser p))) = bs (ofS k (S.smul c (ser p))) ++ [.int .u8 ((p[k] * c).val : Int)] by
        rw [bs_ofS_succ, show S.smul c (ser p) k = p[k] * c by rw [S.smul, ser_at p k hkp, E.mul_comm]])
      go_wp2_with (first | (go_at_call 86; with_reducible refine (refMul_any _ _ _).mono ?_; rintro e w' ⟨rfl, rfl⟩) | (at_builtin; refine wpList_push _ eltU8 rfl _ _ (by rfl) w.heap.size V _ (by rfl) (by exact ho) (.int .u8 (p[k] * c).val) (by rfl) rfl hbd hle ?_; intro v' w' ho' _ hb' _))
      go_roundw
      case rel => exact ⟨k + 1, _, rfl, by omega, by go_num, Below.trans hx hb', by rw [HS.out]; exact ho'⟩
      case measure => simp [intOf]; omega
    · obtain rfl : k = n := by omega
      obtain ⟨A1, c1, rfl, -, hr1, -, -⟩ := ho.bytes
      rw [HL.out]
      go_wp2_with fail
      refine (refTrim_n A1 _ _ c1 _ HL.out hr1 (by omega)).mono ?_
      rintro e w2 ⟨v, rfl, ho2, hx2⟩
      go_wp2
      go_ret
      exact ⟨_, rfl, by rw [← HT.out]; exact ho2.mono hx.le, hx.trans hx2⟩
set_option maxHeartbeats 1000000 in
theorem refDerive_n (A : Option Addr) (n : Nat) (p : List E) (cap : Nat) (w : World) (hn : p.length = n) (hr : Rd w A (bs p)) (hlen : n ≤ 140737488355327) :
    Calls Try.prog 39 #[.slice A n cap] w fun e w' => ∃ v, e = .returned v ∧ Own w' w.heap.size 5 v (bs (deriveL p)) ∧ Ext w w' := by
  obtain ⟨N, hN⟩ : ∃ N, N = n - 1 := ⟨_, rfl⟩
  have HT := Lib.hid (show trim (ofS N (deriveS (ser p))) = deriveL p by rw [deriveL, hn, hN])
  have HL := Lib.hid (ofS_length N (deriveS (ser p)))
  have HN := Lib.hid hn
  have HNN := Lib.hid hN
  clear hn hN
  go_enter Try.func39, Try.ntmps39
  go_wp2
  go_loopw [3, 4] (fun v i wr => ∃ (k : Nat) (V : Value), V = v ∧ k ≤ N ∧ i = .int .i64 k ∧ Ext w wr ∧ Own wr w.heap.size 5 V (bs (ofS k (deriveS (ser p))))) (fun _ i _ => N - (intOf i).toNat)
  case atStart => exact ⟨0, _, rfl, by omega, rfl, Ext.refl _, Own.nil _ _ _⟩
  case round =>
    obtain ⟨k, V, rfl, hk, rfl, hx, ho⟩ := hrel
    have hle := hx.le
    have hw1 : wrap64 ((k : Int) + 1) = (k : Int) + 1 := IntWalk.wrap64_in _ (by have := HNN.out; omega)
    by_cases hlt : k < N
    · have hkn : k + 1 < n := by have := HNN.out; omega
      have hkp : k + 1 < p.length := by have := HN.out; omega
      have hki : (k : Int) + 1 < (n : Int) := by omega
      obtain ⟨ad, rfl, hc⟩ := (hr.ext hx).byte hkp
      have hbd : ((bs (ofS k (deriveS (ser p)))).length + 1) * 1 ≤ 140737488355328 := by rw [bs_ofS_len]; omega
      have hpl := (p[k + 1]).lt
      have hc1 : ((k : Int) + 1).toNat = k + 1 := by omega
      simp only [Addr.add, Nat.add_one_ne_zero, if_false] at hc
      by_cases hev : k % 2 = 0
      · have hkm : ((k : Int) % 2 == 0) = true := by rw [beq_iff_eq]; omega
        have HS := Lib.hid (show bs (ofS (k + 1) (deriveS (ser p))) = bs (ofS k (deriveS (ser p))) ++ [.int .u8 ((p[k + 1]).val : Int)] by
          rw [bs_ofS_succ, deriveS, if_pos hev, ser_at p (k + 1) hkp])
        clear hev
        go_wp2_with (at_builtin; refine wpList_push _ eltU8 rfl _ _ (by rfl) w.heap.size V _ (by rfl) (by exact ho) (.int .u8 (p[k + 1]).val) (by rfl) rfl hbd hle ?_; intro v' w' ho' _ hb' _)
        go_roundw
        case rel => exact ⟨k + 1, _, rfl, by omega, by go_num, Below.trans hx hb', by rw [HS.out]; exact ho'⟩
        case measure => simp [intOf]; omega
      · have hkm : ((k : Int) % 2 == 0) = false := by rw [beq_eq_false_iff_ne]; omega
        have HS := Lib.hid (show bs (ofS (k + 1) (deriveS (ser p))) = bs (ofS k (deriveS (ser p))) ++ [.int .u8 0] by
          rw [bs_ofS_succ, deriveS, if_neg hev]; rfl)
        clear hev
        go_wp2_with (at_builtin; refine wpList_push _ eltU8 rfl _ _ (by rfl) w.heap.size V _ (by rfl) (by exact ho) (.int .u8 0) (by rfl) rfl hbd hle ?_; intro v' w' ho' _ hb' _)
        go_roundw
        case rel => exact ⟨k + 1, _, rfl, by omega, by go_num, Below.trans hx hb', by rw [HS.out]; exact ho'⟩
        case measure => simp [intOf]; omega
    · obtain rfl : k = N := by omega
      have hki : ¬ ((k : Int) + 1 < (n : Int)) := by have := HNN.out; omega
      obtain ⟨A1, c1, rfl, -, hr1, -, -⟩ := ho.bytes
      rw [HL.out]
      have hNb : k ≤ 140737488355328 := by have := HNN.out; omega
      go_wp2_with fail
      refine (refTrim_n A1 _ _ c1 _ HL.out hr1 hNb).mono ?_
      rintro e w2 ⟨v, rfl, ho2, hx2⟩
      go_wp2
      go_ret
      exact ⟨_, rfl, by rw [← HT.out]; exact ho2.mono hx.le, hx.trans hx2⟩
set_option maxHeartbeats 2000000 in
theorem refTimes_n (A B : Option Addr) (n m ca cb : Nat) (p q : List E) (w : World) (hn : p.length = n) (hm : q.length = m) (hr : Rd w A (bs p)) (hs : Rd w B (bs q)) (hlen : n + m ≤ 140737488355328) :
    Calls Try.prog 37 #[.slice A n ca, .slice B m cb] w fun e w' => ∃ v, e = .returned v ∧ Own w' w.heap.size 5 v (bs (timesL p q)) ∧ Ext w w' := by
  have hmk := make_bytes (n + m) (by omega)
  rw [zeros_ofS, Int.natCast_add] at hmk
  have HN := Lib.hid hn
  have HM := Lib.hid hm
  have HT := Lib.hid (show trim (ofS (n + m) (S.mul (ser p) (ser q))) = timesL p q by rw [timesL, hn, hm])
  have HA := Lib.hid (show partS p q n = S.mul (ser p) (ser q) by rw [← hn]; exact partS_all p q)
  have H0 := Lib.hid (partS_zero p q)
  have hmo : Try.prog.follows Departure.mixedOrders = true := by kernel_rfl
  have hwd : Fence.wide.depth = none := rfl
  have hwf : ∀ f, Fence.wide.fn f := fun _ => trivial
  clear hn hm
  go_enter Try.func37, Try.ntmps37
  go_wp2_with fail
  go_loopw [6] (fun i wr => ∃ k : Nat, k ≤ n ∧ i = .int .i64 k ∧ Ext w wr ∧ Blk wr w.heap.size 5 (bs (ofS (n + m) (partS p q k))).toArray) (fun i _ => n - (intOf i).toNat)
  case atStart => exact ⟨0, by omega, rfl, (Ext.refl _).alloc _, by rw [H0.out]; exact Blk.new _ _ _⟩
  case round =>
    obtain ⟨i, hi, rfl, hx, hb⟩ := hrel
    by_cases hlt : i < n
    · have hip : i < p.length := by have := HN.out; omega
      have HB' := Lib.hid (show Blk wr w.heap.size 5 (bs (ofS (n + m) (partT p q i 0))).toArray by rw [partT_zero]; exact hb)
      have HP := Lib.hid (show partT p q i m = partS p q (i + 1) by rw [← HM.out]; exact partT_all p q i)
      clear hb
      go_wp2
      go_loopw [7] (fun jj wr => ∃ j : Nat, j ≤ m ∧ jj = .int .i64 j ∧ Ext w wr ∧ Blk wr w.heap.size 5 (bs (ofS (n + m) (partT p q i j))).toArray) (fun jj _ => m - (intOf jj).toNat)
      case atStart => exact ⟨0, by omega, rfl, hx, HB'.out⟩
      case round =>
        obtain ⟨j, hj, rfl, hx2, hb2⟩ := hrel
        clear HB' hx
        by_cases hlt2 : j < m
        · have hjq : j < q.length := by have := HM.out; omega
          obtain ⟨ad, rfl, hc1⟩ := (hr.ext hx2).byte hip
          rw [← ser_at p i hip] at hc1
          obtain ⟨bd, rfl, hc2⟩ := (hs.ext hx2).byte hjq
          rw [← ser_at q j hjq] at hc2
          have hc3 : wr.cell? ⟨w.heap.size, i + j, none⟩ = some (.int .u8 ((partT p q i j (i + j)).val : Int)) := (hb2.cell (i + j)).trans (by rw [List.getElem?_toArray]; exact ofS_getb _ _ _ (by omega))
          have HB2 := Lib.hid hb2
          have HX2 := Lib.hid hx2
          clear hb2 hx2
          have hij : (i : Int) + (j : Int) < (n : Int) + (m : Int) := by omega
          have hij2 : (i : Int) + (j : Int) < ((n + m : Nat) : Int) := by omega
          have hij0 : (0 : Int) ≤ (i : Int) + (j : Int) := by omega
          have hij1 : i + j < n + m := by omega
          have hw1 : IntKind.i64.wrap ((i : Int) + (j : Int)) = (i : Int) + (j : Int) := IntWalk.i64_in _ (by omega)
          have hw3 : ((i : Int) + (j : Int)).toNat = i + j := by omega
          have hxo := bits_u8_xor (partT p q i j (i + j)) (ser p i * ser q j)
          have hl1 := (ser p i).lt
          have hl2 := (ser q j).lt
          go_wp2_with fail
          refine region_store_plain hmo (by kernel_rfl) (by kernel_rfl) (by kernel_rfl) ?_
          dsimp only [muted, mute, List.dropLast]
          repeat (gi_big_quiet_step ((gi_at_call 86; with_reducible refine (callsIn_wide.2 (refMul_any _ _ _)).mono ?_; rintro e w' ⟨rfl, rfl⟩; exact ⟨rfl, _, rfl⟩)))
          refine wpQuietIn_nil ?_
          rintro _ ⟨nq, rfl⟩ s hs'
          simp only [List.getLast?_cons_cons, List.getLast?_singleton, Option.some.injEq] at hs'
          subst hs'
          obtain ⟨W2, hW2⟩ : ∃ W2, W2 = wr.drewN nq := ⟨_, rfl⟩
          have hb3 : Blk W2 w.heap.size 5 (bs (ofS (n + m) (partT p q i j))).toArray := by rw [hW2]; exact HB2.out.drewN nq
          have hx3 : Ext w W2 := by rw [hW2]; exact HX2.out.drewN nq
          rw [← hW2]
          clear hW2 hc1 hc2 hc3 hxo
          have hc3 : W2.cell? ⟨w.heap.size, i + j, none⟩ = some (.int .u8 ((partT p q i j (i + j)).val : Int)) := (hb3.cell (i + j)).trans (by rw [List.getElem?_toArray]; exact ofS_getb _ _ _ (by omega))
          have hf := hb3.frozen (i + j)
          have hb4 := hb3.set_ (i + j) (.int .u8 ((partT p q i j (i + j) + ser p i * ser q j).val : Int))
          rw [List.setIfInBounds_toArray, ofS_setb, partT_step p q n i j] at hb4
          have HB4 := Lib.hid hb4
          have hx4 := hx3.new (p := ⟨w.heap.size, i + j, none⟩) (Nat.le_refl _) (.int .u8 ((partT p q i j (i + j) + ser p i * ser q j).val : Int))
          clear hb3 hb4 hw1 hw3 hx3
          go_simp
          go_wp2
          go_roundw
          case rel => exact ⟨j + 1, by omega, by go_num, hx4, HB4.out⟩
          case measure => simp [intOf]; omega
        · obtain rfl : j = m := by omega
          have HB2 := Lib.hid (show Blk wr w.heap.size 5 (bs (ofS (n + j) (partS p q (i + 1)))).toArray by rw [← HP.out]; exact hb2)
          clear hb2
          go_wp2
          go_roundw
          case rel => exact ⟨i + 1, by omega, by go_num, hx2, HB2.out⟩
          case measure => simp [intOf]; omega
    · obtain rfl : i = n := by omega
      rw [HA.out] at hb
      have hs2 : (bs (ofS (i + m) (S.mul (ser p) (ser q)))).toArray.size = i + m := by simp [bs, ofS_length]
      have ho := hb.own (B := w.heap.size) (n := i + m) (cap := i + m) (Nat.le_refl _) (Nat.le_refl _) (by simp only [maxLen]; omega) hs2
      rw [List.toList_toArray, List.take_of_length_le (by rw [bs_ofS_len]; exact Nat.le_refl _)] at ho
      have hrd := ho.rd
      have HL := Lib.hid (ofS_length (i + m) (S.mul (ser p) (ser q)))
      generalize hL : ofS (i + m) (S.mul (ser p) (ser q)) = L at hrd HL
      have HLL := Lib.hid hL
      clear hb hL ho hs2
      go_wp2_with fail
      refine (refTrim_n _ (i + m) L _ _ HL.out hrd (by omega)).mono ?_
      rintro e w2 ⟨v, rfl, ho2, hx2⟩
      go_wp2
      go_ret
      exact ⟨_, rfl, by rw [← HT.out, HLL.out]; exact ho2.mono hx.le, hx.trans hx2⟩
end Go.Proofs.Ytemnlcfabaocbaa
