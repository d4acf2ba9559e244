/-
  The walks of layer 2: products, the formal derivative.
-/
import Derived.Test.YtemnlcfabaocbaaPoly1
namespace Go.Proofs.Ytemnlcfabaocbaa
open Go.RowKit Gf
set_option maxRecDepth 20000
set_option linter.unusedVariables false

theorem ofS_getb (N : Nat) (f : S) (k : Nat) (hk : k < N) : (bs (ofS N f))[k]? = some (.int .u8 ((f k).val : Int)) := by
  rw [bs_get _ k (by rw [ofS_length]; exact hk), ofS_getElem]
def upd (f : S) (k : Nat) (v : E) : S := fun i => if i = k then v else f i
theorem ofS_setb (N : Nat) (f : S) (k : Nat) (v : E) : (bs (ofS N f)).set k (.int .u8 (v.val : Int)) = bs (ofS N (upd f k v)) := by
  have h : (ofS N f).set k v = ofS N (upd f k v) := ofS_set N f k v
  rw [← h, bs, bs, List.map_set]; rfl
theorem bs_ofS_len (N : Nat) (f : S) : (bs (ofS N f)).length = N := by rw [bs_length, ofS_length]
/-- What a block of coefficients is trimmed to. -/
theorem own_trim {w : World} {g N : Nat} {f : S} {B : Nat} (hb : Blk w g 34 (bs (ofS N f)).toArray) (hB : B ≤ g) (hm : N ≤ maxLen) :
    Own w B 34 (.slice (some ⟨g, 0, none⟩) (dg (ofS N f)) N) (bs (trim (ofS N f))) ∧ Rd w (some ⟨g, 0, none⟩) (bs (ofS N f)) ∧ dg (ofS N f) ≤ N := by
  have hd := dg_le (ofS N f)
  rw [ofS_length] at hd
  have hs : (bs (ofS N f)).toArray.size = N := by simp [bs, ofS_length]
  have ho := hb.own (B := B) (n := N) (cap := N) hB (Nat.le_refl _) hm hs
  have ho2 := hb.own (B := B) (n := dg (ofS N f)) (cap := N) hB hd hm hs
  rw [List.toList_toArray, ← bs_take] at ho ho2
  rw [List.take_of_length_le (by rw [ofS_length]; exact Nat.le_refl _)] at ho
  exact ⟨ho2, ho.rd, hd⟩

/-- The product of the first i coefficients of p with q, and of the next one with the first j of q. -/
def partS (p q : List E) (i : Nat) : S := S.mul (ser (p.take i)) (ser q)
def partT (p q : List E) (i j : Nat) : S := fun t => partS p q i t + (if i ≤ t ∧ t < i + j then ser p i * ser q (t - i) else 0)
theorem partS_zero (p q : List E) : partS p q 0 = S.zero := S.zero_mul _
theorem partS_all (p q : List E) : partS p q p.length = S.mul (ser p) (ser q) := by rw [partS, List.take_length]
theorem partT_zero (p q : List E) (i : Nat) : partT p q i 0 = partS p q i := funext fun t => by
  rw [partT, if_neg (by omega), E.add_zero]
theorem ser_take_succ (p : List E) (i : Nat) : ser (p.take (i + 1)) = S.add (ser (p.take i)) (S.mono (ser p i) i) := funext fun t => by
  simp only [S.add, S.mono, ser_take]
  by_cases h1 : t < i
  · rw [if_pos (by omega), if_pos h1, if_neg (by omega), E.add_zero]
  · by_cases h2 : t = i
    · subst h2; rw [if_pos (by omega), if_neg (by omega), if_pos rfl, E.zero_add]
    · rw [if_neg (by omega), if_neg h1, if_neg h2, E.add_zero]
theorem partS_succ (p q : List E) (i : Nat) : partS p q (i + 1) = S.add (partS p q i) (S.smul (ser p i) (S.shN i (ser q))) := by
  rw [partS, ser_take_succ, S.add_mul, S.mono_mul]; rfl
theorem partT_all (p q : List E) (i : Nat) : partT p q i q.length = partS p q (i + 1) := funext fun t => by
  rw [partS_succ, partT]
  simp only [S.add, S.smul, S.shN]
  congr 1
  by_cases h : i ≤ t
  · by_cases h2 : t < i + q.length
    · rw [if_pos ⟨h, h2⟩, if_neg (by omega)]
    · rw [if_neg (by omega), if_neg (by omega), ser_out q (t - i) (by omega), E.mul_zero]
  · rw [if_neg (by omega), if_pos (by omega), E.mul_zero]
theorem partS_skip (p q : List E) (i : Nat) (h : ser p i = 0) : partS p q (i + 1) = partS p q i := by
  rw [partS_succ, h, S.zero_smul, S.add_zero]
theorem partT_step (p q : List E) (N i j : Nat) : upd (partT p q i j) (i + j) (partT p q i j (i + j) + ser p i * ser q j) = partT p q i (j + 1) := funext fun t => by
  rw [upd]
  by_cases h : t = i + j
  · subst h
    rw [if_pos rfl, partT, if_neg (by omega), E.add_zero, partT, if_pos (by omega), show i + j - i = j by omega]
  · rw [if_neg h, partT, partT]
    congr 1
    by_cases h1 : i ≤ t ∧ t < i + j
    · rw [if_pos h1, if_pos (by omega)]
    · rw [if_neg h1, if_neg (by omega)]
theorem zeros_ofS (N : Nat) : zrow (.int .u8 0) N = (bs (ofS N S.zero)).toArray := by
  rw [← Array.toList_inj, zrow_list, List.toList_toArray]
  apply List.ext_getElem?
  intro j
  by_cases h : j < N
  · rw [ofS_getb N _ j h, List.getElem?_replicate, if_pos h]; rfl
  · rw [List.getElem?_eq_none (by simp; omega), List.getElem?_eq_none (by rw [bs_ofS_len]; omega)]
set_option maxHeartbeats 2000000 in
theorem polyTimes_n (A B : Option Addr) (n m ca cb : Nat) (p q : List E) (w : World) (hn : p.length = n) (hm : q.length = m) (hr : Rd w A (bs p)) (hs : Rd w B (bs q)) (hlen : n + m ≤ 281474976710656) :
    Calls Try.prog 41 #[.slice A n ca, .slice B m cb] w fun e w' => ∃ v, e = .returned v ∧ Own w' w.heap.size 34 v (bs (timesL p q)) ∧ Ext w w' := by
  have hmk := make_elems (n + m) hlen
  rw [zeros_ofS, Int.natCast_add] at hmk
  have HN := Lib.hid hn
  have HM := Lib.hid hm
  have HT := Lib.hid (show trim (ofS (n + m) (S.mul (ser p) (ser q))) = timesL p q by rw [timesL, hn, hm])
  have HA := Lib.hid (show partS p q n = S.mul (ser p) (ser q) by rw [← hn]; exact partS_all p q)
  have H0 := Lib.hid (partS_zero p q)
  clear hn hm
  go_enter Try.func41, Try.ntmps41
  go_wp2_with fail
  go_loopw [18] (fun i wr => ∃ k : Nat, k ≤ n ∧ i = .int .i64 k ∧ Ext w wr ∧ Blk wr w.heap.size 34 (bs (ofS (n + m) (partS p q k))).toArray) (fun i _ => n - (intOf i).toNat)
  case atStart => exact ⟨0, by omega, rfl, (Ext.refl _).alloc _, by rw [H0.out]; exact Blk.new _ _ _⟩
  case round =>
    obtain ⟨i, hi, rfl, hx, hb⟩ := hrel
    by_cases hlt : i < n
    · have hip : i < p.length := by have := HN.out; omega
      obtain ⟨ad, rfl, hc1⟩ := (hr.ext hx).byte hip
      rw [← ser_at p i hip] at hc1
      have HB := Lib.hid hb
      clear hb
      by_cases h0 : ser p i = 0
      · have hd := decide_eq_true h0
        have hsk := partS_skip p q i h0
        have HB' := Lib.hid (show Blk wr w.heap.size 34 (bs (ofS (n + m) (partS p q (i + 1)))).toArray by rw [hsk]; exact HB.out)
        clear h0 hsk
        go_wp2_with (go_at_call 85; with_reducible refine (isZero_any _ _).mono ?_; rintro e w' ⟨rfl, rfl⟩)
        go_roundw
        case rel => exact ⟨i + 1, by omega, by go_num, hx, HB'.out⟩
        case measure => simp [intOf]; omega
      · have hd := decide_eq_false h0
        clear h0
        have HB' := Lib.hid (show Blk wr w.heap.size 34 (bs (ofS (n + m) (partT p q i 0))).toArray by rw [partT_zero]; exact HB.out)
        have HP := Lib.hid (show partT p q i m = partS p q (i + 1) by rw [← HM.out]; exact partT_all p q i)
        obtain ⟨wo, hwo⟩ : ∃ wo : World, wo = wr := ⟨_, rfl⟩
        go_wp2_with (go_at_call 85; with_reducible refine (isZero_any _ _).mono ?_; rintro e w' ⟨rfl, rfl⟩)
        clear HB
        go_loopw [27] (fun jj wr => ∃ j : Nat, j ≤ m ∧ jj = .int .i64 j ∧ Ext w wr ∧ Blk wr w.heap.size 34 (bs (ofS (n + m) (partT p q i j))).toArray) (fun jj _ => m - (intOf jj).toNat)
        case atStart => exact ⟨0, by omega, rfl, hx, HB'.out⟩
        case round =>
          obtain ⟨j, hj, rfl, hx2, hb2⟩ := hrel
          clear HB' hwo hc1 hx
          by_cases hlt2 : j < m
          · have hjq : j < q.length := by have := HM.out; omega
            obtain ⟨bd, rfl, hc2⟩ := (hs.ext hx2).byte hjq
            rw [← ser_at q j hjq] at hc2
            have hc3 : wr.cell? ⟨w.heap.size, i + j, none⟩ = some (.int .u8 ((partT p q i j (i + j)).val : Int)) := (hb2.cell (i + j)).trans (by rw [List.getElem?_toArray]; exact ofS_getb _ _ _ (by omega))
            have hf := hb2.frozen (i + j)
            have hb3 := hb2.set_ (i + j) (.int .u8 ((partT p q i j (i + j) + ser p i * ser q j).val : Int))
            rw [List.setIfInBounds_toArray, ofS_setb, partT_step p q n i j] at hb3
            have HB3 := Lib.hid hb3
            have hx3 := hx2.new (p := ⟨w.heap.size, i + j, none⟩) (Nat.le_refl _) (.int .u8 ((partT p q i j (i + j) + ser p i * ser q j).val : Int))
            clear hb2 hb3
            have hij : (i : Int) + (j : Int) < (n : Int) + (m : Int) := by omega
            have hij1 : i + j < n + m := by omega
            have hij2 : (i : Int) + (j : Int) < ((n + m : Nat) : Int) := by omega
            have hij0 : (0 : Int) ≤ (i : Int) + (j : Int) := by omega
            go_wp2_with fail
            have hw1 : IntKind.i64.wrap ((i : Int) + (j : Int)) = (i : Int) + (j : Int) := IntWalk.i64_in _ (by omega)
            have hw3 : ((i : Int) + (j : Int)).toNat = i + j := by omega
            go_region_with (first | (go_at_call 58; with_reducible refine (times_any _ _ _).mono ?_; rintro e w' ⟨rfl, rfl⟩) | (go_at_call 57; with_reducible refine (plus_any _ _ _).mono ?_; rintro e w' ⟨rfl, rfl⟩))
            all_goals
              clear hw1 hw3
              go_wp2
              go_roundw
              case rel => exact ⟨j + 1, by omega, by go_num, hx3.drew, HB3.out.drew⟩
              case measure => simp [intOf]; omega
          · obtain rfl : j = m := by omega
            have HB2 := Lib.hid (show Blk wr w.heap.size 34 (bs (ofS (n + j) (partS p q (i + 1)))).toArray by rw [← HP.out]; exact hb2)
            clear hb2
            go_wp2
            go_roundw
            case rel => exact ⟨i + 1, by omega, by go_num, hx2, HB2.out⟩
            case measure => simp [intOf]; omega
    · obtain rfl : i = n := by omega
      rw [HA.out] at hb
      obtain ⟨ho, hrd, hd⟩ := own_trim (B := w.heap.size) hb (Nat.le_refl _) (by simp only [maxLen]; omega)
      have HL := Lib.hid (ofS_length (i + m) (S.mul (ser p) (ser q)))
      generalize hL : ofS (i + m) (S.mul (ser p) (ser q)) = L at ho hrd hd HL
      have HLL := Lib.hid hL
      clear hb hL
      go_wp2_with fail
      refine (degree_n _ (i + m) L _ _ HL.out hrd (by omega)).mono ?_
      rintro e w' ⟨rfl, rfl⟩
      go_wp2
      go_ret
      exact ⟨_, rfl, by rw [← HT.out, HLL.out]; exact ho, hx⟩
theorem Own.take {w : World} {B : Nat} {T : TypeId} {A : Option Addr} {n cap : Nat} {xs : List Value} (h : Own w B T (.slice A n cap) xs) (m : Nat) (hm : m ≤ n) : Own w B T (.slice A m cap) (xs.take m) := by
  have hn := h.len
  rcases h.form with ⟨hv, hx⟩ | ⟨g, c, hv, _⟩
  · injection hv with h1 h2 h3
    subst h1; subst h3; subst hx
    obtain rfl : m = 0 := by omega
    exact Own.nil _ _ _
  · injection hv with h1 h2 h3
    subst h1
    obtain ⟨hB, cs, hb, hs, _, hle, hmx, ht⟩ := h.blk
    have := hb.own (B := B) (n := m) (cap := cap) hB (by omega) hmx hs
    have e : cs.toList.take m = xs.take m := by
      rw [← ht, List.take_take, Nat.min_eq_left (by omega)]
    rwa [e] at this
def oddTo (f : S) (k : Nat) : S := fun i => if i < k ∧ i % 2 = 1 then 0 else f i
theorem oddTo_zero (f : S) : oddTo f 0 = f := funext fun i => by rw [oddTo, if_neg (by omega)]
theorem oddTo_odd (f : S) (k : Nat) (h : k % 2 = 1) : upd (oddTo f k) k 0 = oddTo f (k + 1) := funext fun i => by
  rw [upd, oddTo, oddTo]
  by_cases h1 : i = k
  · subst h1; rw [if_pos rfl, if_pos (by omega)]
  · rw [if_neg h1]
    by_cases h2 : i < k ∧ i % 2 = 1
    · rw [if_pos h2, if_pos (by omega)]
    · rw [if_neg h2, if_neg (by omega)]
theorem oddTo_even (f : S) (k : Nat) (h : k % 2 ≠ 1) : oddTo f k = oddTo f (k + 1) := funext fun i => by
  rw [oddTo, oddTo]
  by_cases h2 : i < k ∧ i % 2 = 1
  · rw [if_pos h2, if_pos (by omega)]
  · rw [if_neg h2, if_neg (by omega)]
theorem derive_all (p : List E) (N : Nat) (h : p.length = N + 1) : trim (ofS N (oddTo (ser (p.drop 1)) N)) = deriveL p := by
  rw [deriveL, h, Nat.add_sub_cancel]
  congr 1
  apply ofS_congr
  intro i hi
  simp only [oddTo, deriveS]
  have e : ser (p.drop 1) i = ser p (i + 1) := by simp only [ser, List.getElem?_drop, Nat.add_comm 1 i]
  by_cases h2 : i % 2 = 1
  · rw [if_pos ⟨hi, h2⟩, if_neg (by omega)]
  · rw [if_neg (by omega), if_pos (by omega), e]
set_option maxHeartbeats 2000000 in
theorem polyDerive_n (A : Option Addr) (n cap : Nat) (p : List E) (w : World) (hn : p.length = n) (hr : Rd w A (bs p)) (hcap : n ≤ cap) (hlen : n ≤ 140737488355328) (hmc : cap ≤ maxLen) :
    Calls Try.prog 43 #[.slice A n cap] w fun e w' => ∃ v, e = .returned v ∧ Own w' w.heap.size 34 v (bs (deriveL p)) ∧ Ext w w' := by
  unfold maxLen at hmc
  rcases Nat.eq_zero_or_pos n with h0 | h0
  · subst h0
    obtain rfl : p = [] := List.eq_nil_of_length_eq_zero hn
    go_enter Try.func43, Try.ntmps43
    go_wp2
    go_ret
    exact ⟨_, rfl, Own.nil _ _ _, Ext.refl _⟩
  obtain ⟨N, rfl⟩ : ∃ N, n = N + 1 := ⟨n - 1, by omega⟩
  have HT := Lib.hid (derive_all p N hn)
  have hd1 : (p.drop 1).length = N := by rw [List.length_drop]; omega
  have hrc := hr.cut (k := 1) (cap := cap) (by rw [bs_length]; omega) (by rw [bs_length]; omega)
  rw [← bs_drop] at hrc
  have hN1 : ((((N + 1 : Nat) : Int)) == 0) = false := by rw [beq_eq_false_iff_ne]; omega
  have hN2 : ((N : Int) + 1 == 0) = false := by rw [beq_eq_false_iff_ne]; omega
  obtain ⟨A', hA', HK⟩ : ∃ A', A' = (if cap = 1 then A else Option.map (fun x => (⟨x.block, x.off + 1, none⟩ : Addr)) A) ∧ ∀ w', Ext w w' →
      Calls Try.prog 87 #[.slice A' N (cap - 1)] w' fun e w'' => ∃ v, e = .returned v ∧ Own w'' w'.heap.size 34 v (bs (p.drop 1)) ∧ Ext w' w'' :=
    ⟨_, rfl, fun w' e => clone_n _ N (p.drop 1) (cap - 1) w' hd1 (by
      have := hrc.ext e
      simpa [Addr.add] using this) (by omega)⟩
  have h1c : 1 ≤ cap := by omega
  have hdl := Lib.hid (ofS_ser (p.drop 1))
  rw [hd1] at hdl
  have HD := Lib.hid hd1
  have HK' := Lib.hid HK
  clear hn hr hrc hd1 HK
  by_cases hc1 : cap = 1
  · subst hc1
    rw [if_pos rfl] at hA'
    subst hA'
    obtain rfl : N = 0 := by omega
    have hdg : dg ([] : List E) = 0 := rfl
    have HE := Lib.hid (show deriveL p = [] by rw [← HT.out]; rfl)
    go_enter Try.func43, Try.ntmps43
    go_wp2_with fail
    refine (HK'.out _ (Ext.refl _)).mono ?_
    rintro e w1 ⟨v, rfl, ho, hx⟩
    have hd0 : p.drop 1 = [] := List.eq_nil_of_length_eq_zero HD.out
    rw [hd0] at ho
    obtain ⟨A1, c1, rfl, ho1, hr1, -, -⟩ := ho.bytes
    clear ho hd0
    simp only [List.length_nil] at ho1 ⊢
    go_wp2_with fail
    go_loop [13] (fun i => i = .int .i64 0) (fun _ => 0)
    case atStart => rfl
    case round =>
      subst hrel
      go_wp2_with fail
      refine (degree_n A1 0 [] _ _ rfl hr1 (by omega)).mono ?_
      rintro e w' ⟨rfl, rfl⟩
      go_wp2
      go_ret
      exact ⟨_, rfl, by rw [HE.out]; exact ho1, hx⟩
  · rw [if_neg hc1] at hA'
    subst hA'
    go_enter Try.func43, Try.ntmps43
    go_wp2_with fail
    refine (HK'.out _ (Ext.refl _)).mono ?_
    rintro e w1 ⟨v, rfl, ho, hx⟩
    rw [← hdl.out, ← oddTo_zero (ser (p.drop 1))] at ho
    obtain ⟨A1, c1, rfl, ho1, -, hlc, hmc1⟩ := ho.bytes
    rw [ofS_length] at ho1 hlc
    rw [ofS_length]
    generalize ser (p.drop 1) = f at HT ho1
    simp only [maxLen] at hmc1
    clear ho hdl HK' HD
    go_wp2_with fail
    go_loopw [13] (fun i wr => ∃ k : Nat, k ≤ N ∧ i = .int .i64 k ∧ Ext w wr ∧ Own wr w.heap.size 34 (.slice A1 N c1) (bs (ofS N (oddTo f k)))) (fun i _ => N - (intOf i).toNat)
    case atStart => exact ⟨0, by omega, rfl, hx, ho1⟩
    case round =>
      obtain ⟨k, hk, rfl, hx2, ho2⟩ := hrel
      clear hx ho1
      by_cases hlt : k < N
      · obtain ⟨g, c', hv, hg, -, -, -⟩ := ho2.some_ (by intro e; have := congrArg List.length e; rw [bs_ofS_len] at this; simp at this; omega)
        injection hv with hA1 hA2 hA3
        clear hA2 hA3
        subst hA1
        have hc2 := ho2.cell (ofS_getb N (oddTo f k) k hlt)
        have hf := ho2.frozen k
        by_cases hodd : k % 2 = 1
        · have hkm : ((k : Int) % 2 == 1) = true := by rw [beq_iff_eq]; omega
          have h3 := ho2.set k (.int .u8 ((0 : E).val : Int))
          rw [ofS_setb, oddTo_odd f k hodd] at h3
          have H3 := Lib.hid h3
          have hx3 := hx2.new (p := ⟨g, k, none⟩) hg (.int .u8 0)
          clear h3 ho2
          go_wp2
          go_roundw
          case rel => exact ⟨k + 1, by omega, by go_num, hx3, H3.out⟩
          case measure => simp [intOf]; omega
        · have hkm : ((k : Int) % 2 == 1) = false := by rw [beq_eq_false_iff_ne]; omega
          rw [oddTo_even f k hodd] at ho2
          have H3 := Lib.hid ho2
          clear ho2 hc2
          go_wp2
          go_roundw
          case rel => exact ⟨k + 1, by omega, by go_num, hx2, H3.out⟩
          case measure => simp [intOf]; omega
      · have hkN : k = N := by omega
        rw [hkN] at ho2
        clear hkN
        have hrd := ho2.rd
        have hd := dg_le (ofS N (oddTo f N))
        rw [ofS_length] at hd
        have ho3 := ho2.take (dg (ofS N (oddTo f N))) hd
        rw [← bs_take] at ho3
        have HL := Lib.hid (ofS_length N (oddTo f N))
        generalize hL : ofS N (oddTo f N) = L at ho3 hrd hd HL HT
        have hdc : dg L ≤ c1 := by omega
        clear ho2 hL
        go_wp2_with fail
        refine (degree_n A1 N L _ _ HL.out hrd (by omega)).mono ?_
        rintro e w' ⟨rfl, rfl⟩
        go_wp2
        go_ret
        exact ⟨_, rfl, by rw [← HT.out]; exact ho3, hx2⟩
end Go.Proofs.Ytemnlcfabaocbaa
