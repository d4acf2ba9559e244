/-
  The walks of the document's answer for chapter 5: the polynomial through points; whether all lie on it.
-/
import Derived.Test.YtemnlcfabaocbaaBW
import Derived.Test.YtemnlcfabaocbaaPoly3
namespace Go.Proofs.Ytemnlcfabaocbaa
open Go.RowKit Gf
set_option maxRecDepth 20000
set_option linter.unusedVariables false

theorem make_one (L : Nat) (h : L ≤ 1000000) (w : World) : (Instr.makeSlice 24 (.int .i64 ((L : Int) + 1)) (.int .i64 ((L : Int) + 1))).run Try.prog w = .ok (.slice (some ⟨w.heap.size, 0, none⟩) (L + 1) (L + 1)) (w.alloc (.cells (zrow (.int .u8 0) (L + 1)) 5)) := by
  have := make_bytes (L + 1) (by omega) w
  rwa [Int.natCast_add] at this
theorem own_zeros (w : World) (n : Nat) (h : n ≤ 1000000) : Own (w.alloc (.cells (zrow (.int .u8 0) n) 5)) w.heap.size 5 (.slice (some ⟨w.heap.size, 0, none⟩) n n) (bs (ofS n S.zero)) := by
  have h1 := (Blk.new w 5 (zrow (.int .u8 0) n)).own (B := w.heap.size) (n := n) (cap := n) (Nat.le_refl _) (Nat.le_refl _) (by simp only [maxLen]; omega) (zrow_size _ _)
  rw [zeros_ofS, List.toList_toArray, List.take_of_length_le (by rw [bs_ofS_len]; exact Nat.le_refl _)] at h1
  rw [zeros_ofS]; exact h1
theorem zero_list (n : Nat) : ofS n S.zero = List.replicate n 0 := by
  apply List.ext_getElem
  · simp [ofS_length]
  · intro i h1 h2; rw [ofS_getElem]; simp [S.zero]
theorem evL_zeros (n : Nat) (x : E) : evL (ofS n S.zero) x = 0 := by
  rw [evL_of (ser_ofS (S.dlt_zero n)) (S.dlt_zero n) x]; exact S.ev_zero n x
/-- The sum so far goes through the first j values. -/
def LagOK (pts vals S : List E) (n j : Nat) : Prop := S.length = n ∧ ∀ i, i < n → evL S (pts.getD i 0) = if i < j then vals.getD i 0 else 0
theorem lag_step {pts vals S : List E} {n j : Nat} (hn : pts.length = n) (hm : vals.length = n) (hnd : pts.Nodup) (hj : j < n) (h : LagOK pts vals S n j) :
    LagOK pts vals (elimR (vals.getD j 0 * E.inv (evL (oneL (vanishL pts) (pts.getD j 0) n) (pts.getD j 0))) S (oneL (vanishL pts) (pts.getD j 0) n)) n (j + 1) := by
  subst hn
  have hjp : j < pts.length := by omega
  have hg : ∀ i (hi : i < pts.length), pts.getD i 0 = pts[i] := fun i hi => by rw [List.getD_eq_getElem?_getD, List.getElem?_eq_getElem hi]; rfl
  obtain ⟨h1, h2⟩ := one_ev hnd hjp
  have hl : (oneL (vanishL pts) (pts.getD j 0) pts.length).length = S.length := by rw [oneL_length, h.1]
  refine ⟨by rw [elimR_length hl, h.1], fun i hi => ?_⟩
  rw [evL_elim hl, h.2 i hi]
  by_cases e : i = j
  · subst e
    rw [if_neg (Nat.lt_irrefl _), if_pos (Nat.lt_succ_self _), E.zero_add, hg _ hjp, E.mul_assoc, E.inv_mul h1, E.mul_one]
  · rw [hg i (by omega), hg j hjp, h2 i (by omega) e, E.mul_zero, E.add_zero]
    by_cases h3 : i < j
    · rw [if_pos h3, if_pos (by omega)]
    · rw [if_neg h3, if_neg (by omega)]
set_option maxHeartbeats 8000000 in
theorem through5_n (gt ct : Nat) (A C : Option Addr) (n ca cc : Nat) (pts vals : List E) (w : World) (ht : Tab w gt) (hn : pts.length = n) (hm : vals.length = n) (hr : Rd w A (bs pts)) (hs : Rd w C (bs vals)) (hnd : pts.Nodup) (hlen : n ≤ 300) :
    Calls Try.prog 127 #[.slice (some ⟨gt, 0, none⟩) 256 ct, .slice A n ca, .slice C n cc] w fun e w' => ∃ v s, e = .returned v ∧ Own w' w.heap.size 5 v (bs s) ∧ s.length = n ∧ (∀ i, i < n → evL s (pts.getD i 0) = vals.getD i 0) ∧ Ext w w' := by
  have hmo : Try.prog.follows Departure.mixedOrders = true := by kernel_rfl
  have hwd : Fence.wide.depth = none := rfl
  have hwf : ∀ f, Fence.wide.fn f := fun _ => trivial
  have HN := Lib.hid hn
  have HM := Lib.hid hm
  have HT := Lib.hid ht
  have HR := Lib.hid hr
  have HS := Lib.hid hs
  have HND := Lib.hid hnd
  have hmkn := make_bytes n (by omega)
  have H0 : Hid (Own (w.alloc (.cells #[.int .u8 1] 5)) w.heap.size 5 (.slice (some ⟨w.heap.size, 0, none⟩) 1 1) (bs (vanishL (pts.take 0)))) := Lib.hid (own_lit w 5 [1] (by simp))
  clear hn hm ht hr hs hnd
  go_enter Try.func127, Try.ntmps127
  go_wp2_with fail
  go_loopw [7, 8] (fun v i wr => ∃ (j : Nat) (V : Value), V = v ∧ j ≤ n ∧ i = .int .i64 j ∧ Ext w wr ∧ Own wr w.heap.size 5 V (bs (vanishL (pts.take j)))) (fun _ i _ => n - (intOf i).toNat)
  case atStart => exact ⟨0, _, rfl, by omega, rfl, (Ext.refl w).alloc _, H0.out⟩
  case round =>
    obtain ⟨W1, rfl⟩ : ∃ W, W = wr := ⟨_, rfl⟩
    obtain ⟨j, V, rfl, hj, rfl, hx, ho⟩ := hrel
    clear H0
    by_cases hlt : j < n
    · have hjp : j < pts.length := by rw [HN.out]; exact hlt
      obtain ⟨all, hall⟩ : ∃ l, l = vanishL (pts.take j) := ⟨_, rfl⟩
      obtain ⟨L, hL⟩ : ∃ L, all.length = L := ⟨_, rfl⟩
      have hLj : L = j + 1 := by rw [← hL, hall, vanish_length, List.length_take, HN.out]; omega
      rw [← hall] at ho
      obtain ⟨g, c, rfl, hg1, hg2, -, -⟩ := ho.some_ (fun e => by have := congrArg List.length e; rw [bs_length, hL] at this; simp at this; omega)
      rw [bs_length, hL] at ho ⊢
      have hmk := make_one L (by omega)
      have HNEXT : Hid (timesL all [pts[j], 1] = vanishL (pts.take (j + 1))) := Lib.hid (by rw [hall, vanishL_take pts j hjp])
      have HNL : Hid ((vanishL (pts.take (j + 1))).length = L + 1) := Lib.hid (by rw [vanish_length, List.length_take, HN.out]; omega)
      have HO := Lib.hid ho
      have HX := Lib.hid hx
      have HL := Lib.hid hL
      have HZ := Lib.hid (own_zeros W1 (L + 1) (by omega))
      rw [← linT_zero all pts[j]] at HZ
      have hLb : L ≤ 301 := by omega
      clear ho hx hall hL hg1 hg2 hLj
      go_wp2_with fail
      go_loopw [10] (fun i wr => ∃ iN : Nat, iN ≤ L ∧ i = .int .i64 iN ∧ Ext W1 wr ∧ Own wr W1.heap.size 5 (.slice (some ⟨W1.heap.size, 0, none⟩) (L + 1) (L + 1)) (bs (ofS (L + 1) (linT all pts[j] iN iN)))) (fun i _ => L - (intOf i).toNat)
      case atStart => exact ⟨0, by omega, rfl, (Ext.refl W1).alloc _, HZ.out⟩
      case round =>
        obtain ⟨W2, rfl⟩ : ∃ W, W = wr := ⟨_, rfl⟩
        obtain ⟨iN, hi, rfl, hx2, ho2⟩ := hrel
        clear HZ
        by_cases hlt2 : iN < L
        · have hia : iN < all.length := by rw [HL.out]; exact hlt2
          obtain ⟨ad, rfl, ca1⟩ := (HR.out.ext (HX.out.trans hx2)).byte hjp
          have c1 := (HO.out.ext hx2).cell (bs_get all iN hia)
          have c2 := ho2.cell (ofS_getb (L + 1) (linT all pts[j] iN iN) iN (by omega))
          obtain ⟨gi, g1, g2⟩ := (HT.out.ext (HX.out.trans hx2)).at_ all[iN] pts[j]
          have hl1 := (all[iN]).lt
          have hl2 := (pts[j]).lt
          have hl3 := (linT all pts[j] iN iN iN).lt
          have hl4 := (all[iN] * pts[j]).lt
          have hxo := bits_u8_xor (linT all pts[j] iN iN iN) (all[iN] * pts[j])
          have HO2 := Lib.hid ho2
          have HX2 := Lib.hid hx2
          clear ho2 hx2
          go_wp2_with fail
          refine region_store_plain hmo (by kernel_rfl) (by kernel_rfl) (by kernel_rfl) ?_
          dsimp only [muted, mute, List.dropLast]
          repeat (gi_big_quiet_step (fail))
          refine wpQuietIn_nil ?_
          rintro _ ⟨nq, rfl⟩ s hs'
          simp only [List.getLast?_cons_cons, List.getLast?_singleton, Option.some.injEq] at hs'
          subst hs'
          clear ca1 c1 c2 g1 g2 hxo
          obtain ⟨W3, hW3⟩ : ∃ W, W = W2.drewN nq := ⟨_, rfl⟩
          have hx3 : Ext W1 W3 := by rw [hW3]; exact HX2.out.drewN nq
          have ho3 : Own W3 W1.heap.size 5 (.slice (some ⟨W1.heap.size, 0, none⟩) (L + 1) (L + 1)) (bs (ofS (L + 1) (linT all pts[j] iN iN))) := by rw [hW3]; exact HO2.out.drewN nq
          rw [← hW3]
          clear hW3
          have f3 := ho3.frozen iN
          have c3 := ho3.cell (ofS_getb (L + 1) (linT all pts[j] iN iN) iN (by omega))
          have ho4 := ho3.set iN (.int .u8 ((linT all pts[j] iN iN iN + all[iN] * pts[j]).val : Int))
          have hx4 := hx3.new (p := ⟨W1.heap.size, iN, none⟩) (Nat.le_refl _) (.int .u8 ((linT all pts[j] iN iN iN + all[iN] * pts[j]).val : Int))
          have hup : upd (linT all pts[j] iN iN) iN (linT all pts[j] iN iN iN + all[iN] * pts[j]) = linT all pts[j] (iN + 1) iN := by
            have := linT_one all pts[j] iN
            rw [ser_at _ _ hia] at this
            exact this
          rw [ofS_setb, hup] at ho4
          go_simp
          obtain ⟨W4, hW4⟩ : ∃ W, W = W3.setCell ⟨W1.heap.size, iN, none⟩ (.int .u8 ((linT all pts[j] iN iN iN + all[iN] * pts[j]).val : Int)) := ⟨_, rfl⟩
          rw [← hW4] at ho4 hx4 ⊢
          clear hW4 ho3 hx3 f3 c3 hup
          have c1 := (HO.out.ext hx4).cell (bs_get all iN hia)
          have c2 := ho4.cell (ofS_getb (L + 1) (linT all pts[j] (iN + 1) iN) (iN + 1) (by omega))
          have hl5 := (linT all pts[j] (iN + 1) iN (iN + 1)).lt
          have hxo := bits_u8_xor (linT all pts[j] (iN + 1) iN (iN + 1)) all[iN]
          have hw1 : IntKind.i64.wrap ((iN : Int) + 1) = (iN : Int) + 1 := IntWalk.i64_in _ (by omega)
          have hw2 : ((iN : Int) + 1).toNat = iN + 1 := by omega
          have hw3 : (0 : Int) ≤ (iN : Int) + 1 := by omega
          have hw4 : (iN : Int) + 1 < (L : Int) + 1 := by omega
          have hw5 : iN + 1 < L + 1 := by omega
          have HO4 := Lib.hid ho4
          have HX4 := Lib.hid hx4
          clear ho4 hx4
          go_wp2_with fail
          refine region_store_plain hmo (by kernel_rfl) (by kernel_rfl) (by kernel_rfl) ?_
          dsimp only [muted, mute, List.dropLast]
          repeat (gi_big_quiet_step (fail))
          refine wpQuietIn_nil ?_
          rintro _ ⟨nq2, rfl⟩ s hs'
          simp only [List.getLast?_cons_cons, List.getLast?_singleton, Option.some.injEq] at hs'
          subst hs'
          clear c1 c2 hxo
          obtain ⟨W5, hW5⟩ : ∃ W, W = W4.drewN nq2 := ⟨_, rfl⟩
          have hx5 : Ext W1 W5 := by rw [hW5]; exact HX4.out.drewN nq2
          have ho5 : Own W5 W1.heap.size 5 (.slice (some ⟨W1.heap.size, 0, none⟩) (L + 1) (L + 1)) (bs (ofS (L + 1) (linT all pts[j] (iN + 1) iN))) := by rw [hW5]; exact HO4.out.drewN nq2
          rw [← hW5]
          clear hW5
          have f3 := ho5.frozen (iN + 1)
          have c3 := ho5.cell (ofS_getb (L + 1) (linT all pts[j] (iN + 1) iN) (iN + 1) (by omega))
          have ho6 := ho5.set (iN + 1) (.int .u8 ((linT all pts[j] (iN + 1) iN (iN + 1) + all[iN]).val : Int))
          have hx6 := hx5.new (p := ⟨W1.heap.size, iN + 1, none⟩) (Nat.le_refl _) (.int .u8 ((linT all pts[j] (iN + 1) iN (iN + 1) + all[iN]).val : Int))
          have hup : upd (linT all pts[j] (iN + 1) iN) (iN + 1) (linT all pts[j] (iN + 1) iN (iN + 1) + all[iN]) = linT all pts[j] (iN + 1) (iN + 1) := by
            have := linT_two all pts[j] iN
            rw [ser_at _ _ hia] at this
            exact this
          rw [ofS_setb, hup] at ho6
          have HH := Lib.hid (And.intro hx6 ho6)
          clear ho5 hx5 ho6 hx6 hup hw1 hw2
          go_simp
          go_wp2_with fail
          go_roundw
          case rel => exact ⟨iN + 1, by omega, by go_num, HH.out.1, HH.out.2⟩
          case measure => simp [intOf]; omega
        · obtain rfl : L = iN := by omega
          have hfin : ofS (L + 1) (linT all pts[j] L L) = vanishL (pts.take (j + 1)) := by
            have h1 := linT_all all pts[j]
            rw [HL.out] at h1
            rw [h1, HNEXT.out, ← HNL.out, ofS_ser]
          rw [hfin] at ho2
          have HH : Hid (Own W2 w.heap.size 5 (.slice (some ⟨W1.heap.size, 0, none⟩) (L + 1) (L + 1)) (bs (vanishL (pts.take (j + 1))))) := Lib.hid (ho2.mono HX.out.le)
          have HX2 := Lib.hid (HX.out.trans hx2)
          clear hfin ho2 hx2
          go_wp2_with fail
          go_roundw
          case rel => exact ⟨j + 1, _, rfl, by omega, by go_num, HX2.out, HH.out⟩
          case measure => simp [intOf]; omega
    · obtain rfl : n = j := by omega
      have hta : pts.take n = pts := List.take_of_length_le (by rw [HN.out]; exact Nat.le_refl _)
      rw [hta] at ho
      obtain ⟨all, hall⟩ : ∃ l, l = vanishL pts := ⟨_, rfl⟩
      obtain ⟨L, hL⟩ : ∃ L, all.length = L := ⟨_, rfl⟩
      have hLn : L = n + 1 := by rw [← hL, hall, vanish_length, HN.out]
      have hLb : L ≤ 301 := by omega
      have hnL : n < L := by omega
      rw [← hall] at ho
      obtain ⟨g, c, rfl, hg1, hg2, -, -⟩ := ho.some_ (fun e => by have := congrArg List.length e; rw [bs_length, hL] at this; simp at this; omega)
      rw [bs_length, hL] at ho ⊢
      have HO := Lib.hid ho
      have HX := Lib.hid hx
      have HL := Lib.hid hL
      have HLN := Lib.hid hLn
      have HALL := Lib.hid hall
      have HS0 : Hid (LagOK pts vals (ofS n S.zero) n 0) := Lib.hid ⟨ofS_length _ _, fun i hi => by rw [evL_zeros, if_neg (by omega)]⟩
      have HZ := Lib.hid (own_zeros W1 n (by omega))
      clear ho hx hall hL hg1 hg2 hLn hta
      go_wp2_with fail
      go_loopw [12] (fun i wr => ∃ (j : Nat) (sm : List E), j ≤ n ∧ i = .int .i64 j ∧ LagOK pts vals sm n j ∧ Ext W1 wr ∧ Own wr W1.heap.size 5 (.slice (some ⟨W1.heap.size, 0, none⟩) n n) (bs sm)) (fun i _ => n - (intOf i).toNat)
      case atStart => exact ⟨0, _, by omega, rfl, HS0.out, (Ext.refl W1).alloc _, HZ.out⟩
      case round =>
        obtain ⟨W2, rfl⟩ : ∃ W, W = wr := ⟨_, rfl⟩
        obtain ⟨j, sm, hj, rfl, hSo, hx2, ho2⟩ := hrel
        clear HZ HS0
        have HX2 := Lib.hid hx2
        have HO2 := Lib.hid ho2
        have HSO := Lib.hid hSo
        clear hx2 ho2 hSo
        by_cases hlt2 : j < n
        · have hjp : j < pts.length := by rw [HN.out]; exact hlt2
          have hjv : j < vals.length := by rw [HM.out]; exact hlt2
          have hgp : pts.getD j 0 = pts[j] := by rw [List.getD_eq_getElem?_getD, List.getElem?_eq_getElem hjp]; rfl
          have hgv : vals.getD j 0 = vals[j] := by rw [List.getD_eq_getElem?_getD, List.getElem?_eq_getElem hjv]; rfl
          obtain ⟨O, hO⟩ : ∃ l, l = oneL all pts[j] n := ⟨_, rfl⟩
          have hOl : O.length = n := by rw [hO, oneL_length]
          have hzl : (ofS n S.zero).length = O.length := by rw [hOl, ofS_length]
          have HNEXT : Hid (LagOK pts vals (elimR (vals[j] * E.inv (evL O pts[j])) sm O) n (j + 1)) := Lib.hid (by
            have := lag_step HN.out HM.out HND.out hlt2 HSO.out
            rw [hgp, hgv, ← HALL.out, ← hO] at this
            exact this)
          have HNE : Hid (evL O pts[j] ≠ 0) := Lib.hid (by
            have := (one_ev HND.out hjp).1
            rw [← HALL.out, HN.out, ← hO] at this
            exact this)
          have HOE := Lib.hid hO
          have HOL := Lib.hid hOl
          have HZL := Lib.hid hzl
          have HSL : Hid ((elimR (vals[j] * E.inv (evL O pts[j])) sm O).length = sm.length) := Lib.hid (elimR_length (by rw [hOl, HSO.out.1]))
          have hfz := own_zeros W2 n (by omega)
          have hZ4 : Own (W2.alloc (.cells (zrow (.int .u8 0) n) 5)) W2.heap.size 5 (.slice (some ⟨W2.heap.size, 0, none⟩) n n) (bs (mixL (ofS n S.zero) O n)) := by
            have := mixL_all hzl
            rw [hOl] at this
            rw [this]; exact hfz
          have HZ4 := Lib.hid hZ4
          have HE0 : Hid (Value.int .u8 0 = Value.int .u8 ((evL (all.drop (n + 1)) pts[j]).val : Int)) := Lib.hid (by rw [List.drop_eq_nil_of_le (by rw [HL.out, HLN.out]; exact Nat.le_refl _), evL_nil]; rfl)
          clear hgp hgv hO hOl hzl hfz hZ4
          go_wp2_with fail
          go_loopw [14, 15] (fun rest i wr => ∃ iN : Nat, iN ≤ n ∧ i = .int .i64 iN ∧ rest = .int .u8 ((evL (all.drop (iN + 1)) pts[j]).val : Int) ∧ Ext W2 wr ∧ Own wr W2.heap.size 5 (.slice (some ⟨W2.heap.size, 0, none⟩) n n) (bs (mixL (ofS n S.zero) O iN))) (fun _ i _ => (intOf i).toNat)
          case atStart => exact ⟨n, by omega, rfl, HE0.out, (Ext.refl W2).alloc _, HZ4.out⟩
          case round =>
            obtain ⟨W3, rfl⟩ : ∃ W, W = wr := ⟨_, rfl⟩
            obtain ⟨iN, hi, rfl, rfl, hx3, ho3⟩ := hrel
            clear HZ4 HE0
            obtain ⟨rv, hrv⟩ : ∃ r, r = evL (all.drop (iN + 1)) pts[j] := ⟨_, rfl⟩
            rw [← hrv]
            have HRV := Lib.hid hrv
            clear hrv
            rcases Nat.eq_zero_or_pos iN with h0 | h0
            · subst h0
              rw [mixL_zero] at ho3
              rw [show ((0 : Nat) : Int) = 0 from rfl]
              have HO3 := Lib.hid ho3
              have HX3 := Lib.hid hx3
              have hxw := HX.out.trans (HX2.out.trans hx3)
              obtain ⟨ad, rfl, ca1⟩ := (HR.out.ext hxw).byte hjp
              obtain ⟨bd, rfl, ca2⟩ := (HS.out.ext hxw).byte hjv
              have HA := Lib.hid (fun nn : Nat => at5_n gt ct (some ⟨W2.heap.size, 0, none⟩) n O n pts[j] (W3.drewN nn) ((HT.out.ext hxw).ext ((Ext.refl W3).drewN nn)) HOL.out (ho3.rd.drewN nn) (by omega))
              have HI := Lib.hid (fun nn : Nat => inverse_n gt ct (evL O pts[j]) HNE.out (W3.drewN nn) ((HT.out.ext hxw).ext ((Ext.refl W3).drewN nn)))
              obtain ⟨gi, g1, g2⟩ := (HT.out.ext hxw).at_ vals[j] (E.inv (evL O pts[j]))
              have hl1 := (vals[j]).lt
              have hl2 := (pts[j]).lt
              have hl3 := (evL O pts[j]).lt
              have hl4 := (E.inv (evL O pts[j])).lt
              have hl5 := (vals[j] * E.inv (evL O pts[j])).lt
              have HXW := Lib.hid hxw
              clear ho3 hx3 hxw
              go_wp2_with fail
              go_quiet ((first | (go_at_call 121; with_reducible exact quiet_left (HA.out _)) | (go_at_call 128; with_reducible exact quiet_left (HI.out _))))
              obtain ⟨W4, hW4⟩ : ∃ W, W = W3.drewN nq := ⟨_, rfl⟩
              have HX4 : Hid (Ext W1 W4) := Lib.hid (by rw [hW4]; exact (HX2.out.trans HX3.out).drewN nq)
              have HO4 : Hid (Own W4 W2.heap.size 5 (.slice (some ⟨W2.heap.size, 0, none⟩) n n) (bs O)) := Lib.hid (by rw [hW4]; exact HO3.out.drewN nq)
              have HS4 : Hid (Own W4 W1.heap.size 5 (.slice (some ⟨W1.heap.size, 0, none⟩) n n) (bs (mixL (elimR (vals[j] * E.inv (evL O pts[j])) sm O) sm 0))) := Lib.hid (by rw [mixL_zero, hW4]; exact (HO2.out.ext HX3.out).drewN nq)
              have hgt : W1.heap.size < W2.heap.size := (HO2.out.lt W1.heap.size rfl).2
              rw [← hW4]
              clear hW4 ca1 ca2 HA HI g1 g2
              obtain ⟨cv, hcv⟩ : ∃ c, c = vals[j] * E.inv (evL O pts[j]) := ⟨_, rfl⟩
              rw [← hcv] at HS4 HSL HNEXT hl5 ⊢
              clear hcv
              go_wp2_with fail
              go_loopw [17] (fun i wr => ∃ iN : Nat, iN ≤ n ∧ i = .int .i64 iN ∧ Ext W1 wr ∧ Own wr W2.heap.size 5 (.slice (some ⟨W2.heap.size, 0, none⟩) n n) (bs O) ∧ Own wr W1.heap.size 5 (.slice (some ⟨W1.heap.size, 0, none⟩) n n) (bs (mixL (elimR cv sm O) sm iN))) (fun i _ => n - (intOf i).toNat)
              case atStart => exact ⟨0, by omega, rfl, HX4.out, HO4.out, HS4.out⟩
              case round =>
                obtain ⟨W5, rfl⟩ : ∃ W, W = wr := ⟨_, rfl⟩
                obtain ⟨iN, hi2, rfl, hx5, ho5, hs5⟩ := hrel
                clear HX4 HO4 HS4
                by_cases hlt3 : iN < n
                · have hsl : iN < sm.length := by rw [HSO.out.1]; exact hlt3
                  have hol : iN < O.length := by rw [HOL.out]; exact hlt3
                  have hml : iN < (mixL (elimR cv sm O) sm iN).length := by rw [mixL_length HSL.out]; exact hsl
                  have d1 : W5.cell? ⟨W1.heap.size, iN, none⟩ = some (.int .u8 ((sm[iN]).val : Int)) := by
                    have h1 := hs5.cell (bs_get _ iN hml)
                    rwa [mixL_get HSL.out hsl] at h1
                  have d2 := ho5.cell (bs_get O iN hol)
                  obtain ⟨gi, g1, g2⟩ := (HT.out.ext (HX.out.trans hx5)).at_ cv O[iN]
                  have hl6 := (sm[iN]).lt
                  have hl7 := (O[iN]).lt
                  have hl8 := (cv * O[iN]).lt
                  have hxo := bits_u8_xor sm[iN] (cv * O[iN])
                  have HH5 := Lib.hid (And.intro hx5 (And.intro ho5 hs5))
                  clear hx5 ho5 hs5
                  go_wp2_with fail
                  refine region_store_plain hmo (by kernel_rfl) (by kernel_rfl) (by kernel_rfl) ?_
                  dsimp only [muted, mute, List.dropLast]
                  repeat (gi_big_quiet_step (fail))
                  refine wpQuietIn_nil ?_
                  rintro _ ⟨nq2, rfl⟩ s hs'
                  simp only [List.getLast?_cons_cons, List.getLast?_singleton, Option.some.injEq] at hs'
                  subst hs'
                  clear d1 d2 g1 g2 hxo
                  obtain ⟨W6, hW6⟩ : ∃ W, W = W5.drewN nq2 := ⟨_, rfl⟩
                  have hx6 : Ext W1 W6 := by rw [hW6]; exact HH5.out.1.drewN nq2
                  have ho6 : Own W6 W2.heap.size 5 (.slice (some ⟨W2.heap.size, 0, none⟩) n n) (bs O) := by rw [hW6]; exact HH5.out.2.1.drewN nq2
                  have hs6 : Own W6 W1.heap.size 5 (.slice (some ⟨W1.heap.size, 0, none⟩) n n) (bs (mixL (elimR cv sm O) sm iN)) := by rw [hW6]; exact HH5.out.2.2.drewN nq2
                  rw [← hW6]
                  clear hW6
                  have f3 := hs6.frozen iN
                  have c3 := hs6.cell (bs_get _ iN hml)
                  have hs7 := hs6.set iN (.int .u8 ((sm[iN] + cv * O[iN]).val : Int))
                  have hst : (bs (mixL (elimR cv sm O) sm iN)).set iN (.int .u8 ((sm[iN] + cv * O[iN]).val : Int)) = bs (mixL (elimR cv sm O) sm (iN + 1)) := by
                    have := mixL_set HSL.out hsl
                    rw [elimR_get (by rw [HOL.out, HSO.out.1]) hsl] at this
                    rw [← this, bs, bs, List.map_set]; rfl
                  rw [hst] at hs7
                  have ho7 := ho6.far (p := ⟨W1.heap.size, iN, none⟩) (by simp only [Value.ownBlock, ne_eq, Option.some.injEq]; omega) (.int .u8 ((sm[iN] + cv * O[iN]).val : Int))
                  have hx7 := hx6.new (p := ⟨W1.heap.size, iN, none⟩) (Nat.le_refl _) (.int .u8 ((sm[iN] + cv * O[iN]).val : Int))
                  have HH := Lib.hid (And.intro hx7 (And.intro ho7 hs7))
                  clear hx6 ho6 hs6 hs7 ho7 hx7 hst
                  go_simp
                  go_wp2_with fail
                  go_roundw
                  case rel => exact ⟨iN + 1, by omega, by go_num, HH.out.1, HH.out.2.1, HH.out.2.2⟩
                  case measure => simp [intOf]; omega
                · obtain rfl : n = iN := by omega
                  have hfin : mixL (elimR cv sm O) sm n = elimR cv sm O := by have := mixL_all HSL.out; rwa [HSO.out.1] at this
                  rw [hfin] at hs5
                  have HH := Lib.hid (And.intro hx5 hs5)
                  clear hx5 ho5 hs5 hfin
                  go_wp2_with fail
                  go_roundw
                  case rel => exact ⟨j + 1, _, by omega, by go_num, HNEXT.out, HH.out.1, HH.out.2⟩
                  case measure => simp [intOf]; omega
            · obtain ⟨kN, rfl⟩ : ∃ k, iN = k + 1 := ⟨iN - 1, by omega⟩
              have hka : kN + 1 < all.length := by rw [HL.out]; omega
              have hkO : kN < O.length := by rw [HOL.out]; omega
              have hxw := HX.out.trans (HX2.out.trans hx3)
              obtain ⟨ad, rfl, ca1⟩ := (HR.out.ext hxw).byte hjp
              have c1 := (HO.out.ext (HX2.out.trans hx3)).cell (bs_get all (kN + 1) hka)
              obtain ⟨gi, g1, g2⟩ := (HT.out.ext hxw).at_ rv pts[j]
              have hl1 := (all[kN + 1]).lt
              have hl2 := (pts[j]).lt
              have hl3 := rv.lt
              have hl4 := (rv * pts[j]).lt
              have hxo := bits_u8_xor all[kN + 1] (rv * pts[j])
              have hkL : (kN : Int) + 1 < (L : Int) := by omega
              have hr2 : all[kN + 1] + rv * pts[j] = evL (all.drop (kN + 1)) pts[j] := by rw [evL_drop _ _ _ hka, HRV.out, E.mul_comm pts[j]]
              have hOk : O[kN] = evL (all.drop (kN + 1)) pts[j] := by
                have : ∀ (l : List E) (e : l = oneL all pts[j] n) (h : kN < l.length), l[kN] = evL (all.drop (kN + 1)) pts[j] := fun l e h => by subst e; exact oneL_get _ _ _ _ h
                exact this O HOE.out hkO
              have HR2 := Lib.hid hr2
              have HOK := Lib.hid hOk
              have HO3 := Lib.hid ho3
              have HX3 := Lib.hid hx3
              have hki : kN + 1 ≤ n := hi
              clear ho3 hx3 hxw hr2 hOk hi h0
              go_wp2_with fail
              go_quiet (fail)
              obtain ⟨W4, hW4⟩ : ∃ W, W = W3.drewN nq := ⟨_, rfl⟩
              have hx4 : Ext W2 W4 := by rw [hW4]; exact HX3.out.drewN nq
              have ho4 : Own W4 W2.heap.size 5 (.slice (some ⟨W2.heap.size, 0, none⟩) n n) (bs (mixL (ofS n S.zero) O (kN + 1))) := by rw [hW4]; exact HO3.out.drewN nq
              rw [← hW4]
              clear hW4 ca1 c1 g1 g2 hxo
              obtain ⟨rw2, hrw2⟩ : ∃ r, r = all[kN + 1] + rv * pts[j] := ⟨_, rfl⟩
              rw [← hrw2] at HR2 ⊢
              clear hrw2
              have hl5 := rw2.lt
              have f3 := ho4.frozen kN
              have c3 := ho4.cell (bs_get (mixL (ofS n S.zero) O (kN + 1)) kN (by rw [mixL_length HZL.out]; exact hkO))
              have ho5 := ho4.set kN (.int .u8 (rw2.val : Int))
              have hst : (bs (mixL (ofS n S.zero) O (kN + 1))).set kN (.int .u8 (rw2.val : Int)) = bs (mixL (ofS n S.zero) O kN) := by
                have := mixL_back HZL.out hkO
                rw [HOK.out, ← HR2.out] at this
                rw [← this, bs, bs, List.map_set]; rfl
              rw [hst] at ho5
              have hx5 := hx4.new (p := ⟨W2.heap.size, kN, none⟩) (Nat.le_refl _) (.int .u8 (rw2.val : Int))
              have HH := Lib.hid (And.intro hx5 ho5)
              have HRR : Hid (Value.int .u8 (rw2.val : Int) = Value.int .u8 ((evL (all.drop (kN + 1)) pts[j]).val : Int)) := Lib.hid (by rw [HR2.out])
              clear hx4 ho4 hx5 ho5 hst
              go_wp2_with fail
              go_roundw
              case rel => exact ⟨kN, by omega, by go_num, HRR.out, HH.out.1, HH.out.2⟩
              case measure => (simp [intOf]; try omega)
        · obtain rfl : n = j := by omega
          have hle : w.heap.size ≤ W1.heap.size := HX.out.le
          go_wp2
          go_ret
          exact ⟨_, sm, rfl, HO2.out.mono hle, HSO.out.1, fun i hi => by rw [HSO.out.2 i hi, if_pos hi], HX.out.trans HX2.out⟩
end Go.Proofs.Ytemnlcfabaocbaa
