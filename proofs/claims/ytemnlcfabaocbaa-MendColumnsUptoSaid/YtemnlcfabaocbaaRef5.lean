/-
  The walks of the document's answer for chapter 2: the product over points, the polynomial through points.
-/
import Derived.Test.YtemnlcfabaocbaaRef3
import Derived.Test.YtemnlcfabaocbaaPoly7
namespace Go.Proofs.Ytemnlcfabaocbaa
open Go.RowKit Gf
set_option maxRecDepth 20000
set_option linter.unusedVariables false

theorem nodup_inj {l : List E} (h : l.Nodup) {i j : Nat} (hi : i < l.length) (hj : j < l.length) (e : l[i] = l[j]) : i = j := by
  rcases Nat.lt_trichotomy i j with h1 | h1 | h1
  · exact absurd e (List.pairwise_iff_getElem.1 h i j hi hj h1)
  · exact h1
  · exact absurd e.symm (List.pairwise_iff_getElem.1 h j i hj hi h1)
set_option maxHeartbeats 1000000 in
theorem refVanish_n (A : Option Addr) (n cap : Nat) (pts : List E) (w : World) (hn : pts.length = n) (hr : Rd w A (bs pts)) (hlen : n ≤ 140737488355000) :
    Calls Try.prog 47 #[.slice A n cap] w fun e w' => ∃ v, e = .returned v ∧ Own w' w.heap.size 5 v (bs (vanishL pts)) ∧ Ext w w' := by
  have HN := Lib.hid hn
  clear hn
  have h0 := Lib.hid (own_lit w 5 [1] (by simp))
  go_enter Try.func47, Try.ntmps47
  go_wp2_with fail
  go_loopw [3, 4] (fun v i wr => ∃ (k : Nat) (V : Value), V = v ∧ k ≤ n ∧ i = .int .i64 k ∧ Ext w wr ∧ Own wr w.heap.size 5 V (bs (vanishL (pts.take k)))) (fun _ i _ => n - (intOf i).toNat)
  case atStart => exact ⟨0, _, rfl, by omega, rfl, (Ext.refl _).alloc _, h0.out⟩
  case round =>
    obtain ⟨k, V, rfl, hk, rfl, hx, ho⟩ := hrel
    by_cases hlt : k < n
    · have hkt : k < pts.length := by rw [HN.out]; exact hlt
      obtain ⟨ad, rfl, hc⟩ := (hr.ext hx).byte hkt
      have hal := (pts[k]).lt
      obtain ⟨Ao, co, rfl, -, hro, -, -⟩ := ho.bytes
      have HS := Lib.hid (vanishL_take pts k hkt)
      have hvl : (vanishL (pts.take k)).length = k + 1 := by rw [vanish_length, List.length_take]; omega
      have hrl := rd_lit wr 5 [pts[k], 1] (by simp)
      rw [hvl]
      go_wp2_with fail
      refine (refTimes_n Ao _ _ 2 co 2 (vanishL (pts.take k)) [pts[k], 1] (wr.alloc (.cells (bs [pts[k], 1]).toArray 5)) hvl rfl (hro.alloc _) hrl (by omega)).mono ?_
      rintro e w2 ⟨v, rfl, ho2, hx2⟩
      have hx2' : Ext wr w2 := ((Ext.refl wr).alloc _).trans hx2
      go_wp2
      go_roundw
      case rel => exact ⟨k + 1, _, rfl, by omega, by go_num, hx.trans hx2', by rw [HS.out]; exact ho2.mono (hx.alloc _).le⟩
      case measure => simp [intOf]; omega
    · obtain rfl : k = n := by omega
      have hta : pts.take k = pts := List.take_of_length_le (by rw [HN.out]; exact Nat.le_refl _)
      rw [hta] at ho
      go_wp2
      go_ret
      exact ⟨_, rfl, ho, hx⟩
set_option maxHeartbeats 1000000 in
theorem refTwice_n (A : Option Addr) (n cap : Nat) (pts : List E) (w : World) (hn : pts.length = n) (hr : Rd w A (bs pts)) (hlen : n ≤ 140737488355000) :
    Calls Try.prog 95 #[.slice A n cap] w fun e w' => ∃ b, e = .returned (.bool b) ∧ (b = true ↔ ¬ pts.Nodup) ∧ Ext w w' := by
  have HN := Lib.hid hn
  clear hn
  go_enter Try.func95, Try.ntmps95
  go_wp2_with fail
  go_loopw [3] (fun i wr => ∃ k : Nat, k ≤ n ∧ i = .int .i64 k ∧ Hid (pts.take k).Nodup ∧ Ext w wr) (fun i _ => n - (intOf i).toNat)
  case atStart => exact ⟨0, by omega, rfl, by simp [Hid], Ext.refl _⟩
  case round =>
    obtain ⟨i, hi, rfl, hnd, hx⟩ := hrel
    by_cases hlt : i < n
    · have hip : i < pts.length := by rw [HN.out]; exact hlt
      go_wp2_with fail
      go_loopw [4] (fun kk wr => ∃ k : Nat, k ≤ i ∧ kk = .int .i64 k ∧ Hid (pts[i] ∉ pts.take k) ∧ Ext w wr) (fun kk _ => i - (intOf kk).toNat)
      case atStart => exact ⟨0, by omega, rfl, by simp [Hid], hx⟩
      case round =>
        obtain ⟨k, hk, rfl, hnk, hx2⟩ := hrel
        by_cases hlt2 : k < i
        · have hkp : k < pts.length := by omega
          have hkn : k < n := by omega
          obtain ⟨ad, rfl, hc1⟩ := (hr.ext hx2).byte hip
          obtain ⟨ad', e', hc2⟩ := (hr.ext hx2).byte hkp
          injection e' with e'
          subst e'
          have hl1 := (pts[i]).lt
          have hl2 := (pts[k]).lt
          by_cases heq : pts[k] = pts[i]
          · have hq : (((pts[k]).val : Int) == ((pts[i]).val : Int)) = true := (eqE _ _).trans (decide_eq_true heq)
            have HB := Lib.hid (show ¬ pts.Nodup by
              intro h
              have := nodup_inj h hkp hip heq
              omega)
            clear heq
            go_wp2_with fail
            go_quiet (fail)
            go_wp2
            go_ret
            exact ⟨true, rfl, ⟨fun _ => HB.out, fun _ => rfl⟩, hx2.drewN _⟩
          · have hq : (((pts[k]).val : Int) == ((pts[i]).val : Int)) = false := (eqE _ _).trans (decide_eq_false heq)
            have HB := Lib.hid (show pts[i] ∉ pts.take (k + 1) by
              rw [List.take_succ_eq_append_getElem hkp, List.mem_append, List.mem_singleton]
              rintro (h | h)
              · exact hnk.out h
              · exact heq h.symm)
            clear heq
            go_wp2_with fail
            go_quiet (fail)
            go_wp2
            go_roundw
            case rel => exact ⟨k + 1, by omega, by go_num, HB, hx2.drewN _⟩
            case measure => simp [intOf]; omega
        · obtain rfl : k = i := by omega
          have HB := Lib.hid ((nodup_take hip hnd.out).2 hnk.out)
          go_wp2
          go_roundw
          case rel => exact ⟨k + 1, by omega, by go_num, HB, hx2⟩
          case measure => simp [intOf]; omega
    · obtain rfl : i = n := by omega
      have HB := Lib.hid (show pts.Nodup by have := hnd.out; rwa [List.take_of_length_le (by rw [HN.out]; exact Nat.le_refl _)] at this)
      go_wp2
      go_ret
      exact ⟨false, rfl, ⟨(fun h => by cases h), fun h => absurd HB.out h⟩, hx⟩

/-! the document's polynomial through points -/
theorem evL_two (a b x : E) : evL [a, b] x = a + x * b := by simp [evL_cons, evL_nil, E.mul_zero, E.add_zero]
theorem timesL_two_len {l : List E} {n : Nat} (a b : E) (h : l.length ≤ n + 1) : (timesL l [a, b]).length ≤ n + 2 := by
  have h1 : S.Dlt (ser (timesL l [a, b])) (n + 2) := by
    rw [ser_timesL]
    exact S.Dlt.mulN (m := n + 1) (n := 1) ((dlt_ser l).mono h) (by exact dlt_ser [a, b])
  have := dg_min h1
  have h2 := (trimmed_timesL l [a, b]).dg
  omega
/-- One at the point number i, none at the others of the first k. -/
structure OneOK (pts o : List E) (i k : Nat) (hi : i < pts.length) : Prop where
  len : o.length ≤ (if i < k then k else k + 1)
  one : evL o pts[i] = 1
  none : ∀ j (h : j < pts.length), j < k → j ≠ i → evL o pts[j] = 0
theorem one_start (pts : List E) (i : Nat) (hi : i < pts.length) : OneOK pts [1] i 0 hi :=
  ⟨by simp, by simp [evL_cons, evL_nil, E.mul_zero, E.add_zero], fun j _ h => absurd h (by omega)⟩
theorem one_skip {pts o : List E} {i : Nat} {hi : i < pts.length} (h : OneOK pts o i i hi) : OneOK pts o i (i + 1) hi :=
  ⟨by have := h.len; simp at this ⊢; exact this, h.one, fun j hj h1 h2 => h.none j hj (by omega) h2⟩
theorem one_step {pts o : List E} {i k : Nat} {hi : i < pts.length} (hk : k < pts.length) (hne : k ≠ i) (hx : pts[i] + pts[k] ≠ 0) (h : OneOK pts o i k hi) :
    OneOK pts (timesL o [pts[k] * E.inv (pts[i] + pts[k]), E.inv (pts[i] + pts[k])]) i (k + 1) hi := by
  have hev : ∀ x, evL [pts[k] * E.inv (pts[i] + pts[k]), E.inv (pts[i] + pts[k])] x = (pts[k] + x) * E.inv (pts[i] + pts[k]) := fun x => by rw [evL_two, E.add_mul]
  refine ⟨?_, ?_, ?_⟩
  · have hl := h.len
    by_cases h1 : i < k
    · rw [if_pos h1] at hl
      obtain ⟨m, rfl⟩ : ∃ m, k = m + 1 := ⟨k - 1, by omega⟩
      rw [if_pos (by omega)]
      exact timesL_two_len _ _ hl
    · rw [if_neg h1] at hl
      rw [if_neg (by omega)]
      exact timesL_two_len _ _ hl
  · rw [evL_times, h.one, E.one_mul, hev, E.add_comm, E.mul_inv hx]
  · intro j hj h1 h2
    rw [evL_times, hev]
    by_cases h3 : j = k
    · subst h3; rw [E.add_self, E.zero_mul, E.mul_zero]
    · rw [h.none j hj (by omega) h2, E.zero_mul]
structure SumOK (pts vals t : List E) (i : Nat) : Prop where
  tt : Trimmed t
  len : t.length ≤ pts.length
  at_ : ∀ j (h : j < pts.length) (h' : j < vals.length), evL t pts[j] = if j < i then vals[j] else 0
theorem sum_start (pts vals : List E) : SumOK pts vals [] 0 := ⟨trimmed_nil, Nat.zero_le _, fun j _ _ => by rw [if_neg (by omega), evL_nil]⟩
theorem sum_step {pts vals t o : List E} {i : Nat} {hi : i < pts.length} (hv : i < vals.length) (h : SumOK pts vals t i) (ho : OneOK pts o i pts.length hi) : SumOK pts vals (plusL t (scaleL o vals[i])) (i + 1) := by
  have hl := ho.len
  rw [if_pos hi] at hl
  refine ⟨trimmed_plusL _ _, ?_, ?_⟩
  · have hD : S.Dlt (ser (plusL t (scaleL o vals[i]))) pts.length := by
      rw [ser_plusL, ser_scaleL]
      exact ((dlt_ser t).mono h.len).add (S.Dlt.smul ((dlt_ser o).mono hl) _)
    have := dg_min hD
    have h2 := (trimmed_plusL t (scaleL o vals[i])).dg
    omega
  · intro j hj hj'
    rw [evL_plus, evL_scale, h.at_ j hj hj']
    by_cases h1 : j = i
    · subst h1; rw [ho.one, E.mul_one, if_neg (by omega), if_pos (by omega), E.zero_add]
    · rw [ho.none j hj hj h1, E.mul_zero, E.add_zero]
      by_cases h2 : j < i
      · rw [if_pos h2, if_pos (by omega)]
      · rw [if_neg h2, if_neg (by omega)]
theorem sum_ok {pts vals t : List E} (h : SumOK pts vals t pts.length) : ThOK pts vals t := ⟨h.tt, h.len, fun i hi hi' => by rw [h.at_ i hi hi', if_pos hi]⟩
theorem refThrough_odd (A C : Option Addr) (n m ca cb : Nat) (w : World) (he : n ≠ m) :
    Calls Try.prog 48 #[.slice A n ca, .slice C m cb] w fun e w' => e = .returned (.tuple #[.slice none 0 0, .int .i64 2]) ∧ w = w' := by
  have h1 : ((n : Int) != (m : Int)) = true := by rw [bne_iff_ne]; omega
  go_enter Try.func48, Try.ntmps48
  go_wp2
  go_ret2
  exact ⟨rfl, rfl⟩
set_option maxHeartbeats 4000000 in
theorem refThrough_n (A C : Option Addr) (n ca cb : Nat) (pts vals : List E) (w : World) (hn : pts.length = n) (hm : vals.length = n) (hr : Rd w A (bs pts)) (hs : Rd w C (bs vals)) (hlen : n ≤ 140737488355000) :
    Calls Try.prog 48 #[.slice A n ca, .slice C n cb] w fun e w' => ∃ v t k, e = .returned (.tuple #[v, .int .i64 k]) ∧ ThAny pts vals t k ∧ Own w' w.heap.size 5 v (bs t) ∧ Ext w w' := by
  have HN := Lib.hid hn
  have HM := Lib.hid hm
  clear hn hm
  go_enter Try.func48, Try.ntmps48
  go_wp2_with fail
  refine (refTwice_n A n ca pts _ HN.out hr hlen).mono ?_
  rintro e w1 ⟨b, rfl, hb, hx1⟩
  cases b with
  | true =>
    have HB := Lib.hid (hb.1 rfl)
    clear hb
    go_wp2
    go_ret2
    exact ⟨_, [], 20, rfl, .inr (.inl ⟨by rw [HN.out, HM.out], HB.out, rfl, rfl⟩), Own.nil _ _ _, hx1⟩
  | false =>
    have HB := Lib.hid (show pts.Nodup by
      by_cases h : pts.Nodup
      · exact h
      · exact absurd (hb.2 h) (by simp))
    clear hb
    go_wp2
    go_loopw [7, 8] (fun s i wr => ∃ (k : Nat) (Vs : Value) (t : List E), Vs = s ∧ k ≤ n ∧ i = .int .i64 k ∧ Hid (SumOK pts vals t k) ∧ Ext w wr ∧ Own wr w.heap.size 5 Vs (bs t)) (fun _ i _ => n - (intOf i).toNat)
    case atStart => exact ⟨0, _, [], rfl, by omega, rfl, sum_start _ _, hx1, Own.nil _ _ _⟩
    case round =>
      obtain ⟨i, Vs, t, rfl, hi, rfl, hok, hx, hos⟩ := hrel
      clear hx1
      by_cases hlt : i < n
      · have hip : i < pts.length := by rw [HN.out]; exact hlt
        have h0 := Lib.hid ((own_lit wr 5 [1] (by simp)).mono hx.le)
        have HOS := Lib.hid hos
        obtain ⟨wo, hwo⟩ : ∃ wo : World, wo = wr := ⟨_, rfl⟩
        clear hos
        go_wp2
        rw [← hwo] at HOS h0 hx ⊢
        clear hwo
        go_loopw [9, 10] (fun o kk wr => ∃ (k : Nat) (Vo : Value) (l : List E), Vo = o ∧ k ≤ n ∧ kk = .int .i64 k ∧ Hid (OneOK pts l i k hip) ∧ Ext wo wr ∧ Own wr w.heap.size 5 Vo (bs l)) (fun _ kk _ => n - (intOf kk).toNat)
        case atStart => exact ⟨0, _, [1], rfl, by omega, rfl, one_start _ _ _, (Ext.refl _).alloc _, h0.out⟩
        case round =>
          obtain ⟨k, Vo, l, rfl, hk, rfl, hol, hx2, hoo⟩ := hrel
          clear h0
          by_cases hlt2 : k < n
          · have hkp : k < pts.length := by rw [HN.out]; exact hlt2
            by_cases hki : k = i
            · subst hki
              have HO := Lib.hid (one_skip hol.out)
              have hkk : ((k : Int) != (k : Int)) = false := by simp
              go_wp2
              go_roundw
              case rel => exact ⟨k + 1, _, l, rfl, by omega, by go_num, HO, hx2, hoo⟩
              case measure => simp [intOf]; omega
            · have hkk : ((k : Int) != (i : Int)) = true := by rw [bne_iff_ne]; omega
              have hne : pts[i] + pts[k] ≠ 0 := fun h => by
                have h1 := E.add_eq_zero.1 h
                have := nodup_inj HB.out hip hkp h1
                omega
              have HO := Lib.hid (one_step hkp hki hne hol.out)
              have hxw := hx.trans hx2
              obtain ⟨ad, rfl, hc1⟩ := (hr.ext hxw).byte hip
              obtain ⟨ad', e', hc2⟩ := (hr.ext hxw).byte hkp
              injection e' with e'
              subst e'
              have hl1 := (pts[i]).lt
              have hl2 := (pts[k]).lt
              have hxo := bits_u8_xor pts[i] pts[k]
              have HI := Lib.hid (fun w => refInv_any _ hne w)
              obtain ⟨Ao, co, rfl, -, hro, -, -⟩ := hoo.bytes
              have hll : l.length ≤ k + 1 := by have := hol.out.len; split at this <;> omega
              have HOO := Lib.hid hoo
              have HXX := Lib.hid (And.intro hx2 hxw)
              have HRR := Lib.hid hro
              clear hoo hx2 hxw hro hki hne
              go_wp2_with fail
              go_quiet ((go_at_call 92; with_reducible exact quiet_left (HI.out _)))
              obtain ⟨c, hc⟩ : ∃ c, c = E.inv (pts[i] + pts[k]) := ⟨_, rfl⟩
              rw [← hc] at HO ⊢
              clear HI hc hxo
              have hcl := c.lt
              obtain ⟨W2, hW2⟩ : ∃ W2, W2 = wr.drewN nq := ⟨_, rfl⟩
              have hro2 : Rd W2 Ao (bs l) := by rw [hW2]; exact HRR.out.drewN nq
              have hx22 : Ext wo W2 := by rw [hW2]; exact HXX.out.1.drewN nq
              have hcc : W2.cell? (ad.add k) = some (.int .u8 ((pts[k]).val : Int)) := by rw [hW2]; exact hc2
              rw [← hW2]
              clear hW2 hc1 hc2
              have hml := (pts[k] * c).lt
              have hrl := rd_lit W2 5 [pts[k] * c, c] (by simp)
              go_wp2_with (go_at_call 86; with_reducible refine (refMul_any _ _ _).mono ?_; rintro e w' ⟨rfl, rfl⟩)
              refine (refTimes_n Ao _ _ 2 co 2 l [pts[k] * c, c] (W2.alloc (.cells (bs [pts[k] * c, c]).toArray 5)) rfl rfl (hro2.alloc _) hrl (by omega)).mono ?_
              rintro e w3 ⟨v3, rfl, ho3, hx3⟩
              have hx3' : Ext W2 w3 := ((Ext.refl W2).alloc _).trans hx3
              go_wp2
              go_roundw
              case rel => exact ⟨k + 1, _, _, rfl, by omega, by go_num, HO, hx22.trans hx3', ho3.mono ((hx.trans hx22).alloc _).le⟩
              case measure => simp [intOf]; omega
          · obtain rfl : k = n := by omega
            have hiv : i < vals.length := by rw [HM.out]; exact hlt
            have HS := Lib.hid (sum_step (o := l) hiv hok.out (by rw [HN.out]; exact hol.out))
            have hxw := hx.trans hx2
            obtain ⟨bd, rfl, hcv⟩ := (hs.ext hxw).byte hiv
            have hvv := (vals[i]).lt
            obtain ⟨Ao, co, rfl, -, hro, -, -⟩ := hoo.bytes
            have hos2 := HOS.out.ext hx2
            obtain ⟨As, cs, rfl, -, hrs, -, -⟩ := hos2.bytes
            have hll : l.length ≤ k := by have := hol.out.len; rw [if_pos hlt] at this; exact this
            have htl : t.length ≤ k := by have := hok.out.len; rw [HN.out] at this; exact this
            clear hoo hos2
            go_wp2_with fail
            refine (refScale_n Ao _ l co vals[i] _ rfl hro (by omega)).mono ?_
            rintro e w4 ⟨v4, rfl, ho4, hx4⟩
            obtain ⟨A4, c4, rfl, -, hr4, -, -⟩ := ho4.bytes
            have hl4 : (scaleL l vals[i]).length ≤ k := by rw [scaleL, trim_length]; exact Nat.le_trans (dg_le _) (by rw [ofS_length]; exact hll)
            go_wp2_with fail
            refine (refPlus_n As A4 _ _ t (scaleL l vals[i]) cs c4 _ rfl rfl (hrs.ext hx4) hr4 (by omega) (by omega)).mono ?_
            rintro e w5 ⟨v5, rfl, ho5, hx5⟩
            go_wp2
            go_roundw
            case rel => exact ⟨i + 1, _, _, rfl, by omega, by go_num, HS, hxw.trans (hx4.trans hx5), ho5.mono (hxw.trans hx4).le⟩
            case measure => simp [intOf]; omega
      · obtain rfl : i = n := by omega
        have HK := Lib.hid (show ThOK pts vals t by have := hok.out; rw [← HN.out] at this; exact sum_ok this)
        go_wp2
        go_ret2
        exact ⟨_, t, 0, rfl, .inr (.inr ⟨by rw [HN.out, HM.out], HB.out, HK.out, rfl⟩), hos, hx⟩
theorem refThrough_all (A C : Option Addr) (n m ca cb : Nat) (pts vals : List E) (w : World) (hn : pts.length = n) (hm : vals.length = m) (hr : Rd w A (bs pts)) (hs : Rd w C (bs vals)) (hlen : n ≤ 140737488355000) :
    Calls Try.prog 48 #[.slice A n ca, .slice C m cb] w fun e w' => ∃ v t k, e = .returned (.tuple #[v, .int .i64 k]) ∧ ThAny pts vals t k ∧ Own w' w.heap.size 5 v (bs t) ∧ Ext w w' := by
  by_cases h : n = m
  · subst h
    exact refThrough_n A C n ca cb pts vals w hn hm hr hs hlen
  · refine (refThrough_odd A C n m ca cb w h).mono ?_
    rintro e w' ⟨rfl, rfl⟩
    exact ⟨_, [], 2, rfl, .inl ⟨by rw [hn, hm]; exact h, rfl, rfl⟩, Own.nil _ _ _, Ext.refl _⟩
end Go.Proofs.Ytemnlcfabaocbaa
