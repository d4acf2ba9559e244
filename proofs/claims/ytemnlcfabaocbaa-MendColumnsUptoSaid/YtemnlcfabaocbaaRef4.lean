/-
  The walks of the document's answer for chapter 2: the quotient and what is left.
-/
import Derived.Test.YtemnlcfabaocbaaRef3
import Derived.Test.YtemnlcfabaocbaaPoly6
namespace Go.Proofs.Ytemnlcfabaocbaa
open Go.RowKit Gf
set_option maxRecDepth 20000
set_option linter.unusedVariables false

theorem DivOK.uniq {p q s r s' r' : List E} (h : DivOK p q s r) (h' : DivOK p q s' r') : s = s' ∧ r = r' := by
  obtain ⟨d, hd⟩ : ∃ d, dg q = d + 1 := ⟨dg q - 1, by have := h.lt; omega⟩
  have hg : S.Dlt (ser q) (d + 1) := hd ▸ dg_dlt q
  have h0 : ser q d ≠ 0 := by have := dg_last q (by omega); rwa [hd] at this
  have hr : S.Dlt (ser r) d := (dlt_ser r).mono (by have := h.lt; omega)
  have hr' : S.Dlt (ser r') d := (dlt_ser r').mono (by have := h'.lt; omega)
  have hu := S.div_unique (n := max s.length s'.length) ((dlt_ser s).mono (by omega)) ((dlt_ser s').mono (by omega)) hg h0 hr hr' (by
    rw [S.add_comm, h.eq, S.add_comm, h'.eq])
  exact ⟨h.ts.eq h'.ts hu.1, h.tr.eq h'.tr hu.2⟩

def shiftS (p : List E) (c : E) (n : Nat) : S := S.smul c (S.shN n (ser p))
def shiftL (p : List E) (c : E) (n : Nat) : List E := ofS (n + p.length) (shiftS p c n)
theorem ser_shiftL (p : List E) (c : E) (n : Nat) : ser (shiftL p c n) = shiftS p c n := by
  rw [shiftL, ser_ofS]
  intro i hi
  simp only [shiftS, S.smul, S.shN]
  rw [if_neg (by omega), ser_out p (i - n) (by omega), E.mul_zero]
theorem shiftL_length (p : List E) (c : E) (n : Nat) : (shiftL p c n).length = n + p.length := ofS_length _ _
theorem shiftS_zeros (p : List E) (c : E) (n : Nat) : ofS n S.zero = ofS n (shiftS p c n) := ofS_congr fun i hi => by
  simp only [shiftS, S.smul, S.shN, S.zero]
  rw [if_pos hi, E.mul_zero]
theorem shiftS_at (p : List E) (c : E) (n k : Nat) (hk : k < p.length) : shiftS p c n (n + k) = p[k] * c := by
  simp only [shiftS, S.smul, S.shN]
  rw [if_neg (by omega), show n + k - n = k by omega, ser_at p k hk, E.mul_comm]
set_option maxHeartbeats 1000000 in
theorem shifted_n (A : Option Addr) (m : Nat) (p : List E) (cap : Nat) (c : E) (n : Nat) (w : World) (hm : p.length = m) (hr : Rd w A (bs p)) (hlen : n + m ≤ 140737488355327) :
    Calls Try.prog 93 #[.slice A m cap, .int .u8 c.val, .int .i64 n] w fun e w' => ∃ v, e = .returned v ∧ Own w' w.heap.size 5 v (bs (shiftL p c n)) ∧ Ext w w' := by
  have hmk := make_bytes n (by omega)
  rw [zeros_ofS, shiftS_zeros p c n] at hmk
  have HT := Lib.hid (show ofS (n + m) (shiftS p c n) = shiftL p c n by rw [shiftL, hm])
  have HM := Lib.hid hm
  have hcl := c.lt
  have hs2 : (bs (ofS n (shiftS p c n))).toArray.size = n := by simp [bs, ofS_length]
  have HO := Lib.hid (show Own (w.alloc (.cells (bs (ofS n (shiftS p c n))).toArray 5)) w.heap.size 5 (.slice (some ⟨w.heap.size, 0, none⟩) n n) (bs (ofS n (shiftS p c n))) by
    have ho := (Blk.new w 5 (bs (ofS n (shiftS p c n))).toArray).own (B := w.heap.size) (n := n) (cap := n) (Nat.le_refl _) (Nat.le_refl _) (by simp only [maxLen]; omega) hs2
    rwa [List.toList_toArray, List.take_of_length_le (by rw [bs_ofS_len]; exact Nat.le_refl _)] at ho)
  clear hm hs2
  go_enter Try.func93, Try.ntmps93
  go_wp2_with fail
  go_loopw [7, 8] (fun v i wr => ∃ (k : Nat) (V : Value), V = v ∧ k ≤ m ∧ i = .int .i64 k ∧ Ext w wr ∧ Own wr w.heap.size 5 V (bs (ofS (n + k) (shiftS p c n)))) (fun _ i _ => m - (intOf i).toNat)
  case atStart => exact ⟨0, _, rfl, by omega, rfl, (Ext.refl _).alloc _, HO.out⟩
  case round =>
    obtain ⟨k, V, rfl, hk, rfl, hx, ho⟩ := hrel
    by_cases hlt : k < m
    · have hkp : k < p.length := by have := HM.out; omega
      obtain ⟨ad, rfl, hc⟩ := (hr.ext hx).byte hkp
      have hle := hx.le
      have hbd : ((bs (ofS (n + k) (shiftS p c n))).length + 1) * 1 ≤ 140737488355328 := by rw [bs_ofS_len]; omega
      have hpl := (p[k]).lt
      have hml := (p[k] * c).lt
      have HS := Lib.hid (show bs (ofS (n + (k + 1)) (shiftS p c n)) = bs (ofS (n + k) (shiftS p c n)) ++ [.int .u8 ((p[k] * c).val : Int)] by
        rw [← Nat.add_assoc, bs_ofS_succ, shiftS_at p c n k hkp])
      clear hmk HO
      go_wp2_with (first | (go_at_call 86; with_reducible refine (refMul_any _ _ _).mono ?_; rintro e w' ⟨rfl, rfl⟩) | (at_builtin; refine wpList_push _ eltU8 rfl _ _ (by rfl) w.heap.size V _ (by rfl) (by exact ho) (.int .u8 (p[k] * c).val) (by rfl) rfl hbd hle ?_; intro v' w' ho' _ hb' _))
      go_roundw
      case rel => exact ⟨k + 1, _, rfl, by omega, by go_num, Below.trans hx hb', by rw [HS.out]; exact ho'⟩
      case measure => simp [intOf]; omega
    · obtain rfl : k = m := by omega
      go_wp2
      go_ret
      exact ⟨_, rfl, by rw [← HT.out]; exact ho, hx⟩

theorem ser_one : ser [(1 : E)] = S.one := funext fun i => by
  cases i with
  | zero => rfl
  | succ i => rw [ser_out [1] (i + 1) (by simp)]; rfl
theorem ref_step {p q s r d : List E} {c : E} {n : Nat} (hd : ser d = ser q) (hdt : Trimmed d) (hd0 : d.length ≠ 0) (hr : Trimmed r) (hl : d.length ≤ r.length) (he : S.add (ser r) (S.mul (ser s) (ser q)) = ser p)
    (hc : c = ser r (r.length - 1) * E.inv (ser d (d.length - 1))) (hn : n = r.length - d.length) :
    S.add (ser (plusL r (shiftL d c n))) (S.mul (ser (plusL s (shiftL [1] c n))) (ser q)) = ser p ∧ (plusL r (shiftL d c n)).length < r.length := by
  constructor
  · rw [ser_plusL, ser_plusL, ser_shiftL, ser_shiftL, S.add_mul]
    have h1 : S.mul (shiftS [1] c n) (ser q) = shiftS d c n := by
      rw [shiftS, ser_one, ← S.mono_mul, S.mul_one, S.mono_mul, shiftS, hd]
    rw [h1, S.add_assoc, S.add_comm (S.mul (ser s) (ser q)), ← S.add_assoc (shiftS d c n), S.add_self, S.zero_add, he]
  · have hr0 : r.length ≠ 0 := by omega
    have hD : S.Dlt (ser (plusL r (shiftL d c n))) (r.length - 1) := by
      rw [ser_plusL, ser_shiftL]
      intro i hi
      simp only [S.add, shiftS, S.smul, S.shN]
      rw [if_neg (by omega)]
      by_cases h1 : i = r.length - 1
      · subst h1
        rw [show r.length - 1 - n = d.length - 1 by omega, hc, E.mul_assoc, E.inv_mul (hdt.last hd0), E.mul_one, E.add_self]
      · rw [ser_out r i (by omega), ser_out d (i - n) (by omega), E.mul_zero, E.add_zero]
    have h2 := dg_min hD
    have h3 := (trimmed_plusL r (shiftL d c n)).dg
    omega
theorem plusL_le (p q : List E) : (plusL p q).length ≤ max p.length q.length := by
  rw [plusL, trim_length]
  have := dg_le (ofS (max p.length q.length) (S.add (ser p) (ser q)))
  rwa [ofS_length] at this
theorem refDivide_zero (A C : Option Addr) (n m ca cb : Nat) (p q : List E) (w : World) (hm : q.length = m) (hs : Rd w C (bs q)) (hlenq : m ≤ 140737488355327) (h0 : dg q = 0) :
    Calls Try.prog 44 #[.slice A n ca, .slice C m cb] w fun e w' => e = .returned (.tuple #[.slice none 0 0, .slice none 0 0, .int .i64 10]) ∧ Ext w w' := by
  have HT := Lib.hid ((trim_length q).trans h0)
  clear h0
  go_enter Try.func44, Try.ntmps44
  go_wp2_with fail
  refine (refTrim_n C m q cb _ hm hs (by omega)).mono ?_
  rintro e w1 ⟨v, rfl, ho, hx⟩
  obtain ⟨A1, c1, rfl, -, -, -, -⟩ := ho.bytes
  rw [HT.out]
  clear ho
  go_wp2
  go_ret3
  exact ⟨rfl, hx⟩
set_option maxHeartbeats 2000000 in
theorem refDivide_n (A C : Option Addr) (n m ca cb : Nat) (p q : List E) (w : World) (hn : p.length = n) (hm : q.length = m) (hr : Rd w A (bs p)) (hs : Rd w C (bs q)) (hlen : n ≤ 140737488355300) (hlenq : m ≤ 140737488355300) (hne : 0 < dg q) :
    Calls Try.prog 44 #[.slice A n ca, .slice C m cb] w fun e w' => ∃ vs vr s r, e = .returned (.tuple #[vs, vr, .int .i64 0]) ∧ DivOK p q s r ∧ Own w' w.heap.size 5 vs (bs s) ∧ Own w' w.heap.size 5 vr (bs r) ∧ Ext w w' := by
  obtain ⟨d, hd⟩ : ∃ d, dg q = d + 1 := ⟨dg q - 1, by omega⟩
  have HDL := Lib.hid ((trim_length q).trans hd)
  have HDS := Lib.hid (ser_trim q)
  have HDT := Lib.hid (trimmed_trim q)
  have hdm : d + 1 ≤ m := by have := dg_le q; omega
  have hpt : (trim p).length ≤ n := by rw [trim_length, ← hn]; exact dg_le p
  have HP := Lib.hid (And.intro (ser_trim p) (trimmed_trim p))
  have HDG := Lib.hid hd
  clear hne hd
  go_enter Try.func44, Try.ntmps44
  go_wp2_with fail
  refine (refTrim_n C m q cb _ hm hs (by omega)).mono ?_
  rintro e w1 ⟨v, rfl, ho, hx1⟩
  obtain ⟨Aq, cq, rfl, -, hrq, -, -⟩ := ho.bytes
  rw [HDL.out]
  clear ho
  go_wp2_with fail
  refine (refTrim_n A n p ca _ hn (hr.ext hx1) (by omega)).mono ?_
  rintro e w2 ⟨v, rfl, ho, hx2⟩
  have ho2 := Lib.hid (ho.mono (B' := w.heap.size) hx1.le)
  generalize trim q = D at HDL HDS HDT hrq
  have hdl : d < D.length := by have := HDL.out; omega
  have hrq2 := hrq.ext hx2
  obtain ⟨ad, rfl, hc1⟩ := hrq2.byte hdl
  have hw1 : wrap64 (((d + 1 : Nat) : Int) - 1) = (d : Int) := by rw [IntWalk.wrap64_in _ (by omega)]; omega
  have hdne : D[d] ≠ 0 := by
    have h1 := HDT.out.last (by have := HDL.out; omega)
    rw [show D.length - 1 = d by have := HDL.out; omega, ser_at D d hdl] at h1
    exact h1
  have hdv := (D[d]).lt
  have hx12 := hx1.trans hx2
  clear hx1 hx2 hm hn hr hs
  go_wp2_with (go_at_call 92; with_reducible refine (refInv_any _ hdne _).mono ?_; rintro e w' ⟨rfl, rfl⟩)
  clear hc1 ho
  go_loopw [8, 10] (fun vr vs wr => ∃ (Vr Vs : Value) (r s : List E), Vr = vr ∧ Vs = vs ∧ Hid (S.add (ser r) (S.mul (ser s) (ser q)) = ser p) ∧ Trimmed r ∧ Trimmed s ∧ r.length ≤ n ∧ s.length ≤ n ∧ (∃ Ar cr, Vr = .slice Ar r.length cr) ∧ Own wr w.heap.size 5 Vr (bs r) ∧ Own wr w.heap.size 5 Vs (bs s) ∧ Ext w wr ∧ Ext w2 wr)
    (fun vr _ _ => match vr with | .slice _ k _ => k | _ => 0)
  case atStart =>
    refine ⟨_, _, trim p, [], rfl, rfl, Lib.hid (by rw [HP.out.1, ser_nil, S.zero_mul, S.add_zero]), HP.out.2, trimmed_nil, hpt, by simp, ?_, ho2.out, Own.nil _ _ _, hx12, Ext.refl _⟩
    obtain ⟨Ar, cr, hv, -, -, -, -⟩ := ho2.out.bytes
    exact ⟨Ar, cr, hv⟩
  case round =>
    obtain ⟨Vr, Vs, r, s, rfl, rfl, heq, htr, hts, hrl, hsl, ⟨Ar, cr, rfl⟩, hor, hos, hxw, hxx⟩ := hrel
    by_cases hgo : d + 1 ≤ r.length
    · obtain ⟨k, hk⟩ : ∃ k, r.length = k + 1 := ⟨r.length - 1, by omega⟩
      have hkr : k < r.length := by omega
      obtain ⟨gr, cr', hv, -, -, -, -⟩ := hor.some_ (fun e => by have := congrArg List.length e; rw [bs_length, List.length_nil] at this; omega)
      injection hv with e1 e2 e3
      clear e2 e3
      subst e1
      have hc : wr.cell? ⟨gr, r.length - 1, none⟩ = some (.int .u8 ((r[k]).val : Int)) := by rw [show r.length - 1 = k by omega]; exact hor.cell (bs_get r k hkr)
      have hi1 : ((d + 1 : Nat) : Int) ≤ (r.length : Int) := by omega
      have hN : wrap64 ((r.length : Int) - ((d + 1 : Nat) : Int)) = ((r.length - (d + 1) : Nat) : Int) := by rw [IntWalk.wrap64_in _ (by omega)]; omega
      have hN' : wrap64 ((r.length : Int) - ((d : Int) + 1)) = ((r.length - (d + 1) : Nat) : Int) := by rw [IntWalk.wrap64_in _ (by omega)]; omega
      have hK : wrap64 ((r.length : Int) - 1) = (k : Int) := by rw [IntWalk.wrap64_in _ (by omega)]; omega
      obtain ⟨c, hcc⟩ : ∃ c, c = r[k] * E.inv D[d] := ⟨_, rfl⟩
      have hstep := Lib.hid (ref_step (n := r.length - (d + 1)) (c := c) HDS.out HDT.out (by have := HDL.out; omega) htr (by have := HDL.out; omega) heq.out (by rw [hcc, show r.length - 1 = k by omega, show D.length - 1 = d by have := HDL.out; omega, ser_at r k hkr, ser_at D d hdl]) (by have := HDL.out; omega))
      have HC := Lib.hid hcc
      have hrv := (r[k]).lt
      have hxr := Lib.hid hxx
      have hkk : k < r.length := hkr
      have hDL := HDL.out
      clear hcc hk
      obtain ⟨nn, hnn⟩ : ∃ nn, nn = r.length - (d + 1) := ⟨_, rfl⟩
      rw [← hnn] at hstep
      clear hN hN'
      have HNN := Lib.hid hnn
      have HNI := Lib.hid (show (r.length : Int) - ((d : Int) + 1) = (nn : Int) by omega)
      obtain ⟨As, cs, rfl, -, hrs, -, -⟩ := hos.bytes
      have hrD := hrq2.ext hxx
      have hnl : nn ≤ n := by omega
      have hcl := c.lt
      have HCm := Lib.hid (fun w => (refMul_any r[k] (E.inv D[d]) w))
      rw [← HC.out] at HCm
      clear hnn
      go_wp2_with (go_at_call 86; with_reducible refine (HCm.out _).mono ?_; rintro e w' ⟨rfl, rfl⟩)
      have hrd1 : Rd (wr.alloc (.cells #[.int .u8 1] 5)) (some ⟨wr.heap.size, 0, none⟩) (bs [1]) := rd_new wr (.int .u8 1) 5
      rw [HNI.out]
      with_reducible refine (shifted_n (some ⟨wr.heap.size, 0, none⟩) 1 [1] 1 c nn (wr.alloc (.cells #[.int .u8 1] 5)) rfl hrd1 (by omega)).mono ?_
      rintro e w3 ⟨v, rfl, ho3, hx3⟩
      obtain ⟨A3, c3, rfl, -, hr3, -, -⟩ := ho3.bytes
      have hx3' : Ext wr w3 := ((Ext.refl wr).alloc _).trans hx3
      clear ho3 hx3
      have hl3 : (shiftL [1] c nn).length ≤ n := by rw [shiftL_length]; have := HNN.out; simp; omega
      go_wp2_with fail
      refine (refPlus_n As A3 _ _ s (shiftL [1] c nn) cs c3 _ rfl rfl (hrs.ext hx3') hr3 (by omega) (by omega)).mono ?_
      rintro e w4 ⟨v4, rfl, ho4, hx4⟩
      have hx4' := hx3'.trans hx4
      go_wp2_with fail
      with_reducible refine (shifted_n _ _ D _ c nn _ hDL (hrD.ext hx4') (by have := HNN.out; omega)).mono ?_
      rintro e w5 ⟨v, rfl, ho5, hx5⟩
      obtain ⟨A5, c5, rfl, -, hr5, -, -⟩ := ho5.bytes
      have hx5' := hx4'.trans hx5
      have hl5 : (shiftL D c nn).length ≤ n := by rw [shiftL_length]; have := HNN.out; omega
      clear ho5
      go_wp2_with fail
      refine (refPlus_n _ A5 _ _ r (shiftL D c nn) cr c5 _ rfl rfl (hor.rd.ext hx5') hr5 (by omega) (by omega)).mono ?_
      rintro e w6 ⟨v6, rfl, ho6, hx6⟩
      have hx6' := hx5'.trans hx6
      obtain ⟨A6, c6, rfl, -, -, -, -⟩ := ho6.bytes
      have hs1 := plusL_le s (shiftL [1] c nn)
      go_wp2_with fail
      go_roundw
      case rel =>
        refine ⟨_, _, plusL r (shiftL D c nn), plusL s (shiftL [1] c nn), rfl, rfl, Lib.hid hstep.out.1, trimmed_plusL _ _, trimmed_plusL _ _, by have := hstep.out.2; omega, by omega, ⟨_, _, rfl⟩, ?_, ?_, hxw.trans hx6', hxx.trans hx6'⟩
        · exact ho6.mono (hxw.trans hx5').le
        · exact (ho4.mono (hxw.trans hx3').le).ext (hx5.trans hx6)
      case measure => exact hstep.out.2
    · have hlt : r.length < d + 1 := by omega
      obtain ⟨As, cs, rfl, -, -, -, -⟩ := hos.bytes
      go_wp2
      go_ret3
      exact ⟨_, _, s, r, rfl, ⟨hts, htr, heq.out, by rw [HDG.out]; exact hlt⟩, hos, hor, hxw⟩
theorem DivAny.uniq {p q s r s' r' : List E} {k k' : Int} (h : DivAny p q s r k) (h' : DivAny p q s' r' k') : s = s' ∧ r = r' ∧ k = k' := by
  rcases h with ⟨h0, rfl, rfl, rfl⟩ | ⟨h0, h, rfl⟩ <;> rcases h' with ⟨h0', rfl, rfl, rfl⟩ | ⟨h0', h', rfl⟩
  · exact ⟨rfl, rfl, rfl⟩
  · omega
  · omega
  · exact ⟨(h.uniq h').1, (h.uniq h').2, rfl⟩
theorem refDivide_all (A C : Option Addr) (n m ca cb : Nat) (p q : List E) (w : World) (hn : p.length = n) (hm : q.length = m) (hr : Rd w A (bs p)) (hs : Rd w C (bs q)) (hlen : n ≤ 140737488355300) (hlenq : m ≤ 140737488355300) :
    Calls Try.prog 44 #[.slice A n ca, .slice C m cb] w fun e w' => ∃ vs vr s r k, e = .returned (.tuple #[vs, vr, .int .i64 k]) ∧ DivAny p q s r k ∧ Own w' w.heap.size 5 vs (bs s) ∧ Own w' w.heap.size 5 vr (bs r) ∧ Ext w w' := by
  rcases Nat.eq_zero_or_pos (dg q) with h0 | h0
  · refine (refDivide_zero A C n m ca cb p q w hm hs (by omega) h0).mono ?_
    rintro e w' ⟨rfl, hx⟩
    exact ⟨_, _, [], [], 10, rfl, .inl ⟨h0, rfl, rfl, rfl⟩, Own.nil _ _ _, Own.nil _ _ _, hx⟩
  · refine (refDivide_n A C n m ca cb p q w hn hm hr hs hlen hlenq h0).mono ?_
    rintro e w' ⟨vs, vr, s, r, rfl, hok, h1, h2, hx⟩
    exact ⟨vs, vr, s, r, 0, rfl, .inr ⟨h0, hok, rfl⟩, h1, h2, hx⟩
end Go.Proofs.Ytemnlcfabaocbaa
