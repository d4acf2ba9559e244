/-
  Texts of mine, merged: Ref4 OpenU RootsFew Quiet2 Poly7 Ref5 Law3 Law4 RootsMore.
-/
import Derived.Test.YtemnlcfabaocbaaG1
import Derived.Test.YtemnlcfabaocbaaG2
import Derived.Test.YtemnlcfabaocbaaG3
import Derived.Test.YtemnlcfabaocbaaRows
import Derived.Deep.CondSized
import Derived.Lib.SmallJoins
/-
  The walks of the document's answer for chapter 2: the quotient and what is left.
-/
namespace Go.Proofs.Ytemnlcfabaocbaa
open Go.RowKit Gf
set_option maxRecDepth 20000
set_option linter.unusedVariables false

theorem DivOK.uniq {p q s r s' r' : List E} (h : DivOK p q s r) (h' : DivOK p q s' r') : s = s' ∧ r = r' := by
  obtain ⟨d, hd⟩ : ∃ d, dg q = d + 1 := ⟨dg q - 1, by have := h.lt; omega⟩
  have hg : S.Dlt (ser q) (d + 1) := hd ▸ dg_dlt q
  have h0 : ser q d ≠ 0 := by have := dg_last q (by omega); rwa [hd] at this
  have hr : S.Dlt (ser r) d := (dlt_ser r).mono (by have := h.lt; omega)
  have hr' : S.Dlt (ser r') d := (dlt_ser r').mono (by have := h'.lt; omega)
  have hu := S.div_unique (n := max s.length s'.length) ((dlt_ser s).mono (by omega)) ((dlt_ser s').mono (by omega)) hg h0 hr hr' (by
    rw [S.add_comm, h.eq, S.add_comm, h'.eq])
  exact ⟨h.ts.eq h'.ts hu.1, h.tr.eq h'.tr hu.2⟩

def shiftS (p : List E) (c : E) (n : Nat) : S := S.smul c (S.shN n (ser p))
def shiftL (p : List E) (c : E) (n : Nat) : List E := ofS (n + p.length) (shiftS p c n)
theorem ser_shiftL (p : List E) (c : E) (n : Nat) : ser (shiftL p c n) = shiftS p c n := by
  rw [shiftL, ser_ofS]
  intro i hi
  simp only [shiftS, S.smul, S.shN]
  rw [if_neg (by omega), ser_out p (i - n) (by omega), E.mul_zero]
theorem shiftL_length (p : List E) (c : E) (n : Nat) : (shiftL p c n).length = n + p.length := ofS_length _ _
theorem shiftS_zeros (p : List E) (c : E) (n : Nat) : ofS n S.zero = ofS n (shiftS p c n) := ofS_congr fun i hi => by
  simp only [shiftS, S.smul, S.shN, S.zero]
  rw [if_pos hi, E.mul_zero]
theorem shiftS_at (p : List E) (c : E) (n k : Nat) (hk : k < p.length) : shiftS p c n (n + k) = p[k] * c := by
  simp only [shiftS, S.smul, S.shN]
  rw [if_neg (by omega), show n + k - n = k by omega, ser_at p k hk, E.mul_comm]
set_option maxHeartbeats 1000000 in
theorem shifted_n (A : Option Addr) (m : Nat) (p : List E) (cap : Nat) (c : E) (n : Nat) (w : World) (hm : p.length = m) (hr : Rd w A (bs p)) (hlen : n + m ≤ 140737488355327) :
    Calls Try.prog 93 #[.slice A m cap, .int .u8 c.val, .int .i64 n] w fun e w' => ∃ v, e = .returned v ∧ Own w' w.heap.size 5 v (bs (shiftL p c n)) ∧ Ext w w' := by
  have hmk := make_bytes n (by omega)
  rw [zeros_ofS, shiftS_zeros p c n] at hmk
  have HT := Lib.hid (show ofS (n + m) (shiftS p c n) = shiftL p c n by rw [shiftL, hm])
  have HM := Lib.hid hm
  have hcl := c.lt
  have hs2 : (bs (ofS n (shiftS p c n))).toArray.size = n := by simp [bs, ofS_length]
  have HO := Lib.hid (show Own (w.alloc (.cells (bs (ofS n (shiftS p c n))).toArray 5)) w.heap.size 5 (.slice (some ⟨w.heap.size, 0, none⟩) n n) (bs (ofS n (shiftS p c n))) by
    have ho := (Blk.new w 5 (bs (ofS n (shiftS p c n))).toArray).own (B := w.heap.size) (n := n) (cap := n) (Nat.le_refl _) (Nat.le_refl _) (by simp only [maxLen]; omega) hs2
    rwa [List.toList_toArray, List.take_of_length_le (by rw [bs_ofS_len]; exact Nat.le_refl _)] at ho)
  clear hm hs2
  go_enter Try.func93, Try.ntmps93
  go_wp2_with fail
  go_loopw [7, 8] (fun v i wr => ∃ (k : Nat) (V : Value), V = v ∧ k ≤ m ∧ i = .int .i64 k ∧ Ext w wr ∧ Own wr w.heap.size 5 V (bs (ofS (n + k) (shiftS p c n)))) (fun _ i _ => m - (intOf i).toNat)
  case atStart => exact ⟨0, _, rfl, by omega, rfl, (Ext.refl _).alloc _, HO.out⟩
  case round =>
    obtain ⟨k, V, rfl, hk, rfl, hx, ho⟩ := hrel
    by_cases hlt : k < m
    · have hkp : k < p.length := by have := HM.out; omega
      obtain ⟨ad, rfl, hc⟩ := (hr.ext hx).byte hkp
      have hle := hx.le
      have hbd : ((bs (ofS (n + k) (shiftS p c n))).length + 1) * 1 ≤ 140737488355328 := by rw [bs_ofS_len]; omega
      have hpl := (p[k]).lt
      have hml := (p[k] * c).lt
      have HS := Lib.hid (show bs (ofS (n + (k + 1)) (shiftS p c n)) = bs (ofS (n + k) (shiftS p c n)) ++ [.int .u8 ((p[k] * c).val : Int)] by
        rw [← Nat.add_assoc, bs_ofS_succ, shiftS_at p c n k hkp])
      clear hmk HO
      go_wp2_with (first | (go_at_call 86; with_reducible refine (refMul_any _ _ _).mono ?_; rintro e w' ⟨rfl, rfl⟩) | (at_builtin; refine wpList_push _ eltU8 rfl _ _ (by rfl) w.heap.size V _ (by rfl) (by exact ho) (.int .u8 (p[k] * c).val) (by rfl) rfl hbd hle ?_; intro v' w' ho' _ hb' _))
      go_roundw
      case rel => exact ⟨k + 1, _, rfl, by omega, by go_num, Below.trans hx hb', by rw [HS.out]; exact ho'⟩
      case measure => simp [intOf]; omega
    · obtain rfl : k = m := by omega
      go_wp2
      go_ret
      exact ⟨_, rfl, by rw [← HT.out]; exact ho, hx⟩

theorem ser_one : ser [(1 : E)] = S.one := funext fun i => by
  cases i with
  | zero => rfl
  | succ i => rw [ser_out [1] (i + 1) (by simp)]; rfl
theorem ref_step {p q s r d : List E} {c : E} {n : Nat} (hd : ser d = ser q) (hdt : Trimmed d) (hd0 : d.length ≠ 0) (hr : Trimmed r) (hl : d.length ≤ r.length) (he : S.add (ser r) (S.mul (ser s) (ser q)) = ser p)
    (hc : c = ser r (r.length - 1) * E.inv (ser d (d.length - 1))) (hn : n = r.length - d.length) :
    S.add (ser (plusL r (shiftL d c n))) (S.mul (ser (plusL s (shiftL [1] c n))) (ser q)) = ser p ∧ (plusL r (shiftL d c n)).length < r.length := by
  constructor
  · rw [ser_plusL, ser_plusL, ser_shiftL, ser_shiftL, S.add_mul]
    have h1 : S.mul (shiftS [1] c n) (ser q) = shiftS d c n := by
      rw [shiftS, ser_one, ← S.mono_mul, S.mul_one, S.mono_mul, shiftS, hd]
    rw [h1, S.add_assoc, S.add_comm (S.mul (ser s) (ser q)), ← S.add_assoc (shiftS d c n), S.add_self, S.zero_add, he]
  · have hr0 : r.length ≠ 0 := by omega
    have hD : S.Dlt (ser (plusL r (shiftL d c n))) (r.length - 1) := by
      rw [ser_plusL, ser_shiftL]
      intro i hi
      simp only [S.add, shiftS, S.smul, S.shN]
      rw [if_neg (by omega)]
      by_cases h1 : i = r.length - 1
      · subst h1
        rw [show r.length - 1 - n = d.length - 1 by omega, hc, E.mul_assoc, E.inv_mul (hdt.last hd0), E.mul_one, E.add_self]
      · rw [ser_out r i (by omega), ser_out d (i - n) (by omega), E.mul_zero, E.add_zero]
    have h2 := dg_min hD
    have h3 := (trimmed_plusL r (shiftL d c n)).dg
    omega
theorem plusL_le (p q : List E) : (plusL p q).length ≤ max p.length q.length := by
  rw [plusL, trim_length]
  have := dg_le (ofS (max p.length q.length) (S.add (ser p) (ser q)))
  rwa [ofS_length] at this
theorem refDivide_zero (A C : Option Addr) (n m ca cb : Nat) (p q : List E) (w : World) (hm : q.length = m) (hs : Rd w C (bs q)) (hlenq : m ≤ 140737488355327) (h0 : dg q = 0) :
    Calls Try.prog 44 #[.slice A n ca, .slice C m cb] w fun e w' => e = .returned (.tuple #[.slice none 0 0, .slice none 0 0, .int .i64 10]) ∧ Ext w w' := by
  have HT := Lib.hid ((trim_length q).trans h0)
  clear h0
  go_enter Try.func44, Try.ntmps44
  go_wp2_with fail
  refine (refTrim_n C m q cb _ hm hs (by omega)).mono ?_
  rintro e w1 ⟨v, rfl, ho, hx⟩
  obtain ⟨A1, c1, rfl, -, -, -, -⟩ := ho.bytes
  rw [HT.out]
  clear ho
  go_wp2
  go_ret3
  exact ⟨rfl, hx⟩
set_option maxHeartbeats 2000000 in
theorem refDivide_n (A C : Option Addr) (n m ca cb : Nat) (p q : List E) (w : World) (hn : p.length = n) (hm : q.length = m) (hr : Rd w A (bs p)) (hs : Rd w C (bs q)) (hlen : n ≤ 140737488355300) (hlenq : m ≤ 140737488355300) (hne : 0 < dg q) :
    Calls Try.prog 44 #[.slice A n ca, .slice C m cb] w fun e w' => ∃ vs vr s r, e = .returned (.tuple #[vs, vr, .int .i64 0]) ∧ DivOK p q s r ∧ Own w' w.heap.size 5 vs (bs s) ∧ Own w' w.heap.size 5 vr (bs r) ∧ Ext w w' := by
  obtain ⟨d, hd⟩ : ∃ d, dg q = d + 1 := ⟨dg q - 1, by omega⟩
  have HDL := Lib.hid ((trim_length q).trans hd)
  have HDS := Lib.hid (ser_trim q)
  have HDT := Lib.hid (trimmed_trim q)
  have hdm : d + 1 ≤ m := by have := dg_le q; omega
  have hpt : (trim p).length ≤ n := by rw [trim_length, ← hn]; exact dg_le p
  have HP := Lib.hid (And.intro (ser_trim p) (trimmed_trim p))
  have HDG := Lib.hid hd
  clear hne hd
  go_enter Try.func44, Try.ntmps44
  go_wp2_with fail
  refine (refTrim_n C m q cb _ hm hs (by omega)).mono ?_
  rintro e w1 ⟨v, rfl, ho, hx1⟩
  obtain ⟨Aq, cq, rfl, -, hrq, -, -⟩ := ho.bytes
  rw [HDL.out]
  clear ho
  go_wp2_with fail
  refine (refTrim_n A n p ca _ hn (hr.ext hx1) (by omega)).mono ?_
  rintro e w2 ⟨v, rfl, ho, hx2⟩
  have ho2 := Lib.hid (ho.mono (B' := w.heap.size) hx1.le)
  generalize trim q = D at HDL HDS HDT hrq
  have hdl : d < D.length := by have := HDL.out; omega
  have hrq2 := hrq.ext hx2
  obtain ⟨ad, rfl, hc1⟩ := hrq2.byte hdl
  have hw1 : wrap64 (((d + 1 : Nat) : Int) - 1) = (d : Int) := by rw [IntWalk.wrap64_in _ (by omega)]; omega
  have hdne : D[d] ≠ 0 := by
    have h1 := HDT.out.last (by have := HDL.out; omega)
    rw [show D.length - 1 = d by have := HDL.out; omega, ser_at D d hdl] at h1
    exact h1
  have hdv := (D[d]).lt
  have hx12 := hx1.trans hx2
  clear hx1 hx2 hm hn hr hs
  go_wp2_with (go_at_call 92; with_reducible refine (refInv_any _ hdne _).mono ?_; rintro e w' ⟨rfl, rfl⟩)
  clear hc1 ho
  go_loopw [8, 10] (fun vr vs wr => ∃ (Vr Vs : Value) (r s : List E), Vr = vr ∧ Vs = vs ∧ Hid (S.add (ser r) (S.mul (ser s) (ser q)) = ser p) ∧ Trimmed r ∧ Trimmed s ∧ r.length ≤ n ∧ s.length ≤ n ∧ (∃ Ar cr, Vr = .slice Ar r.length cr) ∧ Own wr w.heap.size 5 Vr (bs r) ∧ Own wr w.heap.size 5 Vs (bs s) ∧ Ext w wr ∧ Ext w2 wr)
    (fun vr _ _ => match vr with | .slice _ k _ => k | _ => 0)
  case atStart =>
    refine ⟨_, _, trim p, [], rfl, rfl, Lib.hid (by rw [HP.out.1, ser_nil, S.zero_mul, S.add_zero]), HP.out.2, trimmed_nil, hpt, by simp, ?_, ho2.out, Own.nil _ _ _, hx12, Ext.refl _⟩
    obtain ⟨Ar, cr, hv, -, -, -, -⟩ := ho2.out.bytes
    exact ⟨Ar, cr, hv⟩
  case round =>
    obtain ⟨Vr, Vs, r, s, rfl, rfl, heq, htr, hts, hrl, hsl, ⟨Ar, cr, rfl⟩, hor, hos, hxw, hxx⟩ := hrel
    by_cases hgo : d + 1 ≤ r.length
    · obtain ⟨k, hk⟩ : ∃ k, r.length = k + 1 := ⟨r.length - 1, by omega⟩
      have hkr : k < r.length := by omega
      obtain ⟨gr, cr', hv, -, -, -, -⟩ := hor.some_ (fun e => by have := congrArg List.length e; rw [bs_length, List.length_nil] at this; omega)
      injection hv with e1 e2 e3
      clear e2 e3
      subst e1
      have hc : wr.cell? ⟨gr, r.length - 1, none⟩ = some (.int .u8 ((r[k]).val : Int)) := by rw [show r.length - 1 = k by omega]; exact hor.cell (bs_get r k hkr)
      have hi1 : ((d + 1 : Nat) : Int) ≤ (r.length : Int) := by omega
      have hN : wrap64 ((r.length : Int) - ((d + 1 : Nat) : Int)) = ((r.length - (d + 1) : Nat) : Int) := by rw [IntWalk.wrap64_in _ (by omega)]; omega
      have hN' : wrap64 ((r.length : Int) - ((d : Int) + 1)) = ((r.length - (d + 1) : Nat) : Int) := by rw [IntWalk.wrap64_in _ (by omega)]; omega
      have hK : wrap64 ((r.length : Int) - 1) = (k : Int) := by rw [IntWalk.wrap64_in _ (by omega)]; omega
      obtain ⟨c, hcc⟩ : ∃ c, c = r[k] * E.inv D[d] := ⟨_, rfl⟩
      have hstep := Lib.hid (ref_step (n := r.length - (d + 1)) (c := c) HDS.out HDT.out (by have := HDL.out; omega) htr (by have := HDL.out; omega) heq.out (by rw [hcc, show r.length - 1 = k by omega, show D.length - 1 = d by have := HDL.out; omega, ser_at r k hkr, ser_at D d hdl]) (by have := HDL.out; omega))
      have HC := Lib.hid hcc
      have hrv := (r[k]).lt
      have hxr := Lib.hid hxx
      have hkk : k < r.length := hkr
      have hDL := HDL.out
      clear hcc hk
      obtain ⟨nn, hnn⟩ : ∃ nn, nn = r.length - (d + 1) := ⟨_, rfl⟩
      rw [← hnn] at hstep
      clear hN hN'
      have HNN := Lib.hid hnn
      have HNI := Lib.hid (show (r.length : Int) - ((d : Int) + 1) = (nn : Int) by omega)
      obtain ⟨As, cs, rfl, -, hrs, -, -⟩ := hos.bytes
      have hrD := hrq2.ext hxx
      have hnl : nn ≤ n := by omega
      have hcl := c.lt
      have HCm := Lib.hid (fun w => (refMul_any r[k] (E.inv D[d]) w))
      rw [← HC.out] at HCm
      clear hnn
      go_wp2_with (go_at_call 86; with_reducible refine (HCm.out _).mono ?_; rintro e w' ⟨rfl, rfl⟩)
      have hrd1 : Rd (wr.alloc (.cells #[.int .u8 1] 5)) (some ⟨wr.heap.size, 0, none⟩) (bs [1]) := rd_new wr (.int .u8 1) 5
      rw [HNI.out]
      with_reducible refine (shifted_n (some ⟨wr.heap.size, 0, none⟩) 1 [1] 1 c nn (wr.alloc (.cells #[.int .u8 1] 5)) rfl hrd1 (by omega)).mono ?_
      rintro e w3 ⟨v, rfl, ho3, hx3⟩
      obtain ⟨A3, c3, rfl, -, hr3, -, -⟩ := ho3.bytes
      have hx3' : Ext wr w3 := ((Ext.refl wr).alloc _).trans hx3
      clear ho3 hx3
      have hl3 : (shiftL [1] c nn).length ≤ n := by rw [shiftL_length]; have := HNN.out; simp; omega
      go_wp2_with fail
      refine (refPlus_n As A3 _ _ s (shiftL [1] c nn) cs c3 _ rfl rfl (hrs.ext hx3') hr3 (by omega) (by omega)).mono ?_
      rintro e w4 ⟨v4, rfl, ho4, hx4⟩
      have hx4' := hx3'.trans hx4
      go_wp2_with fail
      with_reducible refine (shifted_n _ _ D _ c nn _ hDL (hrD.ext hx4') (by have := HNN.out; omega)).mono ?_
      rintro e w5 ⟨v, rfl, ho5, hx5⟩
      obtain ⟨A5, c5, rfl, -, hr5, -, -⟩ := ho5.bytes
      have hx5' := hx4'.trans hx5
      have hl5 : (shiftL D c nn).length ≤ n := by rw [shiftL_length]; have := HNN.out; omega
      clear ho5
      go_wp2_with fail
      refine (refPlus_n _ A5 _ _ r (shiftL D c nn) cr c5 _ rfl rfl (hor.rd.ext hx5') hr5 (by omega) (by omega)).mono ?_
      rintro e w6 ⟨v6, rfl, ho6, hx6⟩
      have hx6' := hx5'.trans hx6
      obtain ⟨A6, c6, rfl, -, -, -, -⟩ := ho6.bytes
      have hs1 := plusL_le s (shiftL [1] c nn)
      go_wp2_with fail
      go_roundw
      case rel =>
        refine ⟨_, _, plusL r (shiftL D c nn), plusL s (shiftL [1] c nn), rfl, rfl, Lib.hid hstep.out.1, trimmed_plusL _ _, trimmed_plusL _ _, by have := hstep.out.2; omega, by omega, ⟨_, _, rfl⟩, ?_, ?_, hxw.trans hx6', hxx.trans hx6'⟩
        · exact ho6.mono (hxw.trans hx5').le
        · exact (ho4.mono (hxw.trans hx3').le).ext (hx5.trans hx6)
      case measure => exact hstep.out.2
    · have hlt : r.length < d + 1 := by omega
      obtain ⟨As, cs, rfl, -, -, -, -⟩ := hos.bytes
      go_wp2
      go_ret3
      exact ⟨_, _, s, r, rfl, ⟨hts, htr, heq.out, by rw [HDG.out]; exact hlt⟩, hos, hor, hxw⟩
theorem DivAny.uniq {p q s r s' r' : List E} {k k' : Int} (h : DivAny p q s r k) (h' : DivAny p q s' r' k') : s = s' ∧ r = r' ∧ k = k' := by
  rcases h with ⟨h0, rfl, rfl, rfl⟩ | ⟨h0, h, rfl⟩ <;> rcases h' with ⟨h0', rfl, rfl, rfl⟩ | ⟨h0', h', rfl⟩
  · exact ⟨rfl, rfl, rfl⟩
  · omega
  · omega
  · exact ⟨(h.uniq h').1, (h.uniq h').2, rfl⟩
theorem refDivide_all (A C : Option Addr) (n m ca cb : Nat) (p q : List E) (w : World) (hn : p.length = n) (hm : q.length = m) (hr : Rd w A (bs p)) (hs : Rd w C (bs q)) (hlen : n ≤ 140737488355300) (hlenq : m ≤ 140737488355300) :
    Calls Try.prog 44 #[.slice A n ca, .slice C m cb] w fun e w' => ∃ vs vr s r k, e = .returned (.tuple #[vs, vr, .int .i64 k]) ∧ DivAny p q s r k ∧ Own w' w.heap.size 5 vs (bs s) ∧ Own w' w.heap.size 5 vr (bs r) ∧ Ext w w' := by
  rcases Nat.eq_zero_or_pos (dg q) with h0 | h0
  · refine (refDivide_zero A C n m ca cb p q w hm hs (by omega) h0).mono ?_
    rintro e w' ⟨rfl, hx⟩
    exact ⟨_, _, [], [], 10, rfl, .inl ⟨h0, rfl, rfl, rfl⟩, Own.nil _ _ _, Own.nil _ _ _, hx⟩
  · refine (refDivide_n A C n m ca cb p q w hn hm hr hs hlen hlenq h0).mono ?_
    rintro e w' ⟨vs, vr, s, r, rfl, hok, h1, h2, hx⟩
    exact ⟨vs, vr, s, r, 0, rfl, .inr ⟨h0, hok, rfl⟩, h1, h2, hx⟩
end Go.Proofs.Ytemnlcfabaocbaa
/-
  The arguments of a law opened where they are together of a bulk that is bounded: rows of bytes, the struct of three rows, a byte and a number.
-/
namespace Go.Proofs.Ytemnlcfabaocbaa
open Go.ChangeShapes Go.WideShapes Go.ChangeAt Go.RowKit Gf Go.Deep

section
variable {H : Type} {enc : TypeId × Value → H} {P : Program} {w : World}
theorem bulk_one (d : DataW H) : 1 ≤ Rows.uptoBulk d := by
  cases d with
  | lit l => cases l <;> simp [Rows.uptoBulk]
  | nil => simp [Rows.uptoBulk]
  | ptr d => simp [Rows.uptoBulk]
  | slice elems spare => simp [Rows.uptoBulk]
  | agg parts => simp [Rows.uptoBulk]
  | iface t d => simp [Rows.uptoBulk]
  | map entries => simp [Rows.uptoBulk]
  | held h => simp [Rows.uptoBulk]
theorem bulk_len (l : List (DataW H)) : l.length ≤ Rows.uptoBulkAll l := by
  induction l with
  | nil => simp [Rows.uptoBulkAll]
  | cons x r ih => have := bulk_one x; simp only [Rows.uptoBulkAll, List.length_cons]; omega
theorem bulk_part {d : DataW H} {l : List (DataW H)} (h : d ∈ l) : Rows.uptoBulk d ≤ Rows.uptoBulkAll l := by
  induction l with
  | nil => cases h
  | cons x r ih =>
    simp only [Rows.uptoBulkAll]
    cases List.mem_cons.1 h with
    | inl e => subst e; omega
    | inr e => have := ih e; omega
theorem bulk_bound {l : List (DataW H)} {d : DataW H} (hk : Rows.uptoSmall H l = true) (h : d ∈ l) : Rows.uptoBulk d ≤ 1048576 :=
  Nat.le_trans (bulk_part h) (of_decide_eq_true hk)
/-- A row of bytes that came in, of bounded bulk. -/
theorem open_bytes_u {base : Nat} {held : Bool} {t e : TypeId} {fuel : Nat} {cs : List Value} {y : DataW H × List MemPlace} (ht : P.underlying t = some (.slice e)) (he : P.underlying e = some (.int .u8)) (hc : P.cellsOf e = 1)
    (h : DataW.trod enc P w base (fun _ => true) held fuel t cs = some y) (hB : Rows.uptoBulk y.1 ≤ 1048576) :
    ∃ (A : Option Addr) (cap : Nat) (xs : List E), cs = [.slice A xs.length cap] ∧ Rd w A (bs xs) ∧ xs.length ≤ cap ∧ cap ≤ 1048576 := by
  rcases open_ints ht he hc h with ⟨hcs, _⟩ | ⟨x, l, c', zs, hcs, _, hl, hm, hz, hx, hcell, hwz⟩
  · exact ⟨none, 0, [], hcs, Rd.nil _ _, Nat.le_refl _, by omega⟩
  · simp only [if_true] at hz
    have hcap : c' ≤ 1048576 := by
      rw [hx] at hB
      simp only [Rows.uptoBulk] at hB
      have h1 := bulk_len (H := H) (lits .u8 (zs.take l))
      have h2 := bulk_len (H := H) (lits .u8 (zs.drop l))
      rw [lits_length, List.length_take] at h1
      rw [lits_length, List.length_drop] at h2
      omega
    have hE : ∀ i, i < zs.length → ∃ x : E, zs.getD i 0 = (x.val : Int) := fun i hi => by
      have : zs.getD i 0 ∈ zs := by
        rw [List.getD_eq_getElem?_getD, List.getElem?_eq_getElem hi]
        exact List.getElem_mem hi
      exact toE (hwz _ this)
    let f : Nat → E := fun i => ⟨(zs.getD i 0).toNat % 256, Nat.mod_lt _ (by decide)⟩
    have hf : ∀ i, i < zs.length → zs.getD i 0 = ((f i).val : Int) := fun i hi => by
      obtain ⟨x, hx⟩ := hE i hi
      have hlt := x.lt
      show zs.getD i 0 = (((zs.getD i 0).toNat % 256 : Nat) : Int)
      rw [hx]
      omega
    refine ⟨some x, c', (List.range l).map f, by simpa using hcs, fun _ => ⟨x, rfl, fun j u hu => ?_⟩, by simpa using hl, hcap⟩
    have hj : j < l := by
      have := (List.getElem?_eq_some_iff.1 hu).1
      simpa [bs] using this
    rw [hcell j (by omega), hf j (by omega)]
    rw [bs, List.getElem?_map, List.getElem?_map, List.getElem?_range hj] at hu
    simpa [bv] using hu
theorem array5 {α : Type} {cs : Array α} (h : cs.size = 5) : ∃ c0 c1 c2 c3 c4, cs = #[c0, c1, c2, c3, c4] := by
  obtain ⟨l⟩ := cs
  match l, h with
  | [c0, c1, c2, c3, c4], _ => exact ⟨c0, c1, c2, c3, c4, rfl⟩
theorem open_agg5 {base : Nat} {spare : Nat → Bool} {held : Bool} {r : Reach} {b0 : Nat} {t : TypeId} {f0 f1 f2 f3 f4 : Field} {v : Value} {d : DataW H} {p : List MemPlace} (hs : P.underlying t = some (.struct #[f0, f1, f2, f3, f4])) (hone : oneCellFields P #[f0, f1, f2, f3, f4] = true) (hC : P.cellsOf t = 5)
    (hv : Value.okWide P w r b0 t v) (h : DataW.Trod enc P w base spare held t v d p) :
    ∃ (v0 v1 v2 v3 v4 : Value) (y0 y1 y2 y3 y4 : DataW H × List MemPlace) (n : Nat), v = .agg #[v0, v1, v2, v3, v4] ∧ d = .agg [y0.1, y1.1, y2.1, y3.1, y4.1] ∧
      DataW.trod enc P w base spare held n f0.type [v0] = some y0 ∧ DataW.trod enc P w base spare held n f1.type [v1] = some y1 ∧ DataW.trod enc P w base spare held n f2.type [v2] = some y2 ∧ DataW.trod enc P w base spare held n f3.type [v3] = some y3 ∧ DataW.trod enc P w base spare held n f4.type [v4] = some y4 := by
  obtain ⟨cs, rfl, hsz⟩ := okWide_struct hs hv
  obtain ⟨c0, c1, c2, c3, c4, rfl⟩ := array5 (hsz.trans hC)
  obtain ⟨fuel, hf⟩ := h
  obtain ⟨xs, n, _, hx, hl, hlen, hff⟩ := DataW.trod_struct hs hf
  obtain ⟨o0, k0⟩ := hone_of hone 0 f0 rfl
  obtain ⟨o1, k1⟩ := hone_of hone 1 f1 rfl
  obtain ⟨o2, k2⟩ := hone_of hone 2 f2 rfl
  obtain ⟨o3, k3⟩ := hone_of hone 3 f3 rfl
  obtain ⟨o4, k4⟩ := hone_of hone 4 f4 rfl
  match xs, hlen with
  | [y0, y1, y2, y3, y4], _ =>
    simp only [Prod.mk.injEq] at hx
    exact ⟨c0, c1, c2, c3, c4, y0, y1, y2, y3, y4, n, rfl, by simpa using hx.1, by simpa [Value.cells, o0, k0] using hff 0 f0 rfl, by simpa [Value.cells, o1, k1] using hff 1 f1 rfl, by simpa [Value.cells, o2, k2] using hff 2 f2 rfl,
      by simpa [Value.cells, o3, k3] using hff 3 f3 rfl, by simpa [Value.cells, o4, k4] using hff 4 f4 rfl⟩
end
end Go.Proofs.Ytemnlcfabaocbaa
/-
  Roots are linear divisors; no more roots than the degree; the product over points; the polynomial through points.
-/
namespace Go.Proofs.Ytemnlcfabaocbaa.Gf
open S

/-- Division by x + a: what the quotient is. -/
def syn (a : E) : List E → List E
  | [] => []
  | _ :: t => evL t a :: syn a t
theorem lin_mul (a : E) (f : S) : mul (ser [a, 1]) f = add (smul a f) (sh f) := by
  rw [mul_split (ser [a, 1]) f]
  have h0 : ser [a, 1] 0 = a := rfl
  have h1 : tail (ser [a, 1]) = one := funext fun i => by cases i <;> rfl
  rw [h0, h1, one_mul]
theorem syn_ok (a : E) : ∀ l : List E, add (ser l) (smul (evL l a) one) = mul (ser [a, 1]) (ser (syn a l))
  | [] => by rw [lin_mul, ser_nil, evL_nil, syn, ser_nil, smul_zero, sh_zero, zero_smul]
  | c :: t => by
    have ih := syn_ok a t
    rw [lin_mul] at ih ⊢
    funext i
    cases i with
    | zero =>
      simp only [add, smul, sh, syn, ser_cons_zero, evL_cons, one]
      rw [E.mul_one, E.add_zero, ← E.add_assoc, E.add_self, E.zero_add]
    | succ i =>
      have h := congrFun ih i
      simp only [add, smul, sh, syn] at h ⊢
      have e1 : ser (c :: t) (i + 1) = ser t i := congrFun (ser_tail c t) i
      have e2 : ser (evL t a :: syn a t) (i + 1) = ser (syn a t) i := congrFun (ser_tail _ _) i
      rw [e1, e2]
      cases i with
      | zero =>
        have e3 : ser (evL t a :: syn a t) 0 = evL t a := rfl
        rw [e3]
        simp only [one, E.mul_one] at h ⊢
        rw [E.mul_zero, E.add_zero]
        rw [E.add_zero] at h
        rw [← h, E.add_assoc, E.add_self, E.add_zero]
      | succ i =>
        have e3 : ser (evL t a :: syn a t) (i + 1) = ser (syn a t) i := congrFun (ser_tail _ _) i
        rw [e3]
        simpa [one, E.mul_zero, E.add_zero, sh] using h
theorem syn_dlt (a : E) : ∀ (l : List E) (n : Nat), Dlt (ser l) (n + 1) → Dlt (ser (syn a l)) n
  | [], _, _ => fun i _ => by rw [syn, ser_nil]; rfl
  | c :: t, n, h => by
    have ht : Dlt (ser t) n := fun i hi => by rw [← ser_tail c t]; exact h (i + 1) (by omega)
    cases n with
    | zero =>
      have hz : ser t = zero := ht.zero
      have e0 : evL t a = 0 := by rw [evL_ser (b := []) (by rw [hz, ser_nil]), evL_nil]
      have := syn_dlt' a t hz
      intro i _
      cases i with
      | zero => rw [syn, e0]; rfl
      | succ i => rw [syn]; rw [show ser (evL t a :: syn a t) (i + 1) = ser (syn a t) i from congrFun (ser_tail _ _) i, this]; rfl
    | succ n =>
      have ih := syn_dlt a t n ht
      intro i hi
      cases i with
      | zero => omega
      | succ i => rw [syn, show ser (evL t a :: syn a t) (i + 1) = ser (syn a t) i from congrFun (ser_tail _ _) i]; exact ih i (by omega)
where
  syn_dlt' (a : E) : ∀ t : List E, ser t = zero → ser (syn a t) = zero
    | [], _ => ser_nil
    | c :: t, h => by
      have ht : ser t = zero := by rw [← ser_tail c t, h]; rfl
      have e0 : evL t a = 0 := by rw [evL_ser (b := []) (by rw [ht, ser_nil]), evL_nil]
      funext i
      cases i with
      | zero => rw [syn, e0]; rfl
      | succ i => rw [syn, show ser (evL t a :: syn a t) (i + 1) = ser (syn a t) i from congrFun (ser_tail _ _) i, syn_dlt' a t ht]; rfl
theorem evL_lin (a x : E) : evL [a, 1] x = a + x := by
  simp [evL_cons, evL_nil, E.mul_zero, E.add_zero, E.mul_one]
/-- A root splits off. -/
theorem root_split {l : List E} {a : E} (h : evL l a = 0) : ser l = mul (ser [a, 1]) (ser (syn a l)) := by
  have := syn_ok a l
  rwa [h, zero_smul, add_zero] at this
theorem evL_mulS {l g : List E} {a : E} (h : ser l = mul (ser [a, 1]) (ser g)) (x : E) : evL l x = (a + x) * evL g x := by
  rw [← evL_lin, ← evL_times]
  exact evL_ser (by rw [h, ser_timesL]) x
/-- No more roots than the degree. -/
theorem few_roots : ∀ (n : Nat) (l : List E) (xs : List E), Dlt (ser l) n → xs.Nodup → n ≤ xs.length → (∀ x ∈ xs, evL l x = 0) → ser l = zero
  | 0, l, _, h, _, _, _ => h.zero
  | n + 1, l, [], _, _, hl, _ => by simp at hl
  | n + 1, l, a :: xs, h, hn, hl, hr => by
    have hs := root_split (hr a (List.mem_cons_self ..))
    have hz := few_roots n (syn a l) xs (syn_dlt a l n h) (List.nodup_cons.1 hn).2 (by simpa using hl) (fun x hx => by
      have h0 := hr x (List.mem_cons_of_mem _ hx)
      rw [evL_mulS hs] at h0
      rcases E.mul_eq_zero.1 h0 with h1 | h1
      · have : a = x := E.add_eq_zero.1 h1
        subst this
        exact absurd hx (List.nodup_cons.1 hn).1
      · exact h1)
    rw [hs, hz, mul_zero]

theorem snocInd {P : List E → Prop} (h0 : P []) (h1 : ∀ l a, P l → P (l ++ [a])) (l : List E) : P l := by
  have key : ∀ n, ∀ l : List E, l.length = n → P l := by
    intro n
    induction n with
    | zero => intro l hl; rw [List.eq_nil_of_length_eq_zero hl]; exact h0
    | succ n ih =>
      intro l hl
      obtain ⟨ps, a, rfl⟩ := (List.eq_nil_or_concat l).resolve_left (by rintro rfl; simp at hl)
      rw [List.concat_eq_append]
      exact h1 ps a (ih ps (by simpa using hl))
  exact key _ l rfl
/-! The product over points. -/
def vanishL (pts : List E) : List E := pts.foldl (fun o a => timesL o [a, 1]) [1]
theorem vanishL_snoc (pts : List E) (a : E) : vanishL (pts ++ [a]) = timesL (vanishL pts) [a, 1] := by simp [vanishL]
theorem vanishL_take (pts : List E) (k : Nat) (h : k < pts.length) : vanishL (pts.take (k + 1)) = timesL (vanishL (pts.take k)) [pts[k], 1] := by
  rw [List.take_succ_eq_append_getElem h, vanishL_snoc]
/-- Its length and its last coefficient. -/
theorem timesL_lin {l : List E} {n : Nat} (a : E) (h : Dlt (ser l) (n + 1)) : Dlt (ser (timesL l [a, 1])) (n + 2) := by
  rw [ser_timesL]
  exact Dlt.mulN (m := n + 1) (n := 1) h (by exact dlt_ser [a, 1])
theorem timesL_lin_len {l : List E} {n : Nat} (a : E) (h : l.length ≤ n + 1) : (timesL l [a, 1]).length ≤ n + 2 := by
  have := dg_min (timesL_lin a ((dlt_ser l).mono h))
  have h2 := (trimmed_timesL l [a, 1]).dg
  omega
theorem vanish_deg : ∀ (k : Nat) (pts : List E), pts.length = k → Dlt (ser (vanishL pts)) (k + 1) ∧ ser (vanishL pts) k = 1
  | 0, pts, h => by
    obtain rfl : pts = [] := List.eq_nil_of_length_eq_zero h
    exact ⟨dlt_ser [1], rfl⟩
  | k + 1, pts, h => by
    obtain ⟨ps, a, rfl⟩ : ∃ ps a, pts = ps ++ [a] := by
      obtain ⟨l, b, e⟩ := (List.eq_nil_or_concat pts).resolve_left (by rintro rfl; simp at h)
      exact ⟨l, b, by rw [e, List.concat_eq_append]⟩
    obtain ⟨h1, h2⟩ := vanish_deg k ps (by simpa using h)
    rw [vanishL_snoc]
    refine ⟨timesL_lin a h1, ?_⟩
    rw [ser_timesL]
    have h3 : mul (ser (vanishL ps)) (ser [a, 1]) (k + 1) = ser (vanishL ps) k * ser [a, 1] 1 := lead_mul h1 (dlt_ser [a, 1])
    rw [h3, h2, E.one_mul]
    rfl
theorem vanish_dg (pts : List E) : dg (vanishL pts) = pts.length + 1 := by
  obtain ⟨h1, h2⟩ := vanish_deg _ pts rfl
  exact dg_eq h1 (fun _ => by rw [Nat.add_sub_cancel, h2]; exact E.one_ne_zero)
theorem trimmed_vanish (pts : List E) : Trimmed (vanishL pts) := by
  rcases List.eq_nil_or_concat pts with rfl | ⟨ps, a, rfl⟩
  · exact trimmed_of fun _ => E.one_ne_zero
  · rw [List.concat_eq_append, vanishL_snoc]; exact trimmed_timesL _ _
theorem vanish_length (pts : List E) : (vanishL pts).length = pts.length + 1 := by
  rw [← (trimmed_vanish pts).dg, vanish_dg]
theorem vanish_ev (pts : List E) (x : E) : evL (vanishL pts) x = 0 ↔ x ∈ pts := by
  induction pts using snocInd with
  | h0 => simp [vanishL, evL_cons, evL_nil, E.mul_zero, E.add_zero]; exact E.one_ne_zero
  | h1 ps a ih =>
    rw [vanishL_snoc, evL_times, evL_lin, E.mul_eq_zero, ih, E.add_eq_zero, List.mem_append, List.mem_singleton]
    exact ⟨fun h => h.imp id Eq.symm, fun h => h.imp id Eq.symm⟩

/-! The polynomial through points. -/
structure ThOK (pts vals t : List E) : Prop where
  tt : Trimmed t
  len : t.length ≤ pts.length
  at_ : ∀ i (h : i < pts.length) (h' : i < vals.length), evL t pts[i] = vals[i]
theorem ThOK.uniq {pts vals t t' : List E} (hn : pts.Nodup) (hl : pts.length = vals.length) (h : ThOK pts vals t) (h' : ThOK pts vals t') : t = t' := by
  refine h.tt.eq h'.tt (add_eq_zero ?_)
  rw [← ser_plusL]
  refine few_roots pts.length (plusL t t') pts ?_ hn (Nat.le_refl _) ?_
  · rw [ser_plusL]
    exact ((dlt_ser t).mono h.len).add ((dlt_ser t').mono h'.len)
  · intro x hx
    obtain ⟨i, hi, rfl⟩ := List.getElem_of_mem hx
    rw [evL_plus, h.at_ i hi (by omega), h'.at_ i hi (by omega), E.add_self]
theorem th_nil (vals : List E) : ThOK [] vals [] := ⟨trimmed_nil, Nat.le_refl _, fun i h => absurd h (by simp)⟩
/-- One point more. -/
theorem th_step {pts vals t : List E} {k : Nat} {c : E} (hk : k < pts.length) (hk' : k < vals.length) (h : ThOK (pts.take k) (vals.take k) t) (hc : c * evL (vanishL (pts.take k)) pts[k] = vals[k] + evL t pts[k]) :
    ThOK (pts.take (k + 1)) (vals.take (k + 1)) (plusL t (scaleL (vanishL (pts.take k)) c)) := by
  have hl1 : (pts.take k).length = k := by rw [List.length_take]; omega
  refine ⟨trimmed_plusL _ _, ?_, ?_⟩
  · have hD : Dlt (ser (plusL t (scaleL (vanishL (pts.take k)) c))) (k + 1) := by
      rw [ser_plusL, ser_scaleL]
      refine ((dlt_ser t).mono (by have := h.len; omega)).add (Dlt.smul ?_ c)
      have := (vanish_deg _ (pts.take k) rfl).1
      rwa [hl1] at this
    have := dg_min hD
    have h2 := (trimmed_plusL t (scaleL (vanishL (pts.take k)) c)).dg
    rw [List.length_take]
    omega
  · intro i hi hi'
    rw [List.length_take] at hi hi'
    rw [List.getElem_take, List.getElem_take, evL_plus, evL_scale]
    rcases Nat.lt_or_ge i k with h1 | h1
    · have h2 := h.at_ i (by rw [hl1]; exact h1) (by rw [List.length_take]; omega)
      rw [List.getElem_take, List.getElem_take] at h2
      have h3 : evL (vanishL (pts.take k)) pts[i] = 0 := (vanish_ev _ _).2 (by
        have : (pts.take k)[i]'(by rw [hl1]; exact h1) = pts[i] := List.getElem_take
        rw [← this]; exact List.getElem_mem _)
      rw [h2, h3, E.mul_zero, E.add_zero]
    · obtain rfl : i = k := by omega
      rw [hc, E.add_left_comm, E.add_self, E.add_zero]
theorem nodup_take {pts : List E} {k : Nat} (hk : k < pts.length) (h : (pts.take k).Nodup) : (pts.take (k + 1)).Nodup ↔ pts[k] ∉ pts.take k := by
  rw [List.take_succ_eq_append_getElem hk, List.nodup_append]
  constructor
  · intro h2 h3; exact h2.2.2 _ h3 _ (List.mem_singleton.2 rfl) rfl
  · intro h2; exact ⟨h, by simp, fun a ha b hb e => by rw [List.mem_singleton] at hb; subst hb; subst e; exact h2 ha⟩
end Go.Proofs.Ytemnlcfabaocbaa.Gf
/-
  A region that draws its order, whose operations only lay new memory: one walk of the lexical order, where each value is the same in every world beyond.
-/
namespace Go.Proofs.Ytemnlcfabaocbaa
open Go
set_option linter.unusedVariables false

/-- The worlds beyond. -/
def Beyond (W : World) := {w' : World // Ext W w'}
instance beyondSome (W : World) : Nonempty (Beyond W) := ⟨⟨W, Ext.refl W⟩⟩
section
variable {F : Fence} {n : Nat} {P : Program}
theorem region_beyond {id : Nat} {Q : Exit → Act → World → Prop} {a : Act} {w : World} {l : List Oper} (hm : P.follows .mixedOrders = true) (hB : Region.lexB .any l.toArray = true) (hnd : noDefer l.toArray = true)
    (h : wpQuietIn F n P l.toArray (fun w' => ∃ u : Beyond w, w' = u.1) (fun a' => ∀ w', (∃ u : Beyond w, w' = u.1) → Q .normal a' w') l a) : (Code.region id l.toArray true).wpIn F n P Q a w := by
  simp only [Region.lexB, Bool.and_eq_true] at hB
  refine wpIn_region_any hm (loudAny (C := fun w' => ∃ u : Beyond w, w' = u.1) (Q := fun a' => ∀ w', (∃ u : Beyond w, w' = u.1) → Q .normal a' w') hnd (fun _ w' hw' h => h w' hw') _ _ _ _ ⟨⟨w.drew, (Ext.refl w).drewN 1⟩, rfl⟩ ?_)
  exact wpAnyQIn_lex (md := .any) hB.1 l 0 (Array.replicate l.toArray.size false) a (by simp) (by simpa using hB.2) h
theorem region_beyond_plain {id : Nat} {Q : Exit → Act → World → Prop} {a : Act} {w : World} {l : List Oper} (hm : P.follows .mixedOrders = true) (hB : Region.lexB .any l.toArray = true) (hnd : noDefer l.toArray = true)
    (h : wpQuietIn Fence.wide 0 P l.toArray (fun w' => ∃ u : Beyond w, w' = u.1) (fun a' => ∀ w', (∃ u : Beyond w, w' = u.1) → Q .normal a' w') l a) : (Code.region id l.toArray true).wp P Q a w :=
  (wpIn_wide (n := 0)).1 (region_beyond hm hB hnd h)
/-- A call whose value is the same beyond. -/
theorem call_beyond {w : World} {u : Beyond w} {f : FuncId} {args : Array Value} {v : Value} (h : Calls P f args u.1 fun e w' => e = .returned v ∧ Ext u.1 w') :
    CallsIn Fence.wide n P f args u.1 fun e w'' => e = .returned v ∧ ∃ u' : Beyond w, w'' = u'.1 :=
  callsIn_wide.2 (h.mono fun e w' ⟨he, hx⟩ => ⟨he, ⟨⟨w', u.2.trans hx⟩, rfl⟩⟩)
theorem call_beyond0 {w : World} {u : Beyond w} {f : FuncId} {args : Array Value} {v : Value} (h : Calls P f args u.1 fun e w' => e = .returned v ∧ u.1 = w') :
    CallsIn Fence.wide n P f args u.1 fun e w'' => e = .returned v ∧ ∃ u' : Beyond w, w'' = u'.1 :=
  callsIn_wide.2 (h.mono fun e w' ⟨he, hx⟩ => ⟨he, ⟨u, hx.symm⟩⟩)
end
end Go.Proofs.Ytemnlcfabaocbaa
/-
  The walks of layer 2: the product over points; the polynomial through points.
-/
namespace Go.Proofs.Ytemnlcfabaocbaa
open Go.RowKit Gf
set_option maxRecDepth 20000
set_option linter.unusedVariables false

theorem own_lit (w : World) (T : TypeId) (l : List E) (hl : l.length ≤ 1000) : Own (w.alloc (.cells (bs l).toArray T)) w.heap.size T (.slice (some ⟨w.heap.size, 0, none⟩) l.length l.length) (bs l) := by
  have hs : (bs l).toArray.size = l.length := by simp [bs]
  have ho := (Blk.new w T (bs l).toArray).own (B := w.heap.size) (n := l.length) (cap := l.length) (Nat.le_refl _) (Nat.le_refl _) (by simp only [maxLen]; omega) hs
  rwa [List.toList_toArray, List.take_of_length_le (by rw [bs_length]; exact Nat.le_refl _)] at ho
theorem rd_lit (w : World) (T : TypeId) (l : List E) (hl : l.length ≤ 1000) : Rd (w.alloc (.cells (bs l).toArray T)) (some ⟨w.heap.size, 0, none⟩) (bs l) := (own_lit w T l hl).rd
set_option maxHeartbeats 1000000 in
theorem polyVanish_n (A : Option Addr) (n cap : Nat) (pts : List E) (w : World) (hn : pts.length = n) (hr : Rd w A (bs pts)) (hlen : n ≤ 140737488355000) :
    Calls Try.prog 49 #[.slice A n cap] w fun e w' => ∃ v, e = .returned v ∧ Own w' w.heap.size 34 v (bs (vanishL pts)) ∧ Ext w w' := by
  have HN := Lib.hid hn
  clear hn
  have h0 := Lib.hid (own_lit w 34 [1] (by simp))
  go_enter Try.func49, Try.ntmps49
  go_wp2_with fail
  go_loopw [3, 9] (fun v i wr => ∃ (k : Nat) (V : Value), V = v ∧ k ≤ n ∧ i = .int .i64 k ∧ Ext w wr ∧ Own wr w.heap.size 34 V (bs (vanishL (pts.take k)))) (fun _ i _ => n - (intOf i).toNat)
  case atStart => exact ⟨0, _, rfl, by omega, rfl, (Ext.refl _).alloc _, h0.out⟩
  case round =>
    obtain ⟨k, V, rfl, hk, rfl, hx, ho⟩ := hrel
    by_cases hlt : k < n
    · have hkt : k < pts.length := by rw [HN.out]; exact hlt
      obtain ⟨ad, rfl, hc⟩ := (hr.ext hx).byte hkt
      have hal := (pts[k]).lt
      obtain ⟨Ao, co, rfl, -, hro, -, -⟩ := ho.bytes
      have HS := Lib.hid (vanishL_take pts k hkt)
      have hvl : (vanishL (pts.take k)).length = k + 1 := by rw [vanish_length, List.length_take]; omega
      have hrl := rd_lit wr 34 [pts[k], 1] (by simp)
      rw [hvl]
      go_wp2_with fail
      refine (polyTimes_n Ao _ _ 2 co 2 (vanishL (pts.take k)) [pts[k], 1] (wr.alloc (.cells (bs [pts[k], 1]).toArray 34)) hvl rfl (hro.alloc _) hrl (by omega)).mono ?_
      rintro e w2 ⟨v, rfl, ho2, hx2⟩
      have hx2' : Ext wr w2 := ((Ext.refl wr).alloc _).trans hx2
      go_wp2
      go_roundw
      case rel => exact ⟨k + 1, _, rfl, by omega, by go_num, hx.trans hx2', by rw [HS.out]; exact ho2.mono (hx.alloc _).le⟩
      case measure => simp [intOf]; omega
    · obtain rfl : k = n := by omega
      have hta : pts.take k = pts := List.take_of_length_le (by rw [HN.out]; exact Nat.le_refl _)
      rw [hta] at ho
      go_wp2
      go_ret
      exact ⟨_, rfl, ho, hx⟩

/-- What the call answers. -/
def ThAny (pts vals t : List E) (k : Int) : Prop :=
  (pts.length ≠ vals.length ∧ t = [] ∧ k = 2) ∨ (pts.length = vals.length ∧ ¬ pts.Nodup ∧ t = [] ∧ k = 20) ∨ (pts.length = vals.length ∧ pts.Nodup ∧ ThOK pts vals t ∧ k = 0)
theorem ThAny.uniq {pts vals t t' : List E} {k k' : Int} (h : ThAny pts vals t k) (h' : ThAny pts vals t' k') : t = t' ∧ k = k' := by
  rcases h with ⟨h0, rfl, rfl⟩ | ⟨h0, h1, rfl, rfl⟩ | ⟨h0, h1, h2, rfl⟩ <;> rcases h' with ⟨g0, rfl, rfl⟩ | ⟨g0, g1, rfl, rfl⟩ | ⟨g0, g1, g2, rfl⟩
  · exact ⟨rfl, rfl⟩
  · exact absurd g0 h0
  · exact absurd g0 h0
  · exact absurd h0 g0
  · exact ⟨rfl, rfl⟩
  · exact absurd g1 h1
  · exact absurd h0 g0
  · exact absurd h1 g1
  · exact ⟨h2.uniq h1 h0 g2, rfl⟩
theorem ThAny.len {pts vals t : List E} {k : Int} (h : ThAny pts vals t k) : t.length ≤ pts.length := by
  rcases h with ⟨h0, rfl, rfl⟩ | ⟨h0, h1, rfl, rfl⟩ | ⟨h0, h1, h2, rfl⟩
  · exact Nat.zero_le _
  · exact Nat.zero_le _
  · exact h2.len
theorem polyThrough_odd (A C : Option Addr) (n m ca cb : Nat) (w : World) (he : n ≠ m) :
    Calls Try.prog 50 #[.slice A n ca, .slice C m cb] w fun e w' => e = .returned (.tuple #[.slice none 0 0, .int .i64 2]) ∧ w = w' := by
  have h1 : ((n : Int) != (m : Int)) = true := by rw [bne_iff_ne]; omega
  go_enter Try.func50, Try.ntmps50
  go_wp2
  go_ret2
  exact ⟨rfl, rfl⟩
set_option maxHeartbeats 4000000 in
theorem polyThrough_n (A C : Option Addr) (n ca cb : Nat) (pts vals : List E) (w : World) (hn : pts.length = n) (hm : vals.length = n) (hr : Rd w A (bs pts)) (hs : Rd w C (bs vals)) (hlen : n ≤ 140737488355000) :
    Calls Try.prog 50 #[.slice A n ca, .slice C n cb] w fun e w' => ∃ v t k, e = .returned (.tuple #[v, .int .i64 k]) ∧ ThAny pts vals t k ∧ Own w' w.heap.size 34 v (bs t) ∧ Ext w w' := by
  have HN := Lib.hid hn
  have HM := Lib.hid hm
  clear hn hm
  have hmo : Try.prog.follows Departure.mixedOrders = true := by kernel_rfl
  have hwd : Fence.wide.depth = none := rfl
  have hwf : ∀ f, Fence.wide.fn f := fun _ => trivial
  have h0 := Lib.hid (own_lit w 34 [1] (by simp))
  go_enter Try.func50, Try.ntmps50
  go_wp2_with fail
  go_loopw [6, 7, 20] (fun p v i wr => ∃ (k : Nat) (Vp Vv : Value) (t : List E), Vp = p ∧ Vv = v ∧ k ≤ n ∧ i = .int .i64 k ∧ Hid ((pts.take k).Nodup ∧ ThOK (pts.take k) (vals.take k) t) ∧ Ext w wr ∧ Own wr w.heap.size 34 Vp (bs t) ∧ Own wr w.heap.size 34 Vv (bs (vanishL (pts.take k)))) (fun _ _ i _ => n - (intOf i).toNat)
  case atStart => exact ⟨0, _, _, [], rfl, rfl, by omega, rfl, ⟨by simp, th_nil _⟩, (Ext.refl _).alloc _, Own.nil _ _ _, h0.out⟩
  case round =>
    obtain ⟨k, Vp, Vv, t, rfl, rfl, hk, rfl, hok, hx, hop, hov⟩ := hrel
    clear h0
    by_cases hlt : k < n
    · have hkp : k < pts.length := by rw [HN.out]; exact hlt
      have hkv : k < vals.length := by rw [HM.out]; exact hlt
      obtain ⟨ad, rfl, hc⟩ := (hr.ext hx).byte hkp
      obtain ⟨bd, rfl, -⟩ := hs.byte hkv
      have hcv : ∀ u : Beyond wr, u.1.cell? (bd.add k) = some (.int .u8 ((vals[k]).val : Int)) := fun u => by
        obtain ⟨bd', e', hc'⟩ := (hs.ext (hx.trans u.2)).byte hkv
        injection e' with e'
        subst e'
        exact hc'
      have hvl : (vanishL (pts.take k)).length = k + 1 := by rw [vanish_length, List.length_take]; omega
      have htl : t.length ≤ k := by have := hok.out.2.len; rw [List.length_take] at this; omega
      obtain ⟨Ap, cp, rfl, -, hrp, -, -⟩ := hop.bytes
      obtain ⟨Av, cv, rfl, -, hrv, -, -⟩ := hov.bytes
      have HP := Lib.hid (fun u : Beyond wr => polyAt_n Ap t.length cp t pts[k] u.1 rfl (hrp.ext u.2) (by simp only [maxLen]; omega))
      have HV := Lib.hid (fun u : Beyond wr => polyAt_n Av (k + 1) cv (vanishL (pts.take k)) pts[k] u.1 hvl (hrv.ext u.2) (by simp only [maxLen]; omega))
      rw [hvl]
      have hpl := (pts[k]).lt
      have hvv := (vals[k]).lt
      have H1 := Lib.hid (And.intro hrp hrv)
      have H2 := Lib.hid (And.intro hop hov)
      have H3 := Lib.hid (And.intro hr hs)
      clear hrp hrv hop hov hr hs
      go_wp2_with fail
      refine region_beyond_plain hmo (by kernel_rfl) (by kernel_rfl) ?_
      repeat (gi_big_quiet_step ((first | (gi_at_call 35; with_reducible exact call_beyond (HP.out _)) | (gi_at_call 35; with_reducible exact call_beyond (HV.out _)) | (gi_at_call 57; with_reducible exact call_beyond0 (plus_any _ _ _)) | (gi_at_call 96; with_reducible exact call_beyond0 (over_all _ _ _)))))
      refine wpQuietIn_nil ?_
      rintro _ ⟨⟨w2, hx2⟩, rfl⟩
      obtain ⟨b, hb⟩ : ∃ b, b = evL (vanishL (pts.take k)) pts[k] := ⟨_, rfl⟩
      have HB := Lib.hid hb
      rw [← hb]
      clear hb hcv HP HV
      by_cases hz : b = 0
      · have hoe : overErr b = 10 := by rw [hz]; rfl
        have HE := Lib.hid (show ¬ pts.Nodup by
          intro hnd
          have h1 : pts[k] ∈ pts.take k := (vanish_ev _ _).1 (by rw [← HB.out, hz])
          have h2 : (pts.take (k + 1)).Nodup := hnd.sublist (List.take_sublist _ _)
          exact (nodup_take hkp hok.out.1).1 h2 h1)
        clear hz
        rw [hoe]
        go_wp2
        go_ret2
        exact ⟨_, [], 20, rfl, .inr (.inl ⟨by rw [HN.out, HM.out], HE.out, rfl, rfl⟩), Own.nil _ _ _, hx.trans hx2⟩
      · have hoe : overErr b = 0 := if_neg hz
        have HE := Lib.hid (show (pts.take (k + 1)).Nodup from (nodup_take hkp hok.out.1).2 (fun h1 => hz (by rw [HB.out]; exact (vanish_ev _ _).2 h1)))
        obtain ⟨c, hc'⟩ : ∃ c, c = (vals[k] + evL t pts[k]) * E.inv b := ⟨_, rfl⟩
        have HS := Lib.hid (th_step (c := c) hkp hkv hok.out.2 (by rw [← HB.out, hc', E.mul_assoc, E.inv_mul hz, E.mul_one]))
        rw [hoe, ← hc']
        have hcl := c.lt
        clear hz hc' hoe
        have hop2 := H2.out.1.ext hx2
        have hov2 := H2.out.2.ext hx2
        have hrp2 := H1.out.1.ext hx2
        have hrv2 := H1.out.2.ext hx2
        have HV := Lib.hid (vanishL_take pts k hkp)
        have hx3 := hx.trans hx2
        go_wp2_with fail
        refine (polyScale_n Av (k + 1) cv (vanishL (pts.take k)) c _ hvl hrv2 (by omega)).mono ?_
        rintro e w4 ⟨v4, rfl, ho4, hx4⟩
        obtain ⟨A4, c4, rfl, -, hr4, -, -⟩ := ho4.bytes
        have hl4 : (scaleL (vanishL (pts.take k)) c).length ≤ k + 1 := by rw [scaleL, trim_length]; exact Nat.le_trans (dg_le _) (by rw [ofS_length, hvl]; exact Nat.le_refl _)
        go_wp2_with fail
        refine (polyPlus_n Ap A4 _ _ cp c4 t (scaleL (vanishL (pts.take k)) c) w4 rfl rfl (hrp2.ext hx4) hr4 (by omega) (by omega)).mono ?_
        rintro e w5 ⟨v5, rfl, ho5, hx5⟩
        have hx45 := hx4.trans hx5
        have hrl := rd_lit w5 34 [pts[k], 1] (by simp)
        go_wp2_with fail
        refine (polyTimes_n Av _ (k + 1) 2 cv 2 (vanishL (pts.take k)) [pts[k], 1] (w5.alloc (.cells (bs [pts[k], 1]).toArray 34)) hvl rfl ((hrv2.ext hx45).alloc _) hrl (by omega)).mono ?_
        rintro e w6 ⟨v6, rfl, ho6, hx6⟩
        have hx6' : Ext w5 w6 := ((Ext.refl w5).alloc _).trans hx6
        go_wp2
        go_roundw
        case rel =>
          refine ⟨k + 1, _, _, plusL t (scaleL (vanishL (pts.take k)) c), rfl, rfl, by omega, by go_num, ⟨HE.out, HS.out⟩, hx3.trans (hx45.trans hx6'), ?_, ?_⟩
          · exact (ho5.mono (hx3.trans hx4).le).ext hx6'
          · rw [HV.out]; exact ho6.mono ((hx3.trans hx45).alloc _).le
        case measure => simp [intOf]; omega
    · obtain rfl : k = n := by omega
      have HK := Lib.hid (show pts.Nodup ∧ ThOK pts vals t by
        have := hok.out
        rwa [List.take_of_length_le (by rw [HN.out]; exact Nat.le_refl _), List.take_of_length_le (by rw [HM.out]; exact Nat.le_refl _)] at this)
      go_wp2
      go_ret2
      exact ⟨_, t, 0, rfl, .inr (.inr ⟨by rw [HN.out, HM.out], HK.out.1, HK.out.2, rfl⟩), hop, hx⟩
theorem polyThrough_all (A C : Option Addr) (n m ca cb : Nat) (pts vals : List E) (w : World) (hn : pts.length = n) (hm : vals.length = m) (hr : Rd w A (bs pts)) (hs : Rd w C (bs vals)) (hlen : n ≤ 140737488355000) :
    Calls Try.prog 50 #[.slice A n ca, .slice C m cb] w fun e w' => ∃ v t k, e = .returned (.tuple #[v, .int .i64 k]) ∧ ThAny pts vals t k ∧ Own w' w.heap.size 34 v (bs t) ∧ Ext w w' := by
  by_cases h : n = m
  · subst h
    exact polyThrough_n A C n ca cb pts vals w hn hm hr hs hlen
  · refine (polyThrough_odd A C n m ca cb w h).mono ?_
    rintro e w' ⟨rfl, rfl⟩
    exact ⟨_, [], 2, rfl, .inl ⟨by rw [hn, hm]; exact h, rfl, rfl⟩, Own.nil _ _ _, Ext.refl _⟩
end Go.Proofs.Ytemnlcfabaocbaa
/-
  The walks of the document's answer for chapter 2: the product over points, the polynomial through points.
-/
namespace Go.Proofs.Ytemnlcfabaocbaa
open Go.RowKit Gf
set_option maxRecDepth 20000
set_option linter.unusedVariables false

theorem nodup_inj {l : List E} (h : l.Nodup) {i j : Nat} (hi : i < l.length) (hj : j < l.length) (e : l[i] = l[j]) : i = j := by
  rcases Nat.lt_trichotomy i j with h1 | h1 | h1
  · exact absurd e (List.pairwise_iff_getElem.1 h i j hi hj h1)
  · exact h1
  · exact absurd e.symm (List.pairwise_iff_getElem.1 h j i hj hi h1)
set_option maxHeartbeats 1000000 in
theorem refVanish_n (A : Option Addr) (n cap : Nat) (pts : List E) (w : World) (hn : pts.length = n) (hr : Rd w A (bs pts)) (hlen : n ≤ 140737488355000) :
    Calls Try.prog 47 #[.slice A n cap] w fun e w' => ∃ v, e = .returned v ∧ Own w' w.heap.size 5 v (bs (vanishL pts)) ∧ Ext w w' := by
  have HN := Lib.hid hn
  clear hn
  have h0 := Lib.hid (own_lit w 5 [1] (by simp))
  go_enter Try.func47, Try.ntmps47
  go_wp2_with fail
  go_loopw [3, 4] (fun v i wr => ∃ (k : Nat) (V : Value), V = v ∧ k ≤ n ∧ i = .int .i64 k ∧ Ext w wr ∧ Own wr w.heap.size 5 V (bs (vanishL (pts.take k)))) (fun _ i _ => n - (intOf i).toNat)
  case atStart => exact ⟨0, _, rfl, by omega, rfl, (Ext.refl _).alloc _, h0.out⟩
  case round =>
    obtain ⟨k, V, rfl, hk, rfl, hx, ho⟩ := hrel
    by_cases hlt : k < n
    · have hkt : k < pts.length := by rw [HN.out]; exact hlt
      obtain ⟨ad, rfl, hc⟩ := (hr.ext hx).byte hkt
      have hal := (pts[k]).lt
      obtain ⟨Ao, co, rfl, -, hro, -, -⟩ := ho.bytes
      have HS := Lib.hid (vanishL_take pts k hkt)
      have hvl : (vanishL (pts.take k)).length = k + 1 := by rw [vanish_length, List.length_take]; omega
      have hrl := rd_lit wr 5 [pts[k], 1] (by simp)
      rw [hvl]
      go_wp2_with fail
      refine (refTimes_n Ao _ _ 2 co 2 (vanishL (pts.take k)) [pts[k], 1] (wr.alloc (.cells (bs [pts[k], 1]).toArray 5)) hvl rfl (hro.alloc _) hrl (by omega)).mono ?_
      rintro e w2 ⟨v, rfl, ho2, hx2⟩
      have hx2' : Ext wr w2 := ((Ext.refl wr).alloc _).trans hx2
      go_wp2
      go_roundw
      case rel => exact ⟨k + 1, _, rfl, by omega, by go_num, hx.trans hx2', by rw [HS.out]; exact ho2.mono (hx.alloc _).le⟩
      case measure => simp [intOf]; omega
    · obtain rfl : k = n := by omega
      have hta : pts.take k = pts := List.take_of_length_le (by rw [HN.out]; exact Nat.le_refl _)
      rw [hta] at ho
      go_wp2
      go_ret
      exact ⟨_, rfl, ho, hx⟩
set_option maxHeartbeats 1000000 in
theorem refTwice_n (A : Option Addr) (n cap : Nat) (pts : List E) (w : World) (hn : pts.length = n) (hr : Rd w A (bs pts)) (hlen : n ≤ 140737488355000) :
    Calls Try.prog 95 #[.slice A n cap] w fun e w' => ∃ b, e = .returned (.bool b) ∧ (b = true ↔ ¬ pts.Nodup) ∧ Ext w w' := by
  have HN := Lib.hid hn
  clear hn
  go_enter Try.func95, Try.ntmps95
  go_wp2_with fail
  go_loopw [3] (fun i wr => ∃ k : Nat, k ≤ n ∧ i = .int .i64 k ∧ Hid (pts.take k).Nodup ∧ Ext w wr) (fun i _ => n - (intOf i).toNat)
  case atStart => exact ⟨0, by omega, rfl, by simp [Hid], Ext.refl _⟩
  case round =>
    obtain ⟨i, hi, rfl, hnd, hx⟩ := hrel
    by_cases hlt : i < n
    · have hip : i < pts.length := by rw [HN.out]; exact hlt
      go_wp2_with fail
      go_loopw [4] (fun kk wr => ∃ k : Nat, k ≤ i ∧ kk = .int .i64 k ∧ Hid (pts[i] ∉ pts.take k) ∧ Ext w wr) (fun kk _ => i - (intOf kk).toNat)
      case atStart => exact ⟨0, by omega, rfl, by simp [Hid], hx⟩
      case round =>
        obtain ⟨k, hk, rfl, hnk, hx2⟩ := hrel
        by_cases hlt2 : k < i
        · have hkp : k < pts.length := by omega
          have hkn : k < n := by omega
          obtain ⟨ad, rfl, hc1⟩ := (hr.ext hx2).byte hip
          obtain ⟨ad', e', hc2⟩ := (hr.ext hx2).byte hkp
          injection e' with e'
          subst e'
          have hl1 := (pts[i]).lt
          have hl2 := (pts[k]).lt
          by_cases heq : pts[k] = pts[i]
          · have hq : (((pts[k]).val : Int) == ((pts[i]).val : Int)) = true := (eqE _ _).trans (decide_eq_true heq)
            have HB := Lib.hid (show ¬ pts.Nodup by
              intro h
              have := nodup_inj h hkp hip heq
              omega)
            clear heq
            go_wp2_with fail
            go_quiet (fail)
            go_wp2
            go_ret
            exact ⟨true, rfl, ⟨fun _ => HB.out, fun _ => rfl⟩, hx2.drewN _⟩
          · have hq : (((pts[k]).val : Int) == ((pts[i]).val : Int)) = false := (eqE _ _).trans (decide_eq_false heq)
            have HB := Lib.hid (show pts[i] ∉ pts.take (k + 1) by
              rw [List.take_succ_eq_append_getElem hkp, List.mem_append, List.mem_singleton]
              rintro (h | h)
              · exact hnk.out h
              · exact heq h.symm)
            clear heq
            go_wp2_with fail
            go_quiet (fail)
            go_wp2
            go_roundw
            case rel => exact ⟨k + 1, by omega, by go_num, HB, hx2.drewN _⟩
            case measure => simp [intOf]; omega
        · obtain rfl : k = i := by omega
          have HB := Lib.hid ((nodup_take hip hnd.out).2 hnk.out)
          go_wp2
          go_roundw
          case rel => exact ⟨k + 1, by omega, by go_num, HB, hx2⟩
          case measure => simp [intOf]; omega
    · obtain rfl : i = n := by omega
      have HB := Lib.hid (show pts.Nodup by have := hnd.out; rwa [List.take_of_length_le (by rw [HN.out]; exact Nat.le_refl _)] at this)
      go_wp2
      go_ret
      exact ⟨false, rfl, ⟨(fun h => by cases h), fun h => absurd HB.out h⟩, hx⟩

/-! the document's polynomial through points -/
theorem evL_two (a b x : E) : evL [a, b] x = a + x * b := by simp [evL_cons, evL_nil, E.mul_zero, E.add_zero]
theorem timesL_two_len {l : List E} {n : Nat} (a b : E) (h : l.length ≤ n + 1) : (timesL l [a, b]).length ≤ n + 2 := by
  have h1 : S.Dlt (ser (timesL l [a, b])) (n + 2) := by
    rw [ser_timesL]
    exact S.Dlt.mulN (m := n + 1) (n := 1) ((dlt_ser l).mono h) (by exact dlt_ser [a, b])
  have := dg_min h1
  have h2 := (trimmed_timesL l [a, b]).dg
  omega
/-- One at the point number i, none at the others of the first k. -/
structure OneOK (pts o : List E) (i k : Nat) (hi : i < pts.length) : Prop where
  len : o.length ≤ (if i < k then k else k + 1)
  one : evL o pts[i] = 1
  none : ∀ j (h : j < pts.length), j < k → j ≠ i → evL o pts[j] = 0
theorem one_start (pts : List E) (i : Nat) (hi : i < pts.length) : OneOK pts [1] i 0 hi :=
  ⟨by simp, by simp [evL_cons, evL_nil, E.mul_zero, E.add_zero], fun j _ h => absurd h (by omega)⟩
theorem one_skip {pts o : List E} {i : Nat} {hi : i < pts.length} (h : OneOK pts o i i hi) : OneOK pts o i (i + 1) hi :=
  ⟨by have := h.len; simp at this ⊢; exact this, h.one, fun j hj h1 h2 => h.none j hj (by omega) h2⟩
theorem one_step {pts o : List E} {i k : Nat} {hi : i < pts.length} (hk : k < pts.length) (hne : k ≠ i) (hx : pts[i] + pts[k] ≠ 0) (h : OneOK pts o i k hi) :
    OneOK pts (timesL o [pts[k] * E.inv (pts[i] + pts[k]), E.inv (pts[i] + pts[k])]) i (k + 1) hi := by
  have hev : ∀ x, evL [pts[k] * E.inv (pts[i] + pts[k]), E.inv (pts[i] + pts[k])] x = (pts[k] + x) * E.inv (pts[i] + pts[k]) := fun x => by rw [evL_two, E.add_mul]
  refine ⟨?_, ?_, ?_⟩
  · have hl := h.len
    by_cases h1 : i < k
    · rw [if_pos h1] at hl
      obtain ⟨m, rfl⟩ : ∃ m, k = m + 1 := ⟨k - 1, by omega⟩
      rw [if_pos (by omega)]
      exact timesL_two_len _ _ hl
    · rw [if_neg h1] at hl
      rw [if_neg (by omega)]
      exact timesL_two_len _ _ hl
  · rw [evL_times, h.one, E.one_mul, hev, E.add_comm, E.mul_inv hx]
  · intro j hj h1 h2
    rw [evL_times, hev]
    by_cases h3 : j = k
    · subst h3; rw [E.add_self, E.zero_mul, E.mul_zero]
    · rw [h.none j hj (by omega) h2, E.zero_mul]
structure SumOK (pts vals t : List E) (i : Nat) : Prop where
  tt : Trimmed t
  len : t.length ≤ pts.length
  at_ : ∀ j (h : j < pts.length) (h' : j < vals.length), evL t pts[j] = if j < i then vals[j] else 0
theorem sum_start (pts vals : List E) : SumOK pts vals [] 0 := ⟨trimmed_nil, Nat.zero_le _, fun j _ _ => by rw [if_neg (by omega), evL_nil]⟩
theorem sum_step {pts vals t o : List E} {i : Nat} {hi : i < pts.length} (hv : i < vals.length) (h : SumOK pts vals t i) (ho : OneOK pts o i pts.length hi) : SumOK pts vals (plusL t (scaleL o vals[i])) (i + 1) := by
  have hl := ho.len
  rw [if_pos hi] at hl
  refine ⟨trimmed_plusL _ _, ?_, ?_⟩
  · have hD : S.Dlt (ser (plusL t (scaleL o vals[i]))) pts.length := by
      rw [ser_plusL, ser_scaleL]
      exact ((dlt_ser t).mono h.len).add (S.Dlt.smul ((dlt_ser o).mono hl) _)
    have := dg_min hD
    have h2 := (trimmed_plusL t (scaleL o vals[i])).dg
    omega
  · intro j hj hj'
    rw [evL_plus, evL_scale, h.at_ j hj hj']
    by_cases h1 : j = i
    · subst h1; rw [ho.one, E.mul_one, if_neg (by omega), if_pos (by omega), E.zero_add]
    · rw [ho.none j hj hj h1, E.mul_zero, E.add_zero]
      by_cases h2 : j < i
      · rw [if_pos h2, if_pos (by omega)]
      · rw [if_neg h2, if_neg (by omega)]
theorem sum_ok {pts vals t : List E} (h : SumOK pts vals t pts.length) : ThOK pts vals t := ⟨h.tt, h.len, fun i hi hi' => by rw [h.at_ i hi hi', if_pos hi]⟩
theorem refThrough_odd (A C : Option Addr) (n m ca cb : Nat) (w : World) (he : n ≠ m) :
    Calls Try.prog 48 #[.slice A n ca, .slice C m cb] w fun e w' => e = .returned (.tuple #[.slice none 0 0, .int .i64 2]) ∧ w = w' := by
  have h1 : ((n : Int) != (m : Int)) = true := by rw [bne_iff_ne]; omega
  go_enter Try.func48, Try.ntmps48
  go_wp2
  go_ret2
  exact ⟨rfl, rfl⟩
set_option maxHeartbeats 4000000 in
theorem refThrough_n (A C : Option Addr) (n ca cb : Nat) (pts vals : List E) (w : World) (hn : pts.length = n) (hm : vals.length = n) (hr : Rd w A (bs pts)) (hs : Rd w C (bs vals)) (hlen : n ≤ 140737488355000) :
    Calls Try.prog 48 #[.slice A n ca, .slice C n cb] w fun e w' => ∃ v t k, e = .returned (.tuple #[v, .int .i64 k]) ∧ ThAny pts vals t k ∧ Own w' w.heap.size 5 v (bs t) ∧ Ext w w' := by
  have HN := Lib.hid hn
  have HM := Lib.hid hm
  clear hn hm
  go_enter Try.func48, Try.ntmps48
  go_wp2_with fail
  refine (refTwice_n A n ca pts _ HN.out hr hlen).mono ?_
  rintro e w1 ⟨b, rfl, hb, hx1⟩
  cases b with
  | true =>
    have HB := Lib.hid (hb.1 rfl)
    clear hb
    go_wp2
    go_ret2
    exact ⟨_, [], 20, rfl, .inr (.inl ⟨by rw [HN.out, HM.out], HB.out, rfl, rfl⟩), Own.nil _ _ _, hx1⟩
  | false =>
    have HB := Lib.hid (show pts.Nodup by
      by_cases h : pts.Nodup
      · exact h
      · exact absurd (hb.2 h) (by simp))
    clear hb
    go_wp2
    go_loopw [7, 8] (fun s i wr => ∃ (k : Nat) (Vs : Value) (t : List E), Vs = s ∧ k ≤ n ∧ i = .int .i64 k ∧ Hid (SumOK pts vals t k) ∧ Ext w wr ∧ Own wr w.heap.size 5 Vs (bs t)) (fun _ i _ => n - (intOf i).toNat)
    case atStart => exact ⟨0, _, [], rfl, by omega, rfl, sum_start _ _, hx1, Own.nil _ _ _⟩
    case round =>
      obtain ⟨i, Vs, t, rfl, hi, rfl, hok, hx, hos⟩ := hrel
      clear hx1
      by_cases hlt : i < n
      · have hip : i < pts.length := by rw [HN.out]; exact hlt
        have h0 := Lib.hid ((own_lit wr 5 [1] (by simp)).mono hx.le)
        have HOS := Lib.hid hos
        obtain ⟨wo, hwo⟩ : ∃ wo : World, wo = wr := ⟨_, rfl⟩
        clear hos
        go_wp2
        rw [← hwo] at HOS h0 hx ⊢
        clear hwo
        go_loopw [9, 10] (fun o kk wr => ∃ (k : Nat) (Vo : Value) (l : List E), Vo = o ∧ k ≤ n ∧ kk = .int .i64 k ∧ Hid (OneOK pts l i k hip) ∧ Ext wo wr ∧ Own wr w.heap.size 5 Vo (bs l)) (fun _ kk _ => n - (intOf kk).toNat)
        case atStart => exact ⟨0, _, [1], rfl, by omega, rfl, one_start _ _ _, (Ext.refl _).alloc _, h0.out⟩
        case round =>
          obtain ⟨k, Vo, l, rfl, hk, rfl, hol, hx2, hoo⟩ := hrel
          clear h0
          by_cases hlt2 : k < n
          · have hkp : k < pts.length := by rw [HN.out]; exact hlt2
            by_cases hki : k = i
            · subst hki
              have HO := Lib.hid (one_skip hol.out)
              have hkk : ((k : Int) != (k : Int)) = false := by simp
              go_wp2
              go_roundw
              case rel => exact ⟨k + 1, _, l, rfl, by omega, by go_num, HO, hx2, hoo⟩
              case measure => simp [intOf]; omega
            · have hkk : ((k : Int) != (i : Int)) = true := by rw [bne_iff_ne]; omega
              have hne : pts[i] + pts[k] ≠ 0 := fun h => by
                have h1 := E.add_eq_zero.1 h
                have := nodup_inj HB.out hip hkp h1
                omega
              have HO := Lib.hid (one_step hkp hki hne hol.out)
              have hxw := hx.trans hx2
              obtain ⟨ad, rfl, hc1⟩ := (hr.ext hxw).byte hip
              obtain ⟨ad', e', hc2⟩ := (hr.ext hxw).byte hkp
              injection e' with e'
              subst e'
              have hl1 := (pts[i]).lt
              have hl2 := (pts[k]).lt
              have hxo := bits_u8_xor pts[i] pts[k]
              have HI := Lib.hid (fun w => refInv_any _ hne w)
              obtain ⟨Ao, co, rfl, -, hro, -, -⟩ := hoo.bytes
              have hll : l.length ≤ k + 1 := by have := hol.out.len; split at this <;> omega
              have HOO := Lib.hid hoo
              have HXX := Lib.hid (And.intro hx2 hxw)
              have HRR := Lib.hid hro
              clear hoo hx2 hxw hro hki hne
              go_wp2_with fail
              go_quiet ((go_at_call 92; with_reducible exact quiet_left (HI.out _)))
              obtain ⟨c, hc⟩ : ∃ c, c = E.inv (pts[i] + pts[k]) := ⟨_, rfl⟩
              rw [← hc] at HO ⊢
              clear HI hc hxo
              have hcl := c.lt
              obtain ⟨W2, hW2⟩ : ∃ W2, W2 = wr.drewN nq := ⟨_, rfl⟩
              have hro2 : Rd W2 Ao (bs l) := by rw [hW2]; exact HRR.out.drewN nq
              have hx22 : Ext wo W2 := by rw [hW2]; exact HXX.out.1.drewN nq
              have hcc : W2.cell? (ad.add k) = some (.int .u8 ((pts[k]).val : Int)) := by rw [hW2]; exact hc2
              rw [← hW2]
              clear hW2 hc1 hc2
              have hml := (pts[k] * c).lt
              have hrl := rd_lit W2 5 [pts[k] * c, c] (by simp)
              go_wp2_with (go_at_call 86; with_reducible refine (refMul_any _ _ _).mono ?_; rintro e w' ⟨rfl, rfl⟩)
              refine (refTimes_n Ao _ _ 2 co 2 l [pts[k] * c, c] (W2.alloc (.cells (bs [pts[k] * c, c]).toArray 5)) rfl rfl (hro2.alloc _) hrl (by omega)).mono ?_
              rintro e w3 ⟨v3, rfl, ho3, hx3⟩
              have hx3' : Ext W2 w3 := ((Ext.refl W2).alloc _).trans hx3
              go_wp2
              go_roundw
              case rel => exact ⟨k + 1, _, _, rfl, by omega, by go_num, HO, hx22.trans hx3', ho3.mono ((hx.trans hx22).alloc _).le⟩
              case measure => simp [intOf]; omega
          · obtain rfl : k = n := by omega
            have hiv : i < vals.length := by rw [HM.out]; exact hlt
            have HS := Lib.hid (sum_step (o := l) hiv hok.out (by rw [HN.out]; exact hol.out))
            have hxw := hx.trans hx2
            obtain ⟨bd, rfl, hcv⟩ := (hs.ext hxw).byte hiv
            have hvv := (vals[i]).lt
            obtain ⟨Ao, co, rfl, -, hro, -, -⟩ := hoo.bytes
            have hos2 := HOS.out.ext hx2
            obtain ⟨As, cs, rfl, -, hrs, -, -⟩ := hos2.bytes
            have hll : l.length ≤ k := by have := hol.out.len; rw [if_pos hlt] at this; exact this
            have htl : t.length ≤ k := by have := hok.out.len; rw [HN.out] at this; exact this
            clear hoo hos2
            go_wp2_with fail
            refine (refScale_n Ao _ l co vals[i] _ rfl hro (by omega)).mono ?_
            rintro e w4 ⟨v4, rfl, ho4, hx4⟩
            obtain ⟨A4, c4, rfl, -, hr4, -, -⟩ := ho4.bytes
            have hl4 : (scaleL l vals[i]).length ≤ k := by rw [scaleL, trim_length]; exact Nat.le_trans (dg_le _) (by rw [ofS_length]; exact hll)
            go_wp2_with fail
            refine (refPlus_n As A4 _ _ t (scaleL l vals[i]) cs c4 _ rfl rfl (hrs.ext hx4) hr4 (by omega) (by omega)).mono ?_
            rintro e w5 ⟨v5, rfl, ho5, hx5⟩
            go_wp2
            go_roundw
            case rel => exact ⟨i + 1, _, _, rfl, by omega, by go_num, HS, hxw.trans (hx4.trans hx5), ho5.mono (hxw.trans hx4).le⟩
            case measure => simp [intOf]; omega
      · obtain rfl : i = n := by omega
        have HK := Lib.hid (show ThOK pts vals t by have := hok.out; rw [← HN.out] at this; exact sum_ok this)
        go_wp2
        go_ret2
        exact ⟨_, t, 0, rfl, .inr (.inr ⟨by rw [HN.out, HM.out], HB.out, HK.out, rfl⟩), hos, hx⟩
theorem refThrough_all (A C : Option Addr) (n m ca cb : Nat) (pts vals : List E) (w : World) (hn : pts.length = n) (hm : vals.length = m) (hr : Rd w A (bs pts)) (hs : Rd w C (bs vals)) (hlen : n ≤ 140737488355000) :
    Calls Try.prog 48 #[.slice A n ca, .slice C m cb] w fun e w' => ∃ v t k, e = .returned (.tuple #[v, .int .i64 k]) ∧ ThAny pts vals t k ∧ Own w' w.heap.size 5 v (bs t) ∧ Ext w w' := by
  by_cases h : n = m
  · subst h
    exact refThrough_n A C n ca cb pts vals w hn hm hr hs hlen
  · refine (refThrough_odd A C n m ca cb w h).mono ?_
    rintro e w' ⟨rfl, rfl⟩
    exact ⟨_, [], 2, rfl, .inl ⟨by rw [hn, hm]; exact h, rfl, rfl⟩, Own.nil _ _ _, Ext.refl _⟩
end Go.Proofs.Ytemnlcfabaocbaa
/-
  The walks of the outright laws' helpers of chapter 2: elems, equal, trimmed, num, awake.
-/
namespace Go.Proofs.Ytemnlcfabaocbaa
open Go.RowKit Gf
set_option maxRecDepth 20000
set_option linter.unusedVariables false

theorem num2_any (k : Int) (hk : (Lit.int .i64 k).wf = true) (w : World) : Calls Try.prog 46 #[.int .i64 k] w fun e w' => e = .returned (.int .i64 k) ∧ w = w' := by
  go_enter Try.func46, Try.ntmps46
  go_wp2
  go_ret
  exact ⟨rfl, rfl⟩
set_option maxHeartbeats 1000000 in
theorem elems_n (A : Option Addr) (n : Nat) (xs : List E) (cap : Nat) (w : World) (hn : xs.length = n) (hr : Rd w A (bs xs)) (hlen : n ≤ 140737488355228) :
    Calls Try.prog 54 #[.slice A n cap] w fun e w' => ∃ v, e = .returned v ∧ Own w' w.heap.size 34 v (bs xs) ∧ Ext w w' := by
  have HN := Lib.hid hn
  clear hn
  go_enter Try.func54, Try.ntmps54
  go_wp2_with fail
  go_loopw [3, 4] (fun v i wr => ∃ (k : Nat) (V : Value), V = v ∧ k ≤ n ∧ i = .int .i64 k ∧ Ext w wr ∧ Own wr w.heap.size 34 V (bs (xs.take k))) (fun _ i _ => n - (intOf i).toNat)
  case atStart => exact ⟨0, _, rfl, by omega, rfl, Ext.refl _, Own.nil _ _ _⟩
  case round =>
    obtain ⟨k, V, rfl, hk, rfl, hx, ho⟩ := hrel
    by_cases hlt : k < n
    · have hkt : k < xs.length := by rw [HN.out]; exact hlt
      obtain ⟨ad, rfl, hck⟩ := (hr.ext hx).byte hkt
      have hle := hx.le
      have hbd : ((bs (xs.take k)).length + 1) * 1 ≤ 140737488355328 := by have := bs_len_le xs k; have := HN.out; omega
      have hsn := bs_snoc xs k hkt
      have hkl := (xs[k]).lt
      go_wp2_with (at_builtin; refine wpList_push wr eltEl rfl _ _ (by rfl) w.heap.size V _ (by rfl) (by exact ho) (.int .u8 (xs[k]).val) (by rfl) rfl hbd hle ?_; intro v' w' ho' _ hb' _)
      go_roundw
      case rel => exact ⟨k + 1, _, rfl, by omega, by go_num, Below.trans hx hb', by rw [hsn]; exact ho'⟩
      case measure => simp [intOf]; omega
    · obtain rfl : k = n := by omega
      have hta : xs.take k = xs := List.take_of_length_le (by rw [HN.out]; exact Nat.le_refl _)
      rw [hta] at ho
      go_wp2
      go_ret
      exact ⟨_, rfl, ho, hx⟩
theorem equal_n (A B : Option Addr) (n m : Nat) (xs : List E) (ca cb : Nat) (w : World) (hn : xs.length = n) (hm : xs.length = m) (hr : Rd w A (bs xs)) (hs : Rd w B (bs xs)) (hlen : n ≤ 9000000000000000000) :
    Calls Try.prog 55 #[.slice A n ca, .slice B m cb] w fun e w' => e = .returned (.bool true) ∧ Ext w w' := by
  subst hn
  subst hm
  go_enter Try.func55, Try.ntmps55
  go_wp2_with fail
  go_loopw [5] (fun i wr => ∃ k : Nat, k ≤ xs.length ∧ i = .int .i64 k ∧ Ext w wr) (fun i _ => xs.length - (intOf i).toNat)
  case atStart => exact ⟨0, by omega, rfl, Ext.refl _⟩
  case round =>
    obtain ⟨k, hk, rfl, hbel⟩ := hrel
    by_cases hlt : k < xs.length
    · obtain ⟨ad, rfl, hc1⟩ := (hr.ext hbel).byte hlt
      obtain ⟨bd, rfl, hc2⟩ := (hs.ext hbel).byte hlt
      have hl0 : (0 : Int) ≤ (k : Int) := by omega
      have hl1 : (k : Int) < (xs.length : Int) := by omega
      have hv := (xs[k]).lt
      go_wp2_with fail
      go_quiet (fail)
      go_wp2
      go_roundw
      case rel => exact ⟨k + 1, by omega, by go_num, hbel.drewN _⟩
      case measure => simp [intOf]; omega
    · obtain rfl : k = xs.length := by omega
      go_wp2
      go_ret
      exact ⟨rfl, hbel⟩
theorem trimmed_n (A : Option Addr) (n : Nat) (xs : List E) (cap : Nat) (w : World) (hn : xs.length = n) (hr : Rd w A (bs xs)) (hlen : n ≤ 9000000000000000000) (ht : Trimmed xs) :
    Calls Try.prog 56 #[.slice A n cap] w fun e w' => e = .returned (.bool true) ∧ w = w' := by
  rcases Nat.eq_zero_or_pos n with h0 | h0
  · subst h0
    go_enter Try.func56, Try.ntmps56
    go_wp2
    go_ret
    exact ⟨rfl, rfl⟩
  · obtain ⟨k, rfl⟩ : ∃ k, n = k + 1 := ⟨n - 1, by omega⟩
    have hk : k < xs.length := by omega
    obtain ⟨ad, rfl, hc⟩ := hr.byte hk
    have hne : ((((xs[k]).val : Nat) : Int) != 0) = true := by
      have := ht.last (by omega)
      rw [hn, Nat.add_sub_cancel, ser_at xs k hk] at this
      have h3 : (((xs[k]).val : Int) == 0) = false := (eqE _ 0).trans (decide_eq_false this)
      simp [bne, h3]
    have h1 : ((((k + 1 : Nat)) : Int) == 0) = false := by rw [beq_eq_false_iff_ne]; omega
    have h1' : (((k : Int) + 1) == 0) = false := by rw [beq_eq_false_iff_ne]; omega
    have hv := (xs[k]).lt
    have hw1 : wrap64 (((k + 1 : Nat) : Int) - 1) = (k : Int) := by rw [IntWalk.wrap64_in _ (by omega)]; omega
    have hkk : k < k + 1 := by omega
    clear hn ht h0
    go_enter Try.func56, Try.ntmps56
    go_wp2
    go_ret
    exact ⟨rfl, rfl⟩

theorem timesL_le (p q : List E) : (timesL p q).length ≤ p.length + q.length := by
  rw [timesL, trim_length]; exact Nat.le_trans (dg_le _) (by rw [ofS_length]; exact Nat.le_refl _)
theorem scaleL_le (p : List E) (c : E) : (scaleL p c).length ≤ p.length := by
  rw [scaleL, trim_length]; exact Nat.le_trans (dg_le _) (by rw [ofS_length]; exact Nat.le_refl _)
theorem trim_le (p : List E) : (trim p).length ≤ p.length := by rw [trim_length]; exact dg_le p
theorem plusL_comm (p q : List E) : plusL q p = plusL p q := (trimmed_plusL _ _).eq (trimmed_plusL _ _) (by rw [ser_plusL, ser_plusL, S.add_comm])
theorem timesL_comm (p q : List E) : timesL q p = timesL p q := (trimmed_timesL _ _).eq (trimmed_timesL _ _) (by rw [ser_timesL, ser_timesL, S.mul_comm])
theorem plusL_assoc (p q r : List E) : plusL p (plusL q r) = plusL (plusL p q) r := (trimmed_plusL _ _).eq (trimmed_plusL _ _) (by simp only [ser_plusL, S.add_assoc])
theorem timesL_assoc (p q r : List E) : timesL p (timesL q r) = timesL (timesL p q) r := (trimmed_timesL _ _).eq (trimmed_timesL _ _) (by simp only [ser_timesL, S.mul_assoc])
theorem timesL_plus (p q r : List E) : plusL (timesL p q) (timesL p r) = timesL p (plusL q r) := (trimmed_plusL _ _).eq (trimmed_timesL _ _) (by simp only [ser_plusL, ser_timesL, S.mul_add])
theorem plusL_self (p : List E) : plusL p p = [] := (trimmed_plusL _ _).zero (by rw [ser_plusL, S.add_self])
theorem dg_times {p q : List E} {d e : Nat} (hp : dg p = d + 1) (hq : dg q = e + 1) : dg (timesL p q) = d + e + 1 := by
  have h1 : S.Dlt (ser p) (d + 1) := hp ▸ dg_dlt p
  have h2 : S.Dlt (ser q) (e + 1) := hq ▸ dg_dlt q
  have h3 : ser p d ≠ 0 := by have := dg_last p (by omega); rwa [hp] at this
  have h4 : ser q e ≠ 0 := by have := dg_last q (by omega); rwa [hq] at this
  refine dg_eq (by rw [ser_timesL]; exact (S.Dlt.mulN h1 h2).mono (by omega)) (fun _ => ?_)
  rw [ser_timesL, Nat.add_sub_cancel, S.lead_mul h1 h2]
  intro h
  rcases E.mul_eq_zero.1 h with h | h
  · exact h3 h
  · exact h4 h
theorem dg_times_zero {p q : List E} (h : dg p = 0 ∨ dg q = 0) : dg (timesL p q) = 0 := by
  rw [dg_eq_zero, ser_timesL]
  rcases h with h | h
  · rw [dg_eq_zero.1 h, S.zero_mul]
  · rw [dg_eq_zero.1 h, S.mul_zero]
/-! awake -/
def e2 : E := E.of 2
def e3 : E := E.of 3
def e6 : E := E.of 6
theorem aw_times : timesL [e2, 1] [e3, 1] = [e6, 1, 1] := by decide +kernel
theorem aw_trim : Trimmed [e2, 1] := by unfold Trimmed; decide +kernel
theorem aw_trim3 : Trimmed [e6, 1, 1] := by unfold Trimmed; decide +kernel
theorem aw_dg : dg [e3, 1] = 2 := by decide +kernel
theorem aw_div {s r : List E} {k : Int} (h : DivAny [e6, 1, 1] [e3, 1] s r k) : s = [e2, 1] ∧ r = [] ∧ k = 0 := by
  rcases h with ⟨h0, _⟩ | ⟨_, h, rfl⟩
  · rw [aw_dg] at h0; omega
  · have hok : DivOK [e6, 1, 1] [e3, 1] [e2, 1] [] := ⟨aw_trim, trimmed_nil, by rw [ser_nil, S.zero_add, ← aw_times, ser_timesL], by rw [aw_dg]; decide⟩
    exact ⟨(DivOK.uniq h hok).1, (DivOK.uniq h hok).2, rfl⟩
theorem aw_thr {t : List E} {k : Int} (h : ThAny [0, 1, e2] [e6, e6, 0] t k) : t = [e6, 1, 1] ∧ k = 0 := by
  have hn : [0, 1, e2].Nodup := by decide +kernel
  have hok : ThOK [0, 1, e2] [e6, e6, 0] [e6, 1, 1] := ⟨aw_trim3, Nat.le_refl _, fun i hi hi' => by
    match i, hi with
    | 0, _ => exact (by decide +kernel : evL [e6, 1, 1] 0 = e6)
    | 1, _ => exact (by decide +kernel : evL [e6, 1, 1] 1 = e6)
    | 2, _ => exact (by decide +kernel : evL [e6, 1, 1] e2 = 0)⟩
  exact ThAny.uniq h (.inr (.inr ⟨rfl, hn, hok, rfl⟩))
theorem aw_roots : rootsL [e6, 1, 1] = [e2, e3] := by decide +kernel
theorem Own.bytesN {w : World} {B n : Nat} {T : TypeId} {v : Value} {xs : List E} (h : Own w B T v (bs xs)) (hn : xs.length = n) : ∃ A cap, v = .slice A n cap ∧ Rd w A (bs xs) ∧ n ≤ cap ∧ cap ≤ maxLen := by
  obtain ⟨A, cap, hv, -, hr, h1, h2⟩ := h.bytes
  subst hn
  exact ⟨A, cap, hv, hr, h1, h2⟩
set_option maxHeartbeats 4000000 in
theorem awake_any (w : World) : Calls Try.prog 53 #[] w fun e w' => e = .returned (.bool true) ∧ Ext w w' := by
  have r2 : Rd ((w.alloc (.cells #[.int .u8 2, .int .u8 1] 34)).alloc (.cells #[.int .u8 3, .int .u8 1] 34)) (some ⟨w.heap.size, 0, none⟩) (bs [e2, 1]) := (rd_lit w 34 [e2, 1] (by simp)).alloc _
  have r3 : Rd ((w.alloc (.cells #[.int .u8 2, .int .u8 1] 34)).alloc (.cells #[.int .u8 3, .int .u8 1] 34)) (some ⟨w.heap.size + 1, 0, none⟩) (bs [e3, 1]) := by
    have := rd_lit (w.alloc (.cells #[.int .u8 2, .int .u8 1] 34)) 34 [e3, 1] (by simp)
    rw [World.size_alloc] at this
    exact this
  have x2 : Ext w ((w.alloc (.cells #[.int .u8 2, .int .u8 1] 34)).alloc (.cells #[.int .u8 3, .int .u8 1] 34)) := ((Ext.refl w).alloc _).alloc _
  go_enter Try.func53, Try.ntmps53
  go_wp2_with fail
  with_reducible refine (polyTimes_n _ _ 2 2 2 2 [e2, 1] [e3, 1] _ rfl rfl r2 r3 (by omega)).mono ?_
  rintro e w3 ⟨v, rfl, ho, hx3⟩
  rw [aw_times] at ho
  obtain ⟨Am, cm, rfl, hrm, hcm, hmm⟩ := ho.bytesN (n := 3) rfl
  have y3 := x2.trans hx3
  replace r2 := r2.ext hx3
  replace r3 := r3.ext hx3
  simp only [maxLen] at hmm
  clear ho
  go_wp2_with fail
  refine (polyDivide_all _ _ 3 2 cm 2 [e6, 1, 1] [e3, 1] _ rfl rfl hrm r3 (by omega) (by omega) (by omega) (by omega)).mono ?_
  rintro e w4 ⟨vs, vr, s, r, k, rfl, hd, hos, hor, -, hx4⟩
  obtain ⟨rfl, rfl, rfl⟩ := aw_div hd
  clear hd
  obtain ⟨As, cs, rfl, hrs, -, -⟩ := hos.bytesN (n := 2) rfl
  obtain ⟨Ar, cr, rfl, -, -, -⟩ := hor.bytesN (n := 0) rfl
  have y4 := y3.trans hx4
  clear hos hor
  have r0 : Rd ((w4.alloc (.cells #[.int .u8 0, .int .u8 1, .int .u8 2] 34)).alloc (.cells #[.int .u8 6, .int .u8 6, .int .u8 0] 34)) (some ⟨w4.heap.size, 0, none⟩) (bs [0, 1, e2]) := (rd_lit w4 34 [0, 1, e2] (by simp)).alloc _
  have r6 : Rd ((w4.alloc (.cells #[.int .u8 0, .int .u8 1, .int .u8 2] 34)).alloc (.cells #[.int .u8 6, .int .u8 6, .int .u8 0] 34)) (some ⟨w4.heap.size + 1, 0, none⟩) (bs [e6, e6, 0]) := by
    have := rd_lit (w4.alloc (.cells #[.int .u8 0, .int .u8 1, .int .u8 2] 34)) 34 [e6, e6, 0] (by simp)
    rw [World.size_alloc] at this
    exact this
  have x4 : Ext w4 ((w4.alloc (.cells #[.int .u8 0, .int .u8 1, .int .u8 2] 34)).alloc (.cells #[.int .u8 6, .int .u8 6, .int .u8 0] 34)) := ((Ext.refl w4).alloc _).alloc _
  go_wp2_with fail
  with_reducible refine (polyThrough_all _ _ 3 3 3 3 [0, 1, e2] [e6, e6, 0] _ rfl rfl r0 r6 (by omega)).mono ?_
  rintro e w5 ⟨v, t, k, rfl, ht, ho, hx5⟩
  obtain ⟨rfl, rfl⟩ := aw_thr ht
  clear ht
  obtain ⟨At, ct, rfl, hrt, -, -⟩ := ho.bytesN (n := 3) rfl
  have z5 := x4.trans hx5
  have y5 := y4.trans z5
  have hm5 := hrm.ext (hx4.trans z5)
  have hs5 := hrs.ext z5
  have h25 := r2.ext (hx4.trans z5)
  clear ho x4 hx5 r0 r6 r2 r3 hrm hrs hx3 hx4 x2 y3 y4 z5
  go_wp2_with fail
  refine (polyRoots_n Am 3 [e6, 1, 1] cm _ rfl hm5 (by omega)).mono ?_
  rintro e w6 ⟨v, rfl, ho, hx6⟩
  rw [aw_roots] at ho
  obtain ⟨Al, cl, rfl, hrl, -, -⟩ := ho.bytesN (n := 2) rfl
  have y6 := y5.trans hx6
  clear ho
  have q6 : Rd (w6.alloc (.cells #[.int .u8 6, .int .u8 1, .int .u8 1] 34)) (some ⟨w6.heap.size, 0, none⟩) (bs [e6, 1, 1]) := rd_lit w6 34 [e6, 1, 1] (by simp)
  have x6 : Ext w6 (w6.alloc (.cells #[.int .u8 6, .int .u8 1, .int .u8 1] 34)) := (Ext.refl w6).alloc _
  go_wp2_with fail
  refine (equal_n Am _ 3 3 [e6, 1, 1] cm 3 _ rfl rfl (hm5.ext (hx6.trans x6)) q6 (by omega)).mono ?_
  rintro e w7 ⟨rfl, hx7⟩
  have z7 := x6.trans hx7
  have y7 := y6.trans z7
  have hm7 := hm5.ext (hx6.trans z7)
  have hs7 := hs5.ext (hx6.trans z7)
  have h27 := h25.ext (hx6.trans z7)
  have ht7 := hrt.ext (hx6.trans z7)
  have hl7 := hrl.ext z7
  clear hm5 hs5 h25 hrt hrl q6 x6 hx7 hx6 y5 y6 z7
  go_wp2_with (go_at_call 46; with_reducible refine (num2_any _ rfl _).mono ?_; rintro e w' ⟨rfl, rfl⟩)
  refine (equal_n As _ 2 2 [e2, 1] cs 2 _ rfl rfl hs7 h27 (by omega)).mono ?_
  rintro e w8 ⟨rfl, hx8⟩
  have y8 := y7.trans hx8
  go_wp2_with (go_at_call 46; with_reducible refine (num2_any _ rfl _).mono ?_; rintro e w' ⟨rfl, rfl⟩)
  refine (equal_n At Am 3 3 [e6, 1, 1] ct cm _ rfl rfl (ht7.ext hx8) (hm7.ext hx8) (by omega)).mono ?_
  rintro e w9 ⟨rfl, hx9⟩
  have y9 := y8.trans hx9
  have q9 : Rd (w9.alloc (.cells #[.int .u8 2, .int .u8 3] 34)) (some ⟨w9.heap.size, 0, none⟩) (bs [e2, e3]) := rd_lit w9 34 [e2, e3] (by simp)
  have x9 : Ext w9 (w9.alloc (.cells #[.int .u8 2, .int .u8 3] 34)) := (Ext.refl w9).alloc _
  go_wp2_with fail
  refine (equal_n Al _ 2 2 [e2, e3] cl 2 _ rfl rfl (hl7.ext (hx8.trans (hx9.trans x9))) q9 (by omega)).mono ?_
  rintro e w10 ⟨rfl, hx10⟩
  go_wp2
  go_ret
  exact ⟨rfl, y9.trans (x9.trans hx10)⟩
end Go.Proofs.Ytemnlcfabaocbaa
/-
  The walks of the outright laws' helpers of chapter 2: unlike, values.
-/
namespace Go.Proofs.Ytemnlcfabaocbaa
open Go.RowKit Gf
set_option maxRecDepth 20000
set_option linter.unusedVariables false

set_option maxHeartbeats 1000000 in
theorem values_n (A B : Option Addr) (m n : Nat) (p pts : List E) (ca cb : Nat) (w : World) (hm : p.length = m) (hn : pts.length = n) (hr : Rd w A (bs p)) (hs : Rd w B (bs pts)) (hlen : m ≤ 140737488355000) (hlenn : n ≤ 140737488355000) :
    Calls Try.prog 60 #[.slice A m ca, .slice B n cb] w fun e w' => ∃ v, e = .returned v ∧ Own w' w.heap.size 34 v (bs (pts.map (evL p))) ∧ Ext w w' := by
  have HN := Lib.hid hn
  have HM := Lib.hid hm
  clear hn hm
  go_enter Try.func60, Try.ntmps60
  go_wp2_with fail
  go_loopw [5, 6] (fun v i wr => ∃ (k : Nat) (V : Value), V = v ∧ k ≤ n ∧ i = .int .i64 k ∧ Ext w wr ∧ Own wr w.heap.size 34 V (bs ((pts.take k).map (evL p)))) (fun _ i _ => n - (intOf i).toNat)
  case atStart => exact ⟨0, _, rfl, by omega, rfl, Ext.refl _, Own.nil _ _ _⟩
  case round =>
    obtain ⟨k, V, rfl, hk, rfl, hx, ho⟩ := hrel
    by_cases hlt : k < n
    · have hkt : k < pts.length := by rw [HN.out]; exact hlt
      obtain ⟨ad, rfl, hck⟩ := (hs.ext hx).byte hkt
      have hkl := (pts[k]).lt
      have hsn := Lib.hid (show bs ((pts.take (k + 1)).map (evL p)) = bs ((pts.take k).map (evL p)) ++ [.int .u8 ((evL p pts[k]).val : Int)] by
        rw [List.take_succ_eq_append_getElem hkt, List.map_append, bs_append]; rfl)
      have hbd : ((bs ((pts.take k).map (evL p))).length + 1) * 1 ≤ 140737488355328 := by rw [bs_length, List.length_map, List.length_take]; omega
      go_wp2_with fail
      refine (polyAt_n A m ca p pts[k] _ HM.out (hr.ext hx) (by simp only [maxLen]; omega)).mono ?_
      rintro e w2 ⟨rfl, hx2⟩
      have ho2 := ho.ext hx2
      have hx3 := hx.trans hx2
      have hle := hx3.le
      have hel := (evL p pts[k]).lt
      clear ho hx2 hck
      go_wp2_with (at_builtin; refine wpList_push _ eltEl rfl _ _ (by rfl) w.heap.size V _ (by rfl) (by exact ho2) (.int .u8 (evL p pts[k]).val) (by rfl) rfl hbd hle ?_; intro v' w' ho' _ hb' _)
      go_roundw
      case rel => exact ⟨k + 1, _, rfl, by omega, by go_num, Below.trans hx3 hb', by rw [hsn.out]; exact ho'⟩
      case measure => simp [intOf]; omega
    · obtain rfl : k = n := by omega
      have hta : pts.take k = pts := List.take_of_length_le (by rw [HN.out]; exact Nat.le_refl _)
      rw [hta] at ho
      go_wp2
      go_ret
      exact ⟨_, rfl, ho, hx⟩
/-- Each once, as they first stand. -/
def unl (xs : List E) : List E := xs.foldl (fun o x => if x ∈ o then o else o ++ [x]) []
theorem unl_snoc (xs : List E) (x : E) : unl (xs ++ [x]) = if x ∈ unl xs then unl xs else unl xs ++ [x] := by rw [unl, List.foldl_append]; rfl
theorem unl_take (xs : List E) (k : Nat) (h : k < xs.length) : unl (xs.take (k + 1)) = if xs[k] ∈ unl (xs.take k) then unl (xs.take k) else unl (xs.take k) ++ [xs[k]] := by
  rw [List.take_succ_eq_append_getElem h, unl_snoc]
theorem unl_nodup (xs : List E) : (unl xs).Nodup := by
  induction xs using snocInd with
  | h0 => simp [unl]
  | h1 l a ih =>
    rw [unl_snoc]
    split
    · exact ih
    · rw [List.nodup_append]
      exact ⟨ih, by simp, fun x hx y hy e => by rw [List.mem_singleton] at hy; subst hy; subst e; contradiction⟩
theorem unl_mem (xs : List E) (x : E) : x ∈ unl xs ↔ x ∈ xs := by
  induction xs using snocInd with
  | h0 => simp [unl]
  | h1 l a ih =>
    rw [unl_snoc]
    split
    · rw [ih, List.mem_append, List.mem_singleton]
      rename_i h
      exact ⟨.inl, fun h' => h'.elim id fun e => by subst e; exact ih.1 h⟩
    · rw [List.mem_append, List.mem_append, ih]
theorem unl_le (xs : List E) : (unl xs).length ≤ xs.length := by
  induction xs using snocInd with
  | h0 => simp [unl]
  | h1 l a ih => rw [unl_snoc]; split <;> simp <;> omega
def mets (o : List E) : List Value := (List.range 256).map (fun v => .bool (decide (E.of v ∈ o)))
theorem mets_get (o : List E) (x : E) : (mets o)[x.val]? = some (.bool (decide (x ∈ o))) := by
  simp [mets, x.lt, E.of_val]
theorem mets_set (o : List E) (x : E) : (mets o).set x.val (.bool true) = mets (o ++ [x]) := by
  apply List.ext_getElem?
  intro i
  rw [List.getElem?_set]
  by_cases h : i < 256
  · have h1 : (mets o)[i]? = some (.bool (decide (E.of i ∈ o))) := by simp [mets, h]
    have h2 : (mets (o ++ [x]))[i]? = some (.bool (decide (E.of i ∈ o ++ [x]))) := by simp [mets, h]
    have hl : (mets o).length = 256 := by simp [mets]
    rw [h2]
    by_cases e : x.val = i
    · subst e; rw [if_pos rfl, if_pos (by rw [hl]; exact h), E.of_val]; simp
    · rw [if_neg e, h1]
      have : E.of i ≠ x := fun e' => e (by rw [← e']; exact E.val_of h)
      simp [this]
  · have hl : (mets o).length = 256 := by simp [mets]
    have hl2 : (mets (o ++ [x])).length = 256 := by simp [mets]
    rw [if_neg (by have := x.lt; omega), List.getElem?_eq_none (by omega), List.getElem?_eq_none (by omega)]
theorem wpList_pushAt {P : Program} {w : World} {t e : TypeId} {z : Value} {bytes : Nat} (E : Elt P t e z bytes) {ops : Array Oper} {rest : List Oper} {o : Oper} {a : Act} {Q : Exit → Act → World → Prop} (hgd : o.guard = none) (s x : Operand)
    (ho : o.op = .call { callee := .builtin .append, args := #[s, x], argTypes := #[t, t] })
    (B : Nat) (v : Value) (xs : List Value) (hs : a.eval s = v) (hown : Own w B e v xs) (u : Value) (g : Nat) (hg : w.heap.size = g) (hx : a.eval x = .slice (some ⟨g, 0, none⟩) 1 1) (h1 : u.oneCell' = true)
    (hbytes : (xs.length + 1) * bytes ≤ 140737488355328) (hB : B ≤ w.heap.size)
    (h : ∀ v' w', Own w' B e v' (xs ++ [u]) → Below B w w' → wpList P ops Q rest (a.put o.dst v') w') :
    wpList P ops Q (o :: rest) a (w.alloc (.cells #[u] e)) := by
  subst hg
  exact wpList_push w E hgd s x ho B v xs hs hown u hx h1 hbytes hB fun v' w' h2 _ h3 _ => h v' w' h2 h3
set_option maxHeartbeats 1000000 in
theorem unlike_n (A : Option Addr) (n : Nat) (xs : List E) (cap : Nat) (w : World) (hn : xs.length = n) (hr : Rd w A (bs xs)) (hlen : n ≤ 140737488355000) :
    Calls Try.prog 59 #[.slice A n cap] w fun e w' => ∃ v, e = .returned v ∧ Own w' w.heap.size 34 v (bs (unl xs)) ∧ Ext w w' := by
  have HN := Lib.hid hn
  clear hn
  go_enter Try.func59, Try.ntmps59
  have hz : Try.zeroCells129 = (mets []).toArray := by kernel_rfl
  go_wp2_with fail
  go_loopw [3, 5] (fun v i wr => ∃ (k : Nat) (V : Value), V = v ∧ k ≤ n ∧ i = .int .i64 k ∧ Ext w wr ∧ Blk wr w.heap.size 129 (mets (unl (xs.take k))).toArray ∧ Own wr (w.heap.size + 1) 34 V (bs (unl (xs.take k)))) (fun _ i _ => n - (intOf i).toNat)
  case atStart => exact ⟨0, _, rfl, by omega, rfl, (Ext.refl _).alloc _, by first | exact Blk.new _ _ _ | (rw [hz]; exact Blk.new _ _ _), Own.nil _ _ _⟩
  case round =>
    clear hz
    obtain ⟨k, V, rfl, hk, rfl, hx, hb, ho⟩ := hrel
    by_cases hlt : k < n
    · have hkt : k < xs.length := by rw [HN.out]; exact hlt
      obtain ⟨ad, rfl, hc⟩ := (hr.ext hx).byte hkt
      have hv := (xs[k]).lt
      have hcm : wr.cell? ⟨w.heap.size, (xs[k]).val, none⟩ = some (.bool (decide (xs[k] ∈ unl (xs.take k)))) := (hb.cell _).trans (by rw [List.getElem?_toArray]; exact mets_get _ _)
      by_cases hin : xs[k] ∈ unl (xs.take k)
      · have HS := Lib.hid (show unl (xs.take (k + 1)) = unl (xs.take k) by rw [unl_take xs k hkt, if_pos hin])
        rw [decide_eq_true hin] at hcm
        clear hin
        go_wp2
        go_roundw
        case rel => exact ⟨k + 1, _, rfl, by omega, by go_num, hx, by rw [HS.out]; exact hb, by rw [HS.out]; exact ho⟩
        case measure => simp [intOf]; omega
      · have HS := Lib.hid (show unl (xs.take (k + 1)) = unl (xs.take k) ++ [xs[k]] by rw [unl_take xs k hkt, if_neg hin])
        rw [decide_eq_false hin] at hcm
        have hf := hb.frozen (xs[k]).val
        have hb2 := hb.set_ (xs[k]).val (.bool true)
        rw [List.setIfInBounds_toArray, mets_set] at hb2
        have ho2 := ho.far (p := ⟨w.heap.size, (xs[k]).val, none⟩) (fun e => by have := (ho.lt _ e).1; simp at this; omega) (.bool true)
        have hx2 := hx.new (p := ⟨w.heap.size, (xs[k]).val, none⟩) (Nat.le_refl _) (.bool true)
        have hc2 : (wr.setCell ⟨w.heap.size, (xs[k]).val, none⟩ (.bool true)).cell? (ad.add k) = some (.int .u8 ((xs[k]).val : Int)) := by
          obtain ⟨ad', e', hc'⟩ := (hr.ext hx2).byte hkt
          injection e' with e'
          subst e'
          exact hc'
        have hlb := hb2.lt
        have hul := unl_le (xs.take k)
        have hbd : ((bs (unl (xs.take k))).length + 1) * 1 ≤ 140737488355328 := by rw [bs_length]; rw [List.length_take] at hul; omega
        have HB2 := Lib.hid hb2
        clear hin hb hb2 ho
        go_wp2_with (at_builtin; refine wpList_pushAt eltEl rfl _ _ (by rfl) (w.heap.size + 1) V _ (by rfl) (by exact ho2) (.int .u8 (xs[k]).val) wr.heap.size (by simp) (by rfl) rfl hbd hlb ?_; intro v' w' ho' hb')
        go_roundw
        case rel =>
          refine ⟨k + 1, _, rfl, by omega, by go_num, Below.trans hx2 (hb'.mono (by omega)), ?_, ?_⟩
          · rw [HS.out]; exact HB2.out.below hb' (by omega)
          · rw [HS.out, bs_append]; exact ho'
        case measure => simp [intOf]; omega
    · obtain rfl : k = n := by omega
      have hta : xs.take k = xs := List.take_of_length_le (by rw [HN.out]; exact Nat.le_refl _)
      rw [hta] at ho
      go_wp2
      go_ret
      exact ⟨_, rfl, ho.mono (by omega), hx⟩
end Go.Proofs.Ytemnlcfabaocbaa
/-
  The roots, one by one: how many, where each stands, and when a linear divisor leaves nothing.
-/
namespace Go.Proofs.Ytemnlcfabaocbaa
open Go.RowKit Gf
set_option linter.unusedVariables false

theorem nodup_len {l m : List E} (hn : l.Nodup) (hs : ∀ x ∈ l, x ∈ m) : l.length ≤ m.length := by
  induction l generalizing m with
  | nil => exact Nat.zero_le _
  | cons a l ih =>
    obtain ⟨h1, h2⟩ := List.nodup_cons.1 hn
    have hm := hs a (List.mem_cons_self ..)
    have := ih (m := m.erase a) h2 (fun x hx => by
      have hne : x ≠ a := fun e => by subst e; exact h1 hx
      exact (List.mem_erase_of_ne hne).2 (hs x (List.mem_cons_of_mem _ hx)))
    rw [List.length_erase_of_mem hm] at this
    have hpos : 0 < m.length := List.length_pos_of_mem hm
    simp only [List.length_cons]
    omega
/-- The roots from i on. -/
def rootsFrom (p : List E) (i : Nat) : List E := ((List.range' i (256 - i)).map E.of).filter (fun x => decide (evL p x = 0))
theorem roots_split (p : List E) (i : Nat) (h : i ≤ 256) : rootsL p = rootsTo p i ++ rootsFrom p i := by
  rw [rootsL, rootsTo, rootsTo, rootsFrom, ← List.filter_append, ← List.map_append]
  congr 2
  rw [List.range_eq_range', List.range_eq_range']
  have := List.range'_append (s := 0) (m := i) (n := 256 - i) (step := 1)
  rw [Nat.one_mul, Nat.zero_add, show i + (256 - i) = 256 by omega] at this
  exact this.symm
theorem from_step (p : List E) (i : Nat) (h : i < 256) : rootsFrom p i = (if evL p (E.of i) = 0 then [E.of i] else []) ++ rootsFrom p (i + 1) := by
  rw [rootsFrom, rootsFrom, show 256 - i = (256 - (i + 1)) + 1 by omega, List.range'_succ, List.map_cons, List.filter_cons]
  by_cases hz : evL p (E.of i) = 0
  · rw [if_pos (by simpa using hz), if_pos hz]; rfl
  · rw [if_neg (by simpa using hz), if_neg hz]; rfl
theorem from_ge (p : List E) (i : Nat) (h : i ≤ 256) : ∀ x ∈ rootsFrom p i, i ≤ x.val := by
  intro x hx
  rw [rootsFrom, List.mem_filter, List.mem_map] at hx
  obtain ⟨⟨j, hj, rfl⟩, _⟩ := hx
  rw [List.mem_range'_1] at hj
  rw [E.val_of (by omega)]
  exact hj.1
theorem mem_roots (p : List E) (x : E) : x ∈ rootsL p ↔ evL p x = 0 := by
  rw [rootsL, rootsTo, List.mem_filter, List.mem_map]
  constructor
  · intro h; simpa using h.2
  · intro h; exact ⟨⟨x.val, List.mem_range.2 x.lt, E.of_val x⟩, by simpa using h⟩
theorem roots_nodup (p : List E) : (rootsL p).Nodup := by
  rw [rootsL, rootsTo]
  refine List.Nodup.sublist (List.filter_sublist ..) ?_
  rw [List.nodup_iff_pairwise_ne, List.pairwise_map]
  have := List.nodup_range (n := 256)
  rw [List.nodup_iff_pairwise_ne] at this
  refine List.Pairwise.imp_of_mem ?_ this
  intro a b ha hb hne e
  rw [List.mem_range] at ha hb
  apply hne
  have := congrArg E.val e
  rwa [E.val_of ha, E.val_of hb] at this
theorem roots_all {p : List E} (h : dg p = 0) : (rootsL p).length = 256 := by
  have hz := dg_eq_zero.1 h
  rw [rootsL, rootsTo, List.filter_eq_self.2 (fun x _ => by simp [evL_ser (b := []) (by rw [hz, ser_nil]), evL_nil])]
  simp
theorem roots_few {p : List E} {d : Nat} (h : dg p = d + 1) : (rootsL p).length ≤ d := by
  rcases Nat.lt_or_ge d (rootsL p).length with h1 | h1
  · have := few_roots (d + 1) p (rootsL p) (h ▸ dg_dlt p) (roots_nodup p) h1 (fun x hx => (mem_roots p x).1 hx)
    rw [dg_eq_zero.2 this] at h
    omega
  · exact h1
/-- Where the i-th question stands: k roots are below i. -/
theorem root_here {p : List E} {i : Nat} (hi : i < 256) (h : evL p (E.of i) = 0) : ∃ hk : (rootsTo p i).length < (rootsL p).length, (rootsL p)[(rootsTo p i).length] = E.of i := by
  have hs := roots_split p i (by omega)
  rw [from_step p i hi, if_pos h] at hs
  have hk : (rootsTo p i).length < (rootsL p).length := by rw [hs]; simp
  refine ⟨hk, ?_⟩
  have : (rootsL p)[(rootsTo p i).length]? = some (E.of i) := by rw [hs, List.getElem?_append_right (Nat.le_refl _), Nat.sub_self]; rfl
  rwa [List.getElem?_eq_getElem hk, Option.some.injEq] at this
theorem root_not {p : List E} {i : Nat} (hi : i < 256) (h : evL p (E.of i) ≠ 0) (hk : (rootsTo p i).length < (rootsL p).length) : (rootsL p)[(rootsTo p i).length].val ≠ i := by
  have hs := roots_split p i (by omega)
  rw [from_step p i hi, if_neg h, List.nil_append] at hs
  have hm : (rootsL p)[(rootsTo p i).length] ∈ rootsFrom p (i + 1) := by
    have h1 : (rootsL p)[(rootsTo p i).length]? = (rootsFrom p (i + 1))[0]? := by rw [hs, List.getElem?_append_right (Nat.le_refl _), Nat.sub_self]
    rw [List.getElem?_eq_getElem hk] at h1
    exact List.mem_of_getElem? h1.symm
  have := from_ge p (i + 1) (by omega) _ hm
  omega
/-- A linear divisor leaves nothing just at a root. -/
theorem lin_rest {p s r : List E} {x : E} {k : Int} (h : DivAny p [x, 1] s r k) : k = 0 ∧ (r.length = 0 ↔ evL p x = 0) ∧ r.length ≤ 1 := by
  have hd : dg [x, 1] = 2 := dg_eq (dlt_ser [x, 1]) (fun _ => by exact E.one_ne_zero)
  rcases h with ⟨h0, _⟩ | ⟨_, h, rfl⟩
  · rw [hd] at h0; omega
  · have hl := h.lt
    rw [hd] at hl
    have hev : evL p x = evL r x := by
      rw [evL_ser (a := p) (b := plusL r (timesL s [x, 1])) (by rw [ser_plusL, ser_timesL, h.eq]), evL_plus, evL_times, evL_lin, E.add_self, E.mul_zero, E.add_zero]
    refine ⟨rfl, ?_, by omega⟩
    rw [hev]
    constructor
    · intro h0; rw [List.eq_nil_of_length_eq_zero h0, evL_nil]
    · intro h0
      rcases Nat.eq_zero_or_pos r.length with h1 | h1
      · exact h1
      · exfalso
        obtain ⟨c, rfl⟩ : ∃ c, r = [c] := List.length_eq_one_iff.1 (by omega)
        rw [evL_cons, evL_nil, E.mul_zero, E.add_zero] at h0
        exact h.tr.last (by simp) h0
theorem vanish_roots (pts : List E) (hn : pts.Nodup) : (rootsL (vanishL pts)).length = pts.length := by
  refine Nat.le_antisymm (nodup_len (roots_nodup _) (fun x hx => (vanish_ev _ _).1 ((mem_roots _ _).1 hx))) (nodup_len hn (fun x hx => (mem_roots _ _).2 ((vanish_ev _ _).2 hx)))
end Go.Proofs.Ytemnlcfabaocbaa
