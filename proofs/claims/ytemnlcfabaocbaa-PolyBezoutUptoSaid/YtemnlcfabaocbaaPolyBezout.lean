/-
  The law 'PolyBezout': for every input whose bulk is at most 1048576 it returns true and leaves its arguments as they were. The frame is after the kit's shell; the walk is ours. No further condition.
-/
import Derived.Test.YtemnlcfabaocbaaRows
import Derived.Test.YtemnlcfabaocbaaOpenU
import Derived.Test.YtemnlcfabaocbaaBez
import Derived.Test.YtemnlcfabaocbaaOpen
import Derived.WalkKit
import Derived.ProofKit
import Derived.OpenShut
import Derived.ShutString
import Derived.ChangeOld
import Derived.Below
namespace Go.Proofs.Ytemnlcfabaocbaa.polyBezout
open Go.ChangeShapes Go.WideShapes Go.ChangeAt Go.RowKit
set_option linter.unusedVariables false
open Gf

theorem own : ownKnob Try.prog.godebug = none := by kernel_rfl
theorem laidOut : laidOutB Try.prog = true := by kernel_rfl

set_option maxRecDepth 20000 in
set_option maxHeartbeats 8000000 in
theorem walk (w : World) (Aa : Option Addr) (ca : Nat) (xa : List E) (Ab : Option Addr) (cb : Nat) (xb : List E) (Ac : Option Addr) (cc : Nat) (xc : List E) (x : E) (bl : Int) (hra : Rd w Aa (bs xa)) (hla : xa.length ≤ ca) (hca : ca ≤ 1048576) (hrb : Rd w Ab (bs xb)) (hlb : xb.length ≤ cb) (hcb : cb ≤ 1048576) (hrc : Rd w Ac (bs xc)) (hlc : xc.length ≤ cc) (hcc : cc ≤ 1048576) (hwb : (Lit.int .i64 bl).wf = true) :
    Calls Try.prog 14 #[.agg #[.slice Aa xa.length ca, .slice Ab xb.length cb, .slice Ac xc.length cc, .int .u8 (x.val : Int), .int .i64 bl]] w fun e w' => e = .returned (.bool true) ∧ Below w.heap.size w w' := by
  obtain ⟨wb, hwb⟩ : ∃ wb, wb = w.alloc (.cells #[.slice Aa xa.length ca, .slice Ab xb.length cb, .slice Ac xc.length cc, .int .u8 (x.val : Int), .int .i64 bl] 59) := ⟨_, rfl⟩
  have hblk : Blk wb w.heap.size 59 #[.slice Aa xa.length ca, .slice Ab xb.length cb, .slice Ac xc.length cc, .int .u8 (x.val : Int), .int .i64 bl] := by rw [hwb]; exact Blk.new _ _ _
  replace hra : Rd wb Aa (bs xa) := by rw [hwb]; exact hra.alloc _
  replace hrb : Rd wb Ab (bs xb) := by rw [hwb]; exact hrb.alloc _
  replace hrc : Rd wb Ac (bs xc) := by rw [hwb]; exact hrc.alloc _
  have hxb : Ext w wb := by rw [hwb]; exact (Ext.refl w).alloc _
  have hxl := x.lt
  go_enter Try.func14, Try.ntmps14
  go_wp2_with fail
  rw [← hwb]
  clear hwb
  refine (awake_any _).mono ?_
  rintro e w1 ⟨rfl, y1⟩
  have q0 : World.cell? w1 ⟨w.heap.size, 0, none⟩ = some (.slice Aa xa.length ca) := (hblk.below y1 hblk.lt).cell 0
  go_wp2_with fail
  refine (elems_n Aa _ xa ca _ rfl (hra.ext y1) (by omega)).mono ?_
  rintro e w2 ⟨v, rfl, ho, hx⟩
  obtain ⟨A2, k2, rfl, hr1002, hc1002, hm1002⟩ := ho.bytesN rfl
  simp only [maxLen] at hm1002
  clear ho
  have y2 := y1.trans hx
  clear hx
  clear q0
  have q1 : World.cell? w2 ⟨w.heap.size, 1, none⟩ = some (.slice Ab xb.length cb) := (hblk.below y2 hblk.lt).cell 1
  go_wp2_with fail
  refine (elems_n Ab _ xb cb _ rfl (hrb.ext y2) (by omega)).mono ?_
  rintro e w3 ⟨v, rfl, ho, hx⟩
  obtain ⟨A3, k3, rfl, hr1003, hc1003, hm1003⟩ := ho.bytesN rfl
  simp only [maxLen] at hm1003
  clear ho
  replace hr1002 := hr1002.ext hx
  have y3 := y2.trans hx
  clear hx
  clear q1
  have q4 : World.cell? w3 ⟨w.heap.size, 4, none⟩ = some (.int .i64 bl) := (hblk.below y3 hblk.lt).cell 4
  rcases (show bl < 0 ∨ 0 ≤ bl by omega) with hneg | hge
  · have hd := decide_eq_true hneg
    go_wp2_with fail
    refine (polyPartial_neg _ _ _ _ _ _ bl hneg _).mono ?_
    rintro e w' ⟨rfl, rfl⟩
    go_wp2_with (go_at_call 46; with_reducible refine (num2_any _ rfl _).mono ?_; rintro e w' ⟨rfl, rfl⟩)
    go_ret
    exact ⟨rfl, hxb.trans y3⟩
  · obtain ⟨k, rfl⟩ := Int.eq_ofNat_of_zero_le hge
    have hd := decide_eq_false (show ¬ (k : Int) < 0 by omega)
    clear hge
    go_wp2_with fail
    refine (polyPartial_n A2 A3 _ _ k2 k3 (xa) (xb) k _ rfl rfl hr1002 hr1003 (by omega) (by omega) (by omega) (by omega) hwb).mono ?_
    rintro e w4 ⟨vg, vu, vv, ⟨G4, U4, V4⟩, rfl, hpr, hog, hou, hov, hx, hul, hvl, hgl⟩
    dsimp only at hog hou hov hul hvl hgl
    obtain ⟨AG4, cG4, rfl, hrG4, hcG4, hmG4⟩ := hog.bytesN rfl
    simp only [maxLen] at hmG4
    clear hog
    obtain ⟨AU4, cU4, rfl, hrU4, hcU4, hmU4⟩ := hou.bytesN rfl
    simp only [maxLen] at hmU4
    clear hou
    obtain ⟨AV4, cV4, rfl, hrV4, hcV4, hmV4⟩ := hov.bytesN rfl
    simp only [maxLen] at hmV4
    clear hov
    replace hr1002 := hr1002.ext hx
    replace hr1003 := hr1003.ext hx
    have y4 := y3.trans hx
    clear hx
    obtain ⟨hmade, htu, htv, hdgk, -, -⟩ := hpr.made
    clear hpr
    have HMADE := Lib.hid hmade
    have HDK := Lib.hid (decide_eq_false (show ¬ (k : Int) ≤ (dg G4 : Int) - 1 by omega))
    clear hmade hdgk
    go_wp2_with (go_at_call 46; with_reducible refine (num2_any _ rfl _).mono ?_; rintro e w' ⟨rfl, rfl⟩)
    refine (degree_n AG4 _ (G4) cG4 _ rfl hrG4 (by omega)).mono ?_
    rintro e w' ⟨rfl, rfl⟩
    have hdk := HDK.out
    go_wp2_with (go_at_call 46; with_reducible refine (num2_any _ rfl _).mono ?_; rintro e w' ⟨rfl, rfl⟩)
    refine (polyTimes_n AU4 A2 _ _ cU4 k2 (U4) (xa) _ rfl rfl hrU4 hr1002 (by omega)).mono ?_
    rintro e w5 ⟨v, rfl, ho, hx⟩
    obtain ⟨A5, k5, rfl, hr1005, hc1005, hm1005⟩ := ho.bytesN rfl
    simp only [maxLen] at hm1005
    clear ho
    have b5 := timesL_le (U4) (xa)
    replace hr1002 := hr1002.ext hx
    replace hr1003 := hr1003.ext hx
    replace hrG4 := hrG4.ext hx
    replace hrU4 := hrU4.ext hx
    replace hrV4 := hrV4.ext hx
    have y5 := y4.trans hx
    clear hx
    go_wp2_with (go_at_call 46; with_reducible refine (num2_any _ rfl _).mono ?_; rintro e w' ⟨rfl, rfl⟩)
    refine (polyTimes_n AV4 A3 _ _ cV4 k3 (V4) (xb) _ rfl rfl hrV4 hr1003 (by omega)).mono ?_
    rintro e w6 ⟨v, rfl, ho, hx⟩
    obtain ⟨A6, k6, rfl, hr1006, hc1006, hm1006⟩ := ho.bytesN rfl
    simp only [maxLen] at hm1006
    clear ho
    have b6 := timesL_le (V4) (xb)
    replace hr1002 := hr1002.ext hx
    replace hr1003 := hr1003.ext hx
    replace hrG4 := hrG4.ext hx
    replace hrU4 := hrU4.ext hx
    replace hrV4 := hrV4.ext hx
    replace hr1005 := hr1005.ext hx
    have y6 := y5.trans hx
    clear hx
    go_wp2_with (go_at_call 46; with_reducible refine (num2_any _ rfl _).mono ?_; rintro e w' ⟨rfl, rfl⟩)
    refine (polyPlus_n A5 A6 _ _ k5 k6 (timesL (U4) (xa)) (timesL (V4) (xb)) _ rfl rfl hr1005 hr1006 (by omega) (by omega)).mono ?_
    rintro e w7 ⟨v, rfl, ho, hx⟩
    rw [HMADE.out] at ho
    obtain ⟨A7, k7, rfl, hr1007, hc1007, hm1007⟩ := ho.bytesN rfl
    simp only [maxLen] at hm1007
    clear ho
    have b7 := plusL_le (timesL (U4) (xa)) (timesL (V4) (xb))
    replace hr1002 := hr1002.ext hx
    replace hr1003 := hr1003.ext hx
    replace hrG4 := hrG4.ext hx
    replace hrU4 := hrU4.ext hx
    replace hrV4 := hrV4.ext hx
    have y7 := y6.trans hx
    clear hx hr1005 hr1006
    clear b7
    go_wp2_with (go_at_call 46; with_reducible refine (num2_any _ rfl _).mono ?_; rintro e w' ⟨rfl, rfl⟩)
    refine (equal_n AG4 A7 _ _ (G4) cG4 k7 _ rfl rfl hrG4 hr1007 (by omega)).mono ?_
    rintro e w8 ⟨rfl, hx⟩
    replace hr1002 := hr1002.ext hx
    replace hr1003 := hr1003.ext hx
    replace hrU4 := hrU4.ext hx
    replace hrV4 := hrV4.ext hx
    have y8 := y7.trans hx
    clear hx hr1007 hrG4
    go_wp2_with (go_at_call 46; with_reducible refine (num2_any _ rfl _).mono ?_; rintro e w' ⟨rfl, rfl⟩)
    refine (trimmed_n AU4 _ (U4) cU4 _ rfl hrU4 (by omega) (htu)).mono ?_
    rintro e w' ⟨rfl, rfl⟩
    go_wp2_with (go_at_call 46; with_reducible refine (num2_any _ rfl _).mono ?_; rintro e w' ⟨rfl, rfl⟩)
    refine (trimmed_n AV4 _ (V4) cV4 _ rfl hrV4 (by omega) (htv)).mono ?_
    rintro e w' ⟨rfl, rfl⟩
    clear hdk HDK HMADE hrU4 hrV4 htu htv hwb hul hvl hgl hcU4 hcV4 hcG4
    have q2 : World.cell? w8 ⟨w.heap.size, 2, none⟩ = some (.slice Ac xc.length cc) := (hblk.below y8 hblk.lt).cell 2
    go_wp2_with (go_at_call 46; with_reducible refine (num2_any _ rfl _).mono ?_; rintro e w' ⟨rfl, rfl⟩)
    refine (elems_n Ac _ xc cc _ rfl (hrc.ext y8) (by omega)).mono ?_
    rintro e w9 ⟨v, rfl, ho, hx⟩
    obtain ⟨A9, k9, rfl, hr1009, hc1009, hm1009⟩ := ho.bytesN rfl
    simp only [maxLen] at hm1009
    clear ho
    replace hr1002 := hr1002.ext hx
    replace hr1003 := hr1003.ext hx
    have y9 := y8.trans hx
    clear hx
    clear q2
    go_wp2_with (go_at_call 46; with_reducible refine (num2_any _ rfl _).mono ?_; rintro e w' ⟨rfl, rfl⟩)
    refine (polyTimes_n A2 A9 _ _ k2 k9 (xa) (xc) _ rfl rfl hr1002 hr1009 (by omega)).mono ?_
    rintro e w10 ⟨v, rfl, ho, hx⟩
    obtain ⟨A10, k10, rfl, hr1010, hc1010, hm1010⟩ := ho.bytesN rfl
    simp only [maxLen] at hm1010
    clear ho
    have b10 := timesL_le (xa) (xc)
    replace hr1002 := hr1002.ext hx
    replace hr1003 := hr1003.ext hx
    replace hr1009 := hr1009.ext hx
    have y10 := y9.trans hx
    clear hx
    go_wp2_with (go_at_call 46; with_reducible refine (num2_any _ rfl _).mono ?_; rintro e w' ⟨rfl, rfl⟩)
    refine (polyTimes_n A3 A9 _ _ k3 k9 (xb) (xc) _ rfl rfl hr1003 hr1009 (by omega)).mono ?_
    rintro e w11 ⟨v, rfl, ho, hx⟩
    obtain ⟨A11, k11, rfl, hr1011, hc1011, hm1011⟩ := ho.bytesN rfl
    simp only [maxLen] at hm1011
    clear ho
    have b11 := timesL_le (xb) (xc)
    replace hr1002 := hr1002.ext hx
    replace hr1003 := hr1003.ext hx
    replace hr1009 := hr1009.ext hx
    replace hr1010 := hr1010.ext hx
    have y11 := y10.trans hx
    clear hx
    go_wp2_with (go_at_call 46; with_reducible refine (num2_any _ rfl _).mono ?_; rintro e w' ⟨rfl, rfl⟩)
    refine (polyPartial_zero A10 A11 _ _ k10 k11 (timesL (xa) (xc)) (timesL (xb) (xc)) _ rfl rfl hr1010 hr1011 (by omega) (by omega) hc1010 hc1011).mono ?_
    rintro e w12 ⟨vg, vu, vv, s, t, rfl, hz, hog, hou, hov, hx, hul, hvl⟩
    obtain ⟨Ah, ch, rfl, -, -, -⟩ := hog.bytesN (n := 0) rfl
    obtain ⟨As, cs, rfl, hrs, hcs, hms⟩ := hou.bytesN rfl
    obtain ⟨At, ct, rfl, hrt, hct, hmt⟩ := hov.bytesN rfl
    simp only [maxLen] at hms hmt
    clear hog hou hov
    have HZ := Lib.hid hz
    clear hz
    replace hr1002 := hr1002.ext hx
    replace hr1003 := hr1003.ext hx
    replace hr1009 := hr1009.ext hx
    replace hr1010 := hr1010.ext hx
    replace hr1011 := hr1011.ext hx
    have y12 := y11.trans hx
    clear hx
    go_wp2_with (go_at_call 46; with_reducible refine (num2_any _ rfl _).mono ?_; rintro e w' ⟨rfl, rfl⟩)
    refine (polyTimes_n As A10 _ _ cs k10 (s) (timesL (xa) (xc)) _ rfl rfl hrs hr1010 (by omega)).mono ?_
    rintro e w13 ⟨v, rfl, ho, hx⟩
    obtain ⟨A13, k13, rfl, hr1013, hc1013, hm1013⟩ := ho.bytesN rfl
    simp only [maxLen] at hm1013
    clear ho
    have b13 := timesL_le (s) (timesL (xa) (xc))
    replace hr1002 := hr1002.ext hx
    replace hr1003 := hr1003.ext hx
    replace hr1009 := hr1009.ext hx
    replace hr1010 := hr1010.ext hx
    replace hr1011 := hr1011.ext hx
    replace hrs := hrs.ext hx
    replace hrt := hrt.ext hx
    have y13 := y12.trans hx
    clear hx
    go_wp2_with (go_at_call 46; with_reducible refine (num2_any _ rfl _).mono ?_; rintro e w' ⟨rfl, rfl⟩)
    refine (polyTimes_n At A11 _ _ ct k11 (t) (timesL (xb) (xc)) _ rfl rfl hrt hr1011 (by omega)).mono ?_
    rintro e w14 ⟨v, rfl, ho, hx⟩
    obtain ⟨A14, k14, rfl, hr1014, hc1014, hm1014⟩ := ho.bytesN rfl
    simp only [maxLen] at hm1014
    clear ho
    have b14 := timesL_le (t) (timesL (xb) (xc))
    replace hr1002 := hr1002.ext hx
    replace hr1003 := hr1003.ext hx
    replace hr1009 := hr1009.ext hx
    replace hr1010 := hr1010.ext hx
    replace hr1011 := hr1011.ext hx
    replace hrs := hrs.ext hx
    replace hrt := hrt.ext hx
    replace hr1013 := hr1013.ext hx
    have y14 := y13.trans hx
    clear hx
    go_wp2_with (go_at_call 46; with_reducible refine (num2_any _ rfl _).mono ?_; rintro e w' ⟨rfl, rfl⟩)
    refine (polyPlus_n A13 A14 _ _ k13 k14 (timesL (s) (timesL (xa) (xc))) (timesL (t) (timesL (xb) (xc))) _ rfl rfl hr1013 hr1014 (by omega) (by omega)).mono ?_
    rintro e w15 ⟨v, rfl, ho, hx⟩
    rw [HZ.out] at ho
    obtain ⟨A15, k15, rfl, hr1015, hc1015, hm1015⟩ := ho.bytesN rfl
    simp only [maxLen] at hm1015
    clear ho
    have b15 := plusL_le (timesL (s) (timesL (xa) (xc))) (timesL (t) (timesL (xb) (xc)))
    replace hr1002 := hr1002.ext hx
    replace hr1003 := hr1003.ext hx
    replace hr1009 := hr1009.ext hx
    replace hr1010 := hr1010.ext hx
    replace hr1011 := hr1011.ext hx
    replace hrs := hrs.ext hx
    replace hrt := hrt.ext hx
    have y15 := y14.trans hx
    clear hx hr1013 hr1014
    clear hr1015 b15 HZ
    clear hrs hrt hul hvl
    have hdle := dg_le xc
    have hcl : xc.length ≤ 1048576 := by omega
    have hx1 : (timesL (xa) (xc)).length ≤ 2097152 := by omega
    have hx2' : (timesL (xb) (xc)).length ≤ 2097152 := by omega
    clear b5 b6 b10 b11 b13 b14 hm1002 hm1003 hmG4 hmU4 hmV4 hm1005 hm1006 hm1007 hm1009 hm1010 hm1011 hms hmt hm1013 hm1014 hm1015 hla hca hlb hcb hlc hcc
    rcases Nat.eq_zero_or_pos (dg xc) with h0 | h0
    · skip
      go_wp2_with fail
      refine (degree_n A9 _ (xc) k9 _ rfl hr1009 (by omega)).mono ?_
      rintro e w' ⟨rfl, rfl⟩
      rw [h0]
      go_wp2_with fail
      go_loopw [19] (fun i wr => i = .int .i64 0 ∧ Ext w wr) (fun _ _ => 0)
      case atStart => exact ⟨rfl, hxb.trans y15⟩
      case round =>
        obtain ⟨rfl, hx⟩ := hrel
        go_wp2
        go_ret
        exact ⟨rfl, hx⟩
    · obtain ⟨e, e1, e3, hei, he1, hE1, hE3, hw1, hw3, hge0⟩ := deg_pos h0 (Nat.le_trans hdle hcl)
      have HD0 := Lib.hid h0
      have HW1 := Lib.hid hw1
      have HW3 := Lib.hid hw3
      have HG0 := Lib.hid hge0
      have HEI := Lib.hid hei
      have HE1 := Lib.hid hE1
      have HE3 := Lib.hid hE3
      clear h0 hw1 hw3 hge0 hei hE1 hE3
      go_wp2_with fail
      refine (degree_n A9 _ (xc) k9 _ rfl hr1009 (by omega)).mono ?_
      rintro e' w' ⟨rfl, rfl⟩
      rw [HEI.out]
      clear HEI hdle
      go_wp2_with fail
      have HY := Lib.hid (hxb.trans y15)
      clear hxb hr1002 hr1003
      go_loopw [19] (fun i wr => ∃ j, e1 ≤ j ∧ j ≤ e3 + 1 ∧ i = .int .i64 (j : Int) ∧ Ext w15 wr) (fun i _ => e3 + 1 - (intOf i).toNat)
      case atStart => exact ⟨e1, Nat.le_refl _, by have := HE1.out; have := HE3.out; omega, by congr 1; have := HE1.out; omega, Ext.refl _⟩
      case round =>
        obtain ⟨j, hj1, hj2, rfl, hx⟩ := hrel
        have hjw := wf_nat j (by have := HE3.out; omega)
        have lhr1010 := hr1010.ext hx
        have lhr1011 := hr1011.ext hx
        have lhr1009 := hr1009.ext hx
        have hjb : j ≤ 1048580 := by have := HE3.out; omega
        by_cases hlt : j ≤ e3
        · have hdj := decide_eq_true (show (j : Int) ≤ (e : Int) + 3 by have := HE3.out; omega)
          have hge0 := HG0.out
          go_wp2_with fail
          refine (polyPartial_n A10 A11 _ _ k10 k11 (timesL (xa) (xc)) (timesL (xb) (xc)) j _ rfl rfl lhr1010 lhr1011 (by omega) (by omega) (by omega) (by omega) hjw).mono ?_
          rintro e w16 ⟨vg, vu, vv, ⟨G16, U16, V16⟩, rfl, hpr, hog, hou, hov, hx, hul, hvl, hgl⟩
          dsimp only at hog hou hov hul hvl hgl
          obtain ⟨AG16, cG16, rfl, hrG16, hcG16, hmG16⟩ := hog.bytesN rfl
          simp only [maxLen] at hmG16
          clear hog
          obtain ⟨AU16, cU16, rfl, hrU16, hcU16, hmU16⟩ := hou.bytesN rfl
          simp only [maxLen] at hmU16
          clear hou
          obtain ⟨AV16, cV16, rfl, hrV16, hcV16, hmV16⟩ := hov.bytesN rfl
          simp only [maxLen] at hmV16
          clear hov
          replace lhr1009 := lhr1009.ext hx
          have y16 := (Ext.refl _).trans hx
          clear hx
          go_wp2_with fail
          refine (polyDivide_all AG16 A9 _ _ cG16 k9 G16 xc _ rfl rfl hrG16 lhr1009 (by omega) (by omega) hcG16 hc1009).mono ?_
          rintro e' w17 ⟨v1, v2, s1, r1, kk, rfl, hda, ho1, ho2, -, hx2⟩
          obtain ⟨rfl, rfl⟩ := hpr.multiple HD0.out hda
          obtain ⟨A1', c1', rfl, -, -, -⟩ := ho2.bytesN (n := 0) rfl
          clear ho1 ho2 hda hpr
          go_wp2_with (go_at_call 46; with_reducible refine (num2_any _ rfl _).mono ?_; rintro e w' ⟨rfl, rfl⟩)
          go_roundw
          case rel => have hE3 := HE3.out; exact ⟨j + 1, by omega, by omega, by go_num, hx.trans (y16.trans hx2)⟩
          case measure => have hE3 := HE3.out; simp [intOf]; omega
        · have hdj := decide_eq_false (show ¬ (j : Int) ≤ (e : Int) + 3 by have := HE3.out; omega)
          have hge0 := HG0.out
          go_wp2
          go_ret
          exact ⟨rfl, HY.out.trans hx⟩

set_option maxRecDepth 100000 in
theorem lifted (os : Os) (started : os.Started) (H : Type) (enc : TypeId × Value → H) (F : Stop.Interp) :
    ReturnsInHanded {} Try.checked os 14 .any ((Rows.OpenSpec.upto Rows.polyBezoutSpec).pre6 enc Try.prog Try.f14 Rows.polyBezoutUptoRow.domain false) (((Rows.OpenSpec.upto Rows.polyBezoutSpec).at F).post enc Try.prog Try.f14 false true false false) := by
  refine returnsInHanded_of_cond_sized (C := Try.checked) (s := Rows.OpenSpec.upto Rows.polyBezoutSpec) (k := Rows.uptoSmall) rfl own started (by kernel_rfl) Try.func14
    (OpenSpec.witness (enc := enc) (C := Try.checked) (s := Rows.OpenSpec.upto Rows.polyBezoutSpec) (k := Rows.uptoSmall) rfl false ⟨#[], #[.agg #[.slice none 0 0, .slice none 0 0, .slice none 0 0, .int .u8 0, .int .i64 0]], []⟩ 8 (by kernel_rfl) (by kernel_rfl) (by kernel_rfl)
      (x := ([.agg [.nil, .nil, .nil, .lit (.int .u8 0), .lit (.int .i64 0)]], [], [])) (by kernel_rfl) rfl (by kernel_rfl)) ?_
  intro W base args ds gs before hval0 hW hcnd hk hsz0 _
  have hval : ∀ (j : Nat) t v, Try.f14.params[j]? = some t → args[j]? = some v → Value.okWide Try.prog W .any base t v := hval0
  have hsz : (DataW.weightsEach Try.prog (Try.f14.params.toList ++ Rows.polyBezoutSpec.plain.varTypes Try.prog) (ds ++ gs)).all (· ≤ reachBytes) = true := hsz0
  have hW' := hW
  obtain ⟨p, q, hA0, hV, rfl, hfz, hnd⟩ := hW
  have hA : DataW.TrodAll enc Try.prog W 0 (fun _ => true) true Try.f14.params.toList args.toList ds p := hA0
  rw [Try.params14] at hA hval hsz
  obtain ⟨v0, vs0, d0, ds0, p0, q0, hargs, rfl, rfl, h0, r0⟩ := trodAll_cons hA
  obtain ⟨rfl, rfl, rfl⟩ := trodAll_nil r0
  obtain rfl : args = #[v0] := by cases args; simp_all
  obtain ⟨rfl, rfl⟩ := trodVars_none hV
  have k0 := h0
  have lt0 : ∀ x ∈ p0, x.block < W.heap.size := by obtain ⟨m, hm⟩ := k0; exact DataW.trod_lt m _ _ _ hm
  obtain ⟨Aa, ca, xa, Ab, cb, xb, Ac, cc, xc, x, bl, rfl, hra, hla, hca, hrb, hlb, hcb, hrc, hlc, hcc, hwb⟩ : ∃ (Aa : Option Addr) (ca : Nat) (xa : List E) (Ab : Option Addr) (cb : Nat) (xb : List E) (Ac : Option Addr) (cc : Nat) (xc : List E) (x : E) (bl : Int), v0 = .agg #[.slice Aa xa.length ca, .slice Ab xb.length cb, .slice Ac xc.length cc, .int .u8 (x.val : Int), .int .i64 bl] ∧
      Rd W Aa (bs xa) ∧ xa.length ≤ ca ∧ ca ≤ 1048576 ∧ Rd W Ab (bs xb) ∧ xb.length ≤ cb ∧ cb ≤ 1048576 ∧ Rd W Ac (bs xc) ∧ xc.length ≤ cc ∧ cc ≤ 1048576 ∧ (Lit.int .i64 bl).wf = true := by
    have hB := bulk_bound hk (d := d0) (by simp)
    obtain ⟨u0, u1, u2, u3, u4, y0, y1, y2, y3, y4, n, rfl, rfl, t0, t1, t2, t3, t4⟩ := open_agg5 Try.underlying59 (by kernel_rfl) (by kernel_rfl) (hval 0 59 v0 rfl rfl) h0
    simp only [Rows.uptoBulk, Rows.uptoBulkAll] at hB
    obtain ⟨A0, c0, z0, e0, a0, b0, g0⟩ := open_bytes_u Try.underlying24 Try.underlying5 (by kernel_rfl) t0 (by omega)
    simp at e0
    subst e0
    obtain ⟨A1, c1, z1, e1, a1, b1, g1⟩ := open_bytes_u Try.underlying24 Try.underlying5 (by kernel_rfl) t1 (by omega)
    simp at e1
    subst e1
    obtain ⟨A2, c2, z2, e2, a2, b2, g2⟩ := open_bytes_u Try.underlying24 Try.underlying5 (by kernel_rfl) t2 (by omega)
    simp at e2
    subst e2
    obtain ⟨n3, e3, _, w3⟩ := DataW.trod_int Try.underlying5 t3
    simp at e3
    subst e3
    obtain ⟨n4, e4, _, w4⟩ := DataW.trod_int Try.underlying3 t4
    simp at e4
    subst e4
    obtain ⟨x, rfl⟩ := toE w3
    exact ⟨_, _, _, _, _, _, _, _, _, x, n4, rfl, a0, b0, g0, a1, b1, g1, a2, b2, g2, w4⟩
  clear hA0 hval0
  refine (walk W Aa ca xa Ab cb xb Ac cc xc x bl hra hla hca hrb hlb hcb hrc hlc hcc hwb).mono fun e W' ⟨he, bel⟩ => ?_
  subst he
  exact ⟨_, rfl, _, _, _, [], _, [], hW', trodAll_mk1 (shut_bool Try.underlying4 _), (trodAll_cons_mk (Below.trod laidOut (by kernel_rfl) (of_decide_eq_true (by kernel_rfl)) k0 bel lt0) trodAll_mk0), rfl, bel.frame _, fun h => by cases h⟩

theorem proved : Rows.PolyBezoutUptoSaid :=
  OpenClaim.holds_of_cond 14 Try.f14 rfl rfl rfl rfl rfl rfl rfl ⟨rfl, rfl, rfl, rfl, rfl⟩ rfl rfl rfl rfl rfl (by kernel_rfl) Try.func14 (by kernel_rfl)
    (of_decide_eq_true (by kernel_rfl)) (by unfold Func.isWrapper; first | (rw [if_pos (by decide +kernel)]; kernel_rfl) | (rw [if_neg (by decide +kernel)]; exact ⟨rfl, rfl⟩))
    (fun os started H enc _ F => lifted os started H enc F)
#print axioms proved
end Go.Proofs.Ytemnlcfabaocbaa.polyBezout
