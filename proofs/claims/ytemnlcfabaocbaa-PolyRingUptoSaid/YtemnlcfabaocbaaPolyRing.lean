/-
  The law 'PolyRing': for every input whose bulk is at most 1048576 it returns true and leaves its arguments as they were. The frame is after the kit's shell; the walk is ours. No further condition.
-/
import Derived.Test.YtemnlcfabaocbaaRows
import Derived.Test.YtemnlcfabaocbaaOpenU
import Derived.Test.YtemnlcfabaocbaaLaw3
import Derived.Test.YtemnlcfabaocbaaOpen
import Derived.WalkKit
import Derived.ProofKit
import Derived.OpenShut
import Derived.ShutString
import Derived.ChangeOld
import Derived.Below
namespace Go.Proofs.Ytemnlcfabaocbaa.polyRing
open Go.ChangeShapes Go.WideShapes Go.ChangeAt Go.RowKit
set_option linter.unusedVariables false
open Gf

theorem own : ownKnob Try.prog.godebug = none := by kernel_rfl
theorem laidOut : laidOutB Try.prog = true := by kernel_rfl

set_option maxRecDepth 20000 in
set_option maxHeartbeats 8000000 in
theorem walk (w : World) (Aa : Option Addr) (ca : Nat) (xa : List E) (Ab : Option Addr) (cb : Nat) (xb : List E) (Ac : Option Addr) (cc : Nat) (xc : List E) (x : E) (bl : Int) (hra : Rd w Aa (bs xa)) (hla : xa.length ≤ ca) (hca : ca ≤ 1048576) (hrb : Rd w Ab (bs xb)) (hlb : xb.length ≤ cb) (hcb : cb ≤ 1048576) (hrc : Rd w Ac (bs xc)) (hlc : xc.length ≤ cc) (hcc : cc ≤ 1048576) (hwb : (Lit.int .i64 bl).wf = true) :
    Calls Try.prog 10 #[.agg #[.slice Aa xa.length ca, .slice Ab xb.length cb, .slice Ac xc.length cc, .int .u8 (x.val : Int), .int .i64 bl]] w fun e w' => e = .returned (.bool true) ∧ Below w.heap.size w w' := by
  obtain ⟨wb, hwb⟩ : ∃ wb, wb = w.alloc (.cells #[.slice Aa xa.length ca, .slice Ab xb.length cb, .slice Ac xc.length cc, .int .u8 (x.val : Int), .int .i64 bl] 59) := ⟨_, rfl⟩
  have hblk : Blk wb w.heap.size 59 #[.slice Aa xa.length ca, .slice Ab xb.length cb, .slice Ac xc.length cc, .int .u8 (x.val : Int), .int .i64 bl] := by rw [hwb]; exact Blk.new _ _ _
  replace hra : Rd wb Aa (bs xa) := by rw [hwb]; exact hra.alloc _
  replace hrb : Rd wb Ab (bs xb) := by rw [hwb]; exact hrb.alloc _
  replace hrc : Rd wb Ac (bs xc) := by rw [hwb]; exact hrc.alloc _
  have hxb : Ext w wb := by rw [hwb]; exact (Ext.refl w).alloc _
  have hxl := x.lt
  go_enter Try.func10, Try.ntmps10
  go_wp2_with fail
  rw [← hwb]
  clear hwb
  refine (awake_any _).mono ?_
  rintro e w1 ⟨rfl, y1⟩
  have q0 : World.cell? w1 ⟨w.heap.size, 0, none⟩ = some (.slice Aa xa.length ca) := (hblk.below y1 hblk.lt).cell 0
  go_wp2_with fail
  refine (elems_n Aa _ xa ca _ rfl (hra.ext y1) (by omega)).mono ?_
  rintro e w2 ⟨v, rfl, ho, hx⟩
  obtain ⟨A2, k2, rfl, hr1002, hc1002, hm1002⟩ := ho.bytesN rfl
  simp only [maxLen] at hm1002
  clear ho
  have y2 := y1.trans hx
  clear hx
  clear q0
  have q1 : World.cell? w2 ⟨w.heap.size, 1, none⟩ = some (.slice Ab xb.length cb) := (hblk.below y2 hblk.lt).cell 1
  go_wp2_with fail
  refine (elems_n Ab _ xb cb _ rfl (hrb.ext y2) (by omega)).mono ?_
  rintro e w3 ⟨v, rfl, ho, hx⟩
  obtain ⟨A3, k3, rfl, hr1003, hc1003, hm1003⟩ := ho.bytesN rfl
  simp only [maxLen] at hm1003
  clear ho
  replace hr1002 := hr1002.ext hx
  have y3 := y2.trans hx
  clear hx
  clear q1
  have q2 : World.cell? w3 ⟨w.heap.size, 2, none⟩ = some (.slice Ac xc.length cc) := (hblk.below y3 hblk.lt).cell 2
  go_wp2_with fail
  refine (elems_n Ac _ xc cc _ rfl (hrc.ext y3) (by omega)).mono ?_
  rintro e w4 ⟨v, rfl, ho, hx⟩
  obtain ⟨A4, k4, rfl, hr1004, hc1004, hm1004⟩ := ho.bytesN rfl
  simp only [maxLen] at hm1004
  clear ho
  replace hr1002 := hr1002.ext hx
  replace hr1003 := hr1003.ext hx
  have y4 := y3.trans hx
  clear hx
  clear q2
  have q3 : World.cell? w4 ⟨w.heap.size, 3, none⟩ = some (.int .u8 (x.val : Int)) := (hblk.below y4 hblk.lt).cell 3
  go_wp2_with fail
  refine (polyPlus_n A2 A3 _ _ k2 k3 (xa) (xb) _ rfl rfl hr1002 hr1003 (by omega) (by omega)).mono ?_
  rintro e w5 ⟨v, rfl, ho, hx⟩
  obtain ⟨A5, k5, rfl, hr1005, hc1005, hm1005⟩ := ho.bytesN rfl
  simp only [maxLen] at hm1005
  clear ho
  have b5 := plusL_le (xa) (xb)
  replace hr1002 := hr1002.ext hx
  replace hr1003 := hr1003.ext hx
  replace hr1004 := hr1004.ext hx
  have y5 := y4.trans hx
  clear hx
  go_wp2_with fail
  refine (polyPlus_n A3 A2 _ _ k3 k2 (xb) (xa) _ rfl rfl hr1003 hr1002 (by omega) (by omega)).mono ?_
  rintro e w6 ⟨v, rfl, ho, hx⟩
  rw [plusL_comm xa xb] at ho
  obtain ⟨A6, k6, rfl, hr1006, hc1006, hm1006⟩ := ho.bytesN rfl
  simp only [maxLen] at hm1006
  clear ho
  have b6 := plusL_le (xb) (xa)
  replace hr1002 := hr1002.ext hx
  replace hr1003 := hr1003.ext hx
  replace hr1004 := hr1004.ext hx
  replace hr1005 := hr1005.ext hx
  have y6 := y5.trans hx
  clear hx
  go_wp2_with fail
  refine (equal_n A5 A6 _ _ (plusL (xa) (xb)) k5 k6 _ rfl rfl hr1005 hr1006 (by omega)).mono ?_
  rintro e w7 ⟨rfl, hx⟩
  replace hr1002 := hr1002.ext hx
  replace hr1003 := hr1003.ext hx
  replace hr1004 := hr1004.ext hx
  have y7 := y6.trans hx
  clear hx hr1005 hr1006
  clear q3
  go_wp2_with fail
  refine (polyTimes_n A2 A3 _ _ k2 k3 (xa) (xb) _ rfl rfl hr1002 hr1003 (by omega)).mono ?_
  rintro e w8 ⟨v, rfl, ho, hx⟩
  obtain ⟨A8, k8, rfl, hr1008, hc1008, hm1008⟩ := ho.bytesN rfl
  simp only [maxLen] at hm1008
  clear ho
  have b8 := timesL_le (xa) (xb)
  replace hr1002 := hr1002.ext hx
  replace hr1003 := hr1003.ext hx
  replace hr1004 := hr1004.ext hx
  have y8 := y7.trans hx
  clear hx
  go_wp2_with fail
  refine (polyTimes_n A3 A2 _ _ k3 k2 (xb) (xa) _ rfl rfl hr1003 hr1002 (by omega)).mono ?_
  rintro e w9 ⟨v, rfl, ho, hx⟩
  rw [timesL_comm xa xb] at ho
  obtain ⟨A9, k9, rfl, hr1009, hc1009, hm1009⟩ := ho.bytesN rfl
  simp only [maxLen] at hm1009
  clear ho
  have b9 := timesL_le (xb) (xa)
  replace hr1002 := hr1002.ext hx
  replace hr1003 := hr1003.ext hx
  replace hr1004 := hr1004.ext hx
  replace hr1008 := hr1008.ext hx
  have y9 := y8.trans hx
  clear hx
  go_wp2_with fail
  refine (equal_n A8 A9 _ _ (timesL (xa) (xb)) k8 k9 _ rfl rfl hr1008 hr1009 (by omega)).mono ?_
  rintro e w10 ⟨rfl, hx⟩
  replace hr1002 := hr1002.ext hx
  replace hr1003 := hr1003.ext hx
  replace hr1004 := hr1004.ext hx
  have y10 := y9.trans hx
  clear hx hr1008 hr1009
  go_wp2_with fail
  refine (polyPlus_n A2 A3 _ _ k2 k3 (xa) (xb) _ rfl rfl hr1002 hr1003 (by omega) (by omega)).mono ?_
  rintro e w11 ⟨v, rfl, ho, hx⟩
  obtain ⟨A11, k11, rfl, hr1011, hc1011, hm1011⟩ := ho.bytesN rfl
  simp only [maxLen] at hm1011
  clear ho
  have b11 := plusL_le (xa) (xb)
  replace hr1002 := hr1002.ext hx
  replace hr1003 := hr1003.ext hx
  replace hr1004 := hr1004.ext hx
  have y11 := y10.trans hx
  clear hx
  go_wp2_with fail
  refine (polyPlus_n A11 A4 _ _ k11 k4 (plusL (xa) (xb)) (xc) _ rfl rfl hr1011 hr1004 (by omega) (by omega)).mono ?_
  rintro e w12 ⟨v, rfl, ho, hx⟩
  obtain ⟨A12, k12, rfl, hr1012, hc1012, hm1012⟩ := ho.bytesN rfl
  simp only [maxLen] at hm1012
  clear ho
  have b12 := plusL_le (plusL (xa) (xb)) (xc)
  replace hr1002 := hr1002.ext hx
  replace hr1003 := hr1003.ext hx
  replace hr1004 := hr1004.ext hx
  have y12 := y11.trans hx
  clear hx hr1011
  go_wp2_with fail
  refine (polyPlus_n A3 A4 _ _ k3 k4 (xb) (xc) _ rfl rfl hr1003 hr1004 (by omega) (by omega)).mono ?_
  rintro e w13 ⟨v, rfl, ho, hx⟩
  obtain ⟨A13, k13, rfl, hr1013, hc1013, hm1013⟩ := ho.bytesN rfl
  simp only [maxLen] at hm1013
  clear ho
  have b13 := plusL_le (xb) (xc)
  replace hr1002 := hr1002.ext hx
  replace hr1003 := hr1003.ext hx
  replace hr1004 := hr1004.ext hx
  replace hr1012 := hr1012.ext hx
  have y13 := y12.trans hx
  clear hx
  go_wp2_with fail
  refine (polyPlus_n A2 A13 _ _ k2 k13 (xa) (plusL (xb) (xc)) _ rfl rfl hr1002 hr1013 (by omega) (by omega)).mono ?_
  rintro e w14 ⟨v, rfl, ho, hx⟩
  rw [plusL_assoc xa xb xc] at ho
  obtain ⟨A14, k14, rfl, hr1014, hc1014, hm1014⟩ := ho.bytesN rfl
  simp only [maxLen] at hm1014
  clear ho
  have b14 := plusL_le (xa) (plusL (xb) (xc))
  replace hr1002 := hr1002.ext hx
  replace hr1003 := hr1003.ext hx
  replace hr1004 := hr1004.ext hx
  replace hr1012 := hr1012.ext hx
  have y14 := y13.trans hx
  clear hx hr1013
  go_wp2_with fail
  refine (equal_n A12 A14 _ _ (plusL (plusL (xa) (xb)) (xc)) k12 k14 _ rfl rfl hr1012 hr1014 (by omega)).mono ?_
  rintro e w15 ⟨rfl, hx⟩
  replace hr1002 := hr1002.ext hx
  replace hr1003 := hr1003.ext hx
  replace hr1004 := hr1004.ext hx
  have y15 := y14.trans hx
  clear hx hr1012 hr1014
  go_wp2_with fail
  refine (polyTimes_n A2 A3 _ _ k2 k3 (xa) (xb) _ rfl rfl hr1002 hr1003 (by omega)).mono ?_
  rintro e w16 ⟨v, rfl, ho, hx⟩
  obtain ⟨A16, k16, rfl, hr1016, hc1016, hm1016⟩ := ho.bytesN rfl
  simp only [maxLen] at hm1016
  clear ho
  have b16 := timesL_le (xa) (xb)
  replace hr1002 := hr1002.ext hx
  replace hr1003 := hr1003.ext hx
  replace hr1004 := hr1004.ext hx
  have y16 := y15.trans hx
  clear hx
  go_wp2_with fail
  refine (polyTimes_n A16 A4 _ _ k16 k4 (timesL (xa) (xb)) (xc) _ rfl rfl hr1016 hr1004 (by omega)).mono ?_
  rintro e w17 ⟨v, rfl, ho, hx⟩
  obtain ⟨A17, k17, rfl, hr1017, hc1017, hm1017⟩ := ho.bytesN rfl
  simp only [maxLen] at hm1017
  clear ho
  have b17 := timesL_le (timesL (xa) (xb)) (xc)
  replace hr1002 := hr1002.ext hx
  replace hr1003 := hr1003.ext hx
  replace hr1004 := hr1004.ext hx
  have y17 := y16.trans hx
  clear hx hr1016
  go_wp2_with fail
  refine (polyTimes_n A3 A4 _ _ k3 k4 (xb) (xc) _ rfl rfl hr1003 hr1004 (by omega)).mono ?_
  rintro e w18 ⟨v, rfl, ho, hx⟩
  obtain ⟨A18, k18, rfl, hr1018, hc1018, hm1018⟩ := ho.bytesN rfl
  simp only [maxLen] at hm1018
  clear ho
  have b18 := timesL_le (xb) (xc)
  replace hr1002 := hr1002.ext hx
  replace hr1003 := hr1003.ext hx
  replace hr1004 := hr1004.ext hx
  replace hr1017 := hr1017.ext hx
  have y18 := y17.trans hx
  clear hx
  go_wp2_with fail
  refine (polyTimes_n A2 A18 _ _ k2 k18 (xa) (timesL (xb) (xc)) _ rfl rfl hr1002 hr1018 (by omega)).mono ?_
  rintro e w19 ⟨v, rfl, ho, hx⟩
  rw [timesL_assoc xa xb xc] at ho
  obtain ⟨A19, k19, rfl, hr1019, hc1019, hm1019⟩ := ho.bytesN rfl
  simp only [maxLen] at hm1019
  clear ho
  have b19 := timesL_le (xa) (timesL (xb) (xc))
  replace hr1002 := hr1002.ext hx
  replace hr1003 := hr1003.ext hx
  replace hr1004 := hr1004.ext hx
  replace hr1017 := hr1017.ext hx
  have y19 := y18.trans hx
  clear hx hr1018
  go_wp2_with fail
  refine (equal_n A17 A19 _ _ (timesL (timesL (xa) (xb)) (xc)) k17 k19 _ rfl rfl hr1017 hr1019 (by omega)).mono ?_
  rintro e w20 ⟨rfl, hx⟩
  replace hr1002 := hr1002.ext hx
  replace hr1003 := hr1003.ext hx
  replace hr1004 := hr1004.ext hx
  have y20 := y19.trans hx
  clear hx hr1017 hr1019
  go_wp2_with fail
  refine (polyPlus_n A3 A4 _ _ k3 k4 (xb) (xc) _ rfl rfl hr1003 hr1004 (by omega) (by omega)).mono ?_
  rintro e w21 ⟨v, rfl, ho, hx⟩
  obtain ⟨A21, k21, rfl, hr1021, hc1021, hm1021⟩ := ho.bytesN rfl
  simp only [maxLen] at hm1021
  clear ho
  have b21 := plusL_le (xb) (xc)
  replace hr1002 := hr1002.ext hx
  replace hr1003 := hr1003.ext hx
  replace hr1004 := hr1004.ext hx
  have y21 := y20.trans hx
  clear hx
  go_wp2_with fail
  refine (polyTimes_n A2 A21 _ _ k2 k21 (xa) (plusL (xb) (xc)) _ rfl rfl hr1002 hr1021 (by omega)).mono ?_
  rintro e w22 ⟨v, rfl, ho, hx⟩
  obtain ⟨A22, k22, rfl, hr1022, hc1022, hm1022⟩ := ho.bytesN rfl
  simp only [maxLen] at hm1022
  clear ho
  have b22 := timesL_le (xa) (plusL (xb) (xc))
  replace hr1002 := hr1002.ext hx
  replace hr1003 := hr1003.ext hx
  replace hr1004 := hr1004.ext hx
  have y22 := y21.trans hx
  clear hx hr1021
  go_wp2_with fail
  refine (polyTimes_n A2 A3 _ _ k2 k3 (xa) (xb) _ rfl rfl hr1002 hr1003 (by omega)).mono ?_
  rintro e w23 ⟨v, rfl, ho, hx⟩
  obtain ⟨A23, k23, rfl, hr1023, hc1023, hm1023⟩ := ho.bytesN rfl
  simp only [maxLen] at hm1023
  clear ho
  have b23 := timesL_le (xa) (xb)
  replace hr1002 := hr1002.ext hx
  replace hr1003 := hr1003.ext hx
  replace hr1004 := hr1004.ext hx
  replace hr1022 := hr1022.ext hx
  have y23 := y22.trans hx
  clear hx
  go_wp2_with fail
  refine (polyTimes_n A2 A4 _ _ k2 k4 (xa) (xc) _ rfl rfl hr1002 hr1004 (by omega)).mono ?_
  rintro e w24 ⟨v, rfl, ho, hx⟩
  obtain ⟨A24, k24, rfl, hr1024, hc1024, hm1024⟩ := ho.bytesN rfl
  simp only [maxLen] at hm1024
  clear ho
  have b24 := timesL_le (xa) (xc)
  replace hr1002 := hr1002.ext hx
  replace hr1003 := hr1003.ext hx
  replace hr1004 := hr1004.ext hx
  replace hr1022 := hr1022.ext hx
  replace hr1023 := hr1023.ext hx
  have y24 := y23.trans hx
  clear hx
  go_wp2_with fail
  refine (polyPlus_n A23 A24 _ _ k23 k24 (timesL (xa) (xb)) (timesL (xa) (xc)) _ rfl rfl hr1023 hr1024 (by omega) (by omega)).mono ?_
  rintro e w25 ⟨v, rfl, ho, hx⟩
  rw [timesL_plus xa xb xc] at ho
  obtain ⟨A25, k25, rfl, hr1025, hc1025, hm1025⟩ := ho.bytesN rfl
  simp only [maxLen] at hm1025
  clear ho
  have b25 := plusL_le (timesL (xa) (xb)) (timesL (xa) (xc))
  replace hr1002 := hr1002.ext hx
  replace hr1003 := hr1003.ext hx
  replace hr1004 := hr1004.ext hx
  replace hr1022 := hr1022.ext hx
  have y25 := y24.trans hx
  clear hx hr1023 hr1024
  go_wp2_with fail
  refine (equal_n A22 A25 _ _ (timesL (xa) (plusL (xb) (xc))) k22 k25 _ rfl rfl hr1022 hr1025 (by omega)).mono ?_
  rintro e w26 ⟨rfl, hx⟩
  replace hr1002 := hr1002.ext hx
  replace hr1003 := hr1003.ext hx
  replace hr1004 := hr1004.ext hx
  have y26 := y25.trans hx
  clear hx hr1022 hr1025
  go_wp2_with fail
  refine (polyPlus_n A2 A2 _ _ k2 k2 (xa) (xa) _ rfl rfl hr1002 hr1002 (by omega) (by omega)).mono ?_
  rintro e w27 ⟨v, rfl, ho, hx⟩
  rw [plusL_self xa] at ho
  obtain ⟨A27, k27, rfl, hr1027, hc1027, hm1027⟩ := ho.bytesN rfl
  simp only [maxLen] at hm1027
  clear ho
  have b27 := plusL_le (xa) (xa)
  replace hr1002 := hr1002.ext hx
  replace hr1003 := hr1003.ext hx
  replace hr1004 := hr1004.ext hx
  have y27 := y26.trans hx
  clear hx
  clear hr1027
  go_wp2_with fail
  refine (polyPlus_n A2 A3 _ _ k2 k3 (xa) (xb) _ rfl rfl hr1002 hr1003 (by omega) (by omega)).mono ?_
  rintro e w28 ⟨v, rfl, ho, hx⟩
  obtain ⟨A28, k28, rfl, hr1028, hc1028, hm1028⟩ := ho.bytesN rfl
  simp only [maxLen] at hm1028
  clear ho
  have b28 := plusL_le (xa) (xb)
  replace hr1002 := hr1002.ext hx
  replace hr1003 := hr1003.ext hx
  replace hr1004 := hr1004.ext hx
  have y28 := y27.trans hx
  clear hx
  go_wp2_with fail
  refine (trimmed_n A28 _ (plusL (xa) (xb)) k28 _ rfl hr1028 (by omega) (trimmed_plusL _ _)).mono ?_
  rintro e w' ⟨rfl, rfl⟩
  clear hr1028
  go_wp2_with fail
  refine (polyTimes_n A2 A3 _ _ k2 k3 (xa) (xb) _ rfl rfl hr1002 hr1003 (by omega)).mono ?_
  rintro e w29 ⟨v, rfl, ho, hx⟩
  obtain ⟨A29, k29, rfl, hr1029, hc1029, hm1029⟩ := ho.bytesN rfl
  simp only [maxLen] at hm1029
  clear ho
  have b29 := timesL_le (xa) (xb)
  replace hr1002 := hr1002.ext hx
  replace hr1003 := hr1003.ext hx
  replace hr1004 := hr1004.ext hx
  have y29 := y28.trans hx
  clear hx
  go_wp2_with fail
  refine (trimmed_n A29 _ (timesL (xa) (xb)) k29 _ rfl hr1029 (by omega) (trimmed_timesL _ _)).mono ?_
  rintro e w' ⟨rfl, rfl⟩
  clear hr1029
  go_wp2_with fail
  refine (polyScale_n A2 _ k2 (xa) x _ rfl hr1002 (by omega)).mono ?_
  rintro e w30 ⟨v, rfl, ho, hx⟩
  obtain ⟨A30, k30, rfl, hr1030, hc1030, hm1030⟩ := ho.bytesN rfl
  simp only [maxLen] at hm1030
  clear ho
  have b30 := scaleL_le (xa) x
  replace hr1002 := hr1002.ext hx
  replace hr1003 := hr1003.ext hx
  replace hr1004 := hr1004.ext hx
  have y30 := y29.trans hx
  clear hx
  go_wp2_with fail
  refine (trimmed_n A30 _ (scaleL (xa) x) k30 _ rfl hr1030 (by omega) (trimmed_scaleL _ _)).mono ?_
  rintro e w' ⟨rfl, rfl⟩
  clear hr1030
  go_wp2_with fail
  refine (polyAt_n A2 _ k2 (xa) x _ rfl hr1002 (by simp only [maxLen]; omega)).mono ?_
  rintro e w31 ⟨rfl, hx⟩
  replace hr1002 := hr1002.ext hx
  replace hr1003 := hr1003.ext hx
  replace hr1004 := hr1004.ext hx
  have y31 := y30.trans hx
  clear hx
  go_wp2_with fail
  refine (polyAt_n A3 _ k3 (xb) x _ rfl hr1003 (by simp only [maxLen]; omega)).mono ?_
  rintro e w32 ⟨rfl, hx⟩
  replace hr1002 := hr1002.ext hx
  replace hr1003 := hr1003.ext hx
  replace hr1004 := hr1004.ext hx
  have y32 := y31.trans hx
  clear hx
  obtain ⟨u, hu⟩ : ∃ u, u = evL xa x := ⟨_, rfl⟩
  obtain ⟨v, hv⟩ : ∃ v, v = evL xb x := ⟨_, rfl⟩
  have HU := Lib.hid hu
  have HV := Lib.hid hv
  rw [← hu, ← hv]
  clear hu hv
  go_wp2_with (first | (go_at_call 57; with_reducible refine (plus_any _ _ _).mono ?_; rintro e w' ⟨rfl, rfl⟩) | (go_at_call 58; with_reducible refine (times_any _ _ _).mono ?_; rintro e w' ⟨rfl, rfl⟩))
  refine (polyPlus_n A2 A3 _ _ k2 k3 (xa) (xb) _ rfl rfl hr1002 hr1003 (by omega) (by omega)).mono ?_
  rintro e w33 ⟨v, rfl, ho, hx⟩
  obtain ⟨A33, k33, rfl, hr1033, hc1033, hm1033⟩ := ho.bytesN rfl
  simp only [maxLen] at hm1033
  clear ho
  have b33 := plusL_le (xa) (xb)
  replace hr1002 := hr1002.ext hx
  replace hr1003 := hr1003.ext hx
  replace hr1004 := hr1004.ext hx
  have y33 := y32.trans hx
  clear hx
  go_wp2_with (first | (go_at_call 57; with_reducible refine (plus_any _ _ _).mono ?_; rintro e w' ⟨rfl, rfl⟩) | (go_at_call 58; with_reducible refine (times_any _ _ _).mono ?_; rintro e w' ⟨rfl, rfl⟩))
  refine (polyAt_n A33 _ k33 (plusL (xa) (xb)) x _ rfl hr1033 (by simp only [maxLen]; omega)).mono ?_
  rintro e w34 ⟨rfl, hx⟩
  replace hr1002 := hr1002.ext hx
  replace hr1003 := hr1003.ext hx
  replace hr1004 := hr1004.ext hx
  have y34 := y33.trans hx
  clear hx hr1033
  rw [evL_plus, ← HU.out, ← HV.out]
  go_wp2_with (first | (go_at_call 57; with_reducible refine (plus_any _ _ _).mono ?_; rintro e w' ⟨rfl, rfl⟩) | (go_at_call 58; with_reducible refine (times_any _ _ _).mono ?_; rintro e w' ⟨rfl, rfl⟩))
  refine (polyTimes_n A2 A3 _ _ k2 k3 (xa) (xb) _ rfl rfl hr1002 hr1003 (by omega)).mono ?_
  rintro e w35 ⟨v, rfl, ho, hx⟩
  obtain ⟨A35, k35, rfl, hr1035, hc1035, hm1035⟩ := ho.bytesN rfl
  simp only [maxLen] at hm1035
  clear ho
  have b35 := timesL_le (xa) (xb)
  replace hr1002 := hr1002.ext hx
  replace hr1003 := hr1003.ext hx
  replace hr1004 := hr1004.ext hx
  have y35 := y34.trans hx
  clear hx
  go_wp2_with (first | (go_at_call 57; with_reducible refine (plus_any _ _ _).mono ?_; rintro e w' ⟨rfl, rfl⟩) | (go_at_call 58; with_reducible refine (times_any _ _ _).mono ?_; rintro e w' ⟨rfl, rfl⟩))
  refine (polyAt_n A35 _ k35 (timesL (xa) (xb)) x _ rfl hr1035 (by simp only [maxLen]; omega)).mono ?_
  rintro e w36 ⟨rfl, hx⟩
  replace hr1002 := hr1002.ext hx
  replace hr1003 := hr1003.ext hx
  replace hr1004 := hr1004.ext hx
  have y36 := y35.trans hx
  clear hx hr1035
  rw [evL_times, ← HU.out, ← HV.out]
  go_wp2_with (first | (go_at_call 57; with_reducible refine (plus_any _ _ _).mono ?_; rintro e w' ⟨rfl, rfl⟩) | (go_at_call 58; with_reducible refine (times_any _ _ _).mono ?_; rintro e w' ⟨rfl, rfl⟩))
  refine (polyScale_n A2 _ k2 (xa) v _ rfl hr1002 (by omega)).mono ?_
  rintro e w37 ⟨v, rfl, ho, hx⟩
  obtain ⟨A37, k37, rfl, hr1037, hc1037, hm1037⟩ := ho.bytesN rfl
  simp only [maxLen] at hm1037
  clear ho
  have b37 := scaleL_le (xa) v
  replace hr1002 := hr1002.ext hx
  replace hr1003 := hr1003.ext hx
  replace hr1004 := hr1004.ext hx
  have y37 := y36.trans hx
  clear hx
  go_wp2_with (first | (go_at_call 57; with_reducible refine (plus_any _ _ _).mono ?_; rintro e w' ⟨rfl, rfl⟩) | (go_at_call 58; with_reducible refine (times_any _ _ _).mono ?_; rintro e w' ⟨rfl, rfl⟩))
  refine (polyAt_n A37 _ k37 (scaleL (xa) v) x _ rfl hr1037 (by simp only [maxLen]; omega)).mono ?_
  rintro e w38 ⟨rfl, hx⟩
  replace hr1002 := hr1002.ext hx
  replace hr1003 := hr1003.ext hx
  replace hr1004 := hr1004.ext hx
  have y38 := y37.trans hx
  clear hx hr1037
  rw [evL_scale, ← HU.out, E.mul_comm v u]
  have HA := dg_le xa
  have HB := dg_le xb
  rcases Nat.eq_zero_or_pos (dg xa) with h0 | h0
  · have HT := Lib.hid (dg_times_zero (p := xa) (q := xb) (.inl h0))
    obtain ⟨z, hz⟩ : ∃ z : Int, (dg xb : Int) - 1 = z := ⟨_, rfl⟩
    have hzl : z ≤ 1048576 := by omega
    have hzl2 : -1 ≤ z := by omega
    go_wp2_with (first | (go_at_call 57; with_reducible refine (plus_any _ _ _).mono ?_; rintro e w' ⟨rfl, rfl⟩) | (go_at_call 58; with_reducible refine (times_any _ _ _).mono ?_; rintro e w' ⟨rfl, rfl⟩))
    refine (degree_n A2 _ (xa) k2 _ rfl hr1002 (by omega)).mono ?_
    rintro e w' ⟨rfl, rfl⟩
    rw [h0]
    go_wp2_with fail
    refine (degree_n A3 _ (xb) k3 _ rfl hr1003 (by omega)).mono ?_
    rintro e w' ⟨rfl, rfl⟩
    rw [hz]
    go_wp2_with fail
    refine (polyTimes_n A2 A3 _ _ k2 k3 (xa) (xb) _ rfl rfl hr1002 hr1003 (by omega)).mono ?_
    rintro e w39 ⟨v, rfl, ho, hx⟩
    obtain ⟨A39, k39, rfl, hr1039, hc1039, hm1039⟩ := ho.bytesN rfl
    simp only [maxLen] at hm1039
    clear ho
    have b39 := timesL_le (xa) (xb)
    replace hr1002 := hr1002.ext hx
    replace hr1003 := hr1003.ext hx
    replace hr1004 := hr1004.ext hx
    have y39 := y38.trans hx
    clear hx
    go_wp2_with fail
    refine (degree_n A39 _ (timesL (xa) (xb)) k39 _ rfl hr1039 (by omega)).mono ?_
    rintro e w' ⟨rfl, rfl⟩
    rw [HT.out]
    go_wp2
    go_ret
    exact ⟨rfl, hxb.trans y39⟩
  · rcases Nat.eq_zero_or_pos (dg xb) with h1 | h1
    · have HT := Lib.hid (dg_times_zero (p := xa) (q := xb) (.inr h1))
      obtain ⟨d, hd⟩ : ∃ d, dg xa = d + 1 := ⟨dg xa - 1, by omega⟩
      have hdi : (dg xa : Int) - 1 = (d : Int) := by omega
      go_wp2_with (first | (go_at_call 57; with_reducible refine (plus_any _ _ _).mono ?_; rintro e w' ⟨rfl, rfl⟩) | (go_at_call 58; with_reducible refine (times_any _ _ _).mono ?_; rintro e w' ⟨rfl, rfl⟩))
      refine (degree_n A2 _ (xa) k2 _ rfl hr1002 (by omega)).mono ?_
      rintro e w' ⟨rfl, rfl⟩
      rw [hdi]
      go_wp2_with fail
      refine (degree_n A3 _ (xb) k3 _ rfl hr1003 (by omega)).mono ?_
      rintro e w' ⟨rfl, rfl⟩
      rw [h1]
      go_wp2_with fail
      refine (polyTimes_n A2 A3 _ _ k2 k3 (xa) (xb) _ rfl rfl hr1002 hr1003 (by omega)).mono ?_
      rintro e w39 ⟨v, rfl, ho, hx⟩
      obtain ⟨A39, k39, rfl, hr1039, hc1039, hm1039⟩ := ho.bytesN rfl
      simp only [maxLen] at hm1039
      clear ho
      have b39 := timesL_le (xa) (xb)
      replace hr1002 := hr1002.ext hx
      replace hr1003 := hr1003.ext hx
      replace hr1004 := hr1004.ext hx
      have y39 := y38.trans hx
      clear hx
      go_wp2_with fail
      refine (degree_n A39 _ (timesL (xa) (xb)) k39 _ rfl hr1039 (by omega)).mono ?_
      rintro e w' ⟨rfl, rfl⟩
      rw [HT.out]
      go_wp2
      go_ret
      exact ⟨rfl, hxb.trans y39⟩
    · obtain ⟨d, hd⟩ : ∃ d, dg xa = d + 1 := ⟨dg xa - 1, by omega⟩
      have hdi : (dg xa : Int) - 1 = (d : Int) := by omega
      obtain ⟨e', he⟩ : ∃ e', dg xb = e' + 1 := ⟨dg xb - 1, by omega⟩
      have hei : (dg xb : Int) - 1 = (e' : Int) := by omega
      have HT := Lib.hid (show (dg (timesL xa xb) : Int) - 1 = (d : Int) + (e' : Int) by rw [dg_times hd he]; omega)
      go_wp2_with (first | (go_at_call 57; with_reducible refine (plus_any _ _ _).mono ?_; rintro e w' ⟨rfl, rfl⟩) | (go_at_call 58; with_reducible refine (times_any _ _ _).mono ?_; rintro e w' ⟨rfl, rfl⟩))
      refine (degree_n A2 _ (xa) k2 _ rfl hr1002 (by omega)).mono ?_
      rintro e w' ⟨rfl, rfl⟩
      rw [hdi]
      go_wp2_with fail
      refine (degree_n A3 _ (xb) k3 _ rfl hr1003 (by omega)).mono ?_
      rintro e w' ⟨rfl, rfl⟩
      rw [hei]
      go_wp2_with fail
      refine (polyTimes_n A2 A3 _ _ k2 k3 (xa) (xb) _ rfl rfl hr1002 hr1003 (by omega)).mono ?_
      rintro e w39 ⟨v, rfl, ho, hx⟩
      obtain ⟨A39, k39, rfl, hr1039, hc1039, hm1039⟩ := ho.bytesN rfl
      simp only [maxLen] at hm1039
      clear ho
      have b39 := timesL_le (xa) (xb)
      replace hr1002 := hr1002.ext hx
      replace hr1003 := hr1003.ext hx
      replace hr1004 := hr1004.ext hx
      have y39 := y38.trans hx
      clear hx
      go_wp2_with fail
      refine (degree_n A39 _ (timesL (xa) (xb)) k39 _ rfl hr1039 (by omega)).mono ?_
      rintro e w' ⟨rfl, rfl⟩
      rw [HT.out]
      go_wp2
      go_ret
      exact ⟨rfl, hxb.trans y39⟩

set_option maxRecDepth 100000 in
theorem lifted (os : Os) (started : os.Started) (H : Type) (enc : TypeId × Value → H) (F : Stop.Interp) :
    ReturnsInHanded {} Try.checked os 10 .any ((Rows.OpenSpec.upto Rows.polyRingSpec).pre6 enc Try.prog Try.f10 Rows.polyRingUptoRow.domain false) (((Rows.OpenSpec.upto Rows.polyRingSpec).at F).post enc Try.prog Try.f10 false true false false) := by
  refine returnsInHanded_of_cond_sized (C := Try.checked) (s := Rows.OpenSpec.upto Rows.polyRingSpec) (k := Rows.uptoSmall) rfl own started (by kernel_rfl) Try.func10
    (OpenSpec.witness (enc := enc) (C := Try.checked) (s := Rows.OpenSpec.upto Rows.polyRingSpec) (k := Rows.uptoSmall) rfl false ⟨#[], #[.agg #[.slice none 0 0, .slice none 0 0, .slice none 0 0, .int .u8 0, .int .i64 0]], []⟩ 8 (by kernel_rfl) (by kernel_rfl) (by kernel_rfl)
      (x := ([.agg [.nil, .nil, .nil, .lit (.int .u8 0), .lit (.int .i64 0)]], [], [])) (by kernel_rfl) rfl (by kernel_rfl)) ?_
  intro W base args ds gs before hval0 hW hcnd hk hsz0 _
  have hval : ∀ (j : Nat) t v, Try.f10.params[j]? = some t → args[j]? = some v → Value.okWide Try.prog W .any base t v := hval0
  have hsz : (DataW.weightsEach Try.prog (Try.f10.params.toList ++ Rows.polyRingSpec.plain.varTypes Try.prog) (ds ++ gs)).all (· ≤ reachBytes) = true := hsz0
  have hW' := hW
  obtain ⟨p, q, hA0, hV, rfl, hfz, hnd⟩ := hW
  have hA : DataW.TrodAll enc Try.prog W 0 (fun _ => true) true Try.f10.params.toList args.toList ds p := hA0
  rw [Try.params10] at hA hval hsz
  obtain ⟨v0, vs0, d0, ds0, p0, q0, hargs, rfl, rfl, h0, r0⟩ := trodAll_cons hA
  obtain ⟨rfl, rfl, rfl⟩ := trodAll_nil r0
  obtain rfl : args = #[v0] := by cases args; simp_all
  obtain ⟨rfl, rfl⟩ := trodVars_none hV
  have k0 := h0
  have lt0 : ∀ x ∈ p0, x.block < W.heap.size := by obtain ⟨m, hm⟩ := k0; exact DataW.trod_lt m _ _ _ hm
  obtain ⟨Aa, ca, xa, Ab, cb, xb, Ac, cc, xc, x, bl, rfl, hra, hla, hca, hrb, hlb, hcb, hrc, hlc, hcc, hwb⟩ : ∃ (Aa : Option Addr) (ca : Nat) (xa : List E) (Ab : Option Addr) (cb : Nat) (xb : List E) (Ac : Option Addr) (cc : Nat) (xc : List E) (x : E) (bl : Int), v0 = .agg #[.slice Aa xa.length ca, .slice Ab xb.length cb, .slice Ac xc.length cc, .int .u8 (x.val : Int), .int .i64 bl] ∧
      Rd W Aa (bs xa) ∧ xa.length ≤ ca ∧ ca ≤ 1048576 ∧ Rd W Ab (bs xb) ∧ xb.length ≤ cb ∧ cb ≤ 1048576 ∧ Rd W Ac (bs xc) ∧ xc.length ≤ cc ∧ cc ≤ 1048576 ∧ (Lit.int .i64 bl).wf = true := by
    have hB := bulk_bound hk (d := d0) (by simp)
    obtain ⟨u0, u1, u2, u3, u4, y0, y1, y2, y3, y4, n, rfl, rfl, t0, t1, t2, t3, t4⟩ := open_agg5 Try.underlying59 (by kernel_rfl) (by kernel_rfl) (hval 0 59 v0 rfl rfl) h0
    simp only [Rows.uptoBulk, Rows.uptoBulkAll] at hB
    obtain ⟨A0, c0, z0, e0, a0, b0, g0⟩ := open_bytes_u Try.underlying24 Try.underlying5 (by kernel_rfl) t0 (by omega)
    simp at e0
    subst e0
    obtain ⟨A1, c1, z1, e1, a1, b1, g1⟩ := open_bytes_u Try.underlying24 Try.underlying5 (by kernel_rfl) t1 (by omega)
    simp at e1
    subst e1
    obtain ⟨A2, c2, z2, e2, a2, b2, g2⟩ := open_bytes_u Try.underlying24 Try.underlying5 (by kernel_rfl) t2 (by omega)
    simp at e2
    subst e2
    obtain ⟨n3, e3, _, w3⟩ := DataW.trod_int Try.underlying5 t3
    simp at e3
    subst e3
    obtain ⟨n4, e4, _, w4⟩ := DataW.trod_int Try.underlying3 t4
    simp at e4
    subst e4
    obtain ⟨x, rfl⟩ := toE w3
    exact ⟨_, _, _, _, _, _, _, _, _, x, n4, rfl, a0, b0, g0, a1, b1, g1, a2, b2, g2, w4⟩
  clear hA0 hval0
  refine (walk W Aa ca xa Ab cb xb Ac cc xc x bl hra hla hca hrb hlb hcb hrc hlc hcc hwb).mono fun e W' ⟨he, bel⟩ => ?_
  subst he
  exact ⟨_, rfl, _, _, _, [], _, [], hW', trodAll_mk1 (shut_bool Try.underlying4 _), (trodAll_cons_mk (Below.trod laidOut (by kernel_rfl) (of_decide_eq_true (by kernel_rfl)) k0 bel lt0) trodAll_mk0), rfl, bel.frame _, fun h => by cases h⟩

theorem proved : Rows.PolyRingUptoSaid :=
  OpenClaim.holds_of_cond 10 Try.f10 rfl rfl rfl rfl rfl rfl rfl ⟨rfl, rfl, rfl, rfl, rfl⟩ rfl rfl rfl rfl rfl (by kernel_rfl) Try.func10 (by kernel_rfl)
    (of_decide_eq_true (by kernel_rfl)) (by unfold Func.isWrapper; first | (rw [if_pos (by decide +kernel)]; kernel_rfl) | (rw [if_neg (by decide +kernel)]; exact ⟨rfl, rfl⟩))
    (fun os started H enc _ F => lifted os started H enc F)
#print axioms proved
end Go.Proofs.Ytemnlcfabaocbaa.polyRing
