/-
  The law 'MendColumns': for every input whose bulk is at most 1048576 it returns true and leaves its arguments as they were. The frame is after the kit's shell; the walk is ours. No further condition.
-/
import Derived.Test.YtemnlcfabaocbaaRows
import Derived.Test.YtemnlcfabaocbaaOpenU
import Derived.Test.YtemnlcfabaocbaaOpenU2
import Derived.Test.YtemnlcfabaocbaaLaw5
import Derived.Test.YtemnlcfabaocbaaOpen
import Derived.WalkKit
import Derived.ProofKit
import Derived.OpenShut
import Derived.ShutString
import Derived.ChangeOld
import Derived.Below
namespace Go.Proofs.Ytemnlcfabaocbaa.mendColumns
open Go.ChangeShapes Go.WideShapes Go.ChangeAt Go.RowKit
set_option linter.unusedVariables false
open Gf

theorem own : ownKnob Try.prog.godebug = none := by kernel_rfl
theorem laidOut : laidOutB Try.prog = true := by kernel_rfl

set_option maxRecDepth 20000 in
set_option maxHeartbeats 8000000 in
theorem walk (w : World) (kk0 : Int) (Aw0 : Option Addr) (cw0 : Nat) (xw0 : List E) (Al0 : Option Addr) (cl0 : Nat) (xl0 : List Bool) (hwk0 : (Lit.int .i64 kk0).wf = true) (hrw0 : Rd w Aw0 (bs xw0)) (hlw0 : xw0.length ≤ cw0) (hcw0 : cw0 ≤ 1048576) (hrl0 : Rd w Al0 (bools xl0)) (hll0 : xl0.length ≤ cl0) (hcl0 : cl0 ≤ 1048576) :
    Calls Try.prog 16 #[.agg #[.int .i64 kk0, .slice Aw0 xw0.length cw0, .slice Al0 xl0.length cl0]] w fun e w' => e = .returned (.bool true) ∧ Below w.heap.size w w' := by
  have hmo : Try.prog.follows Departure.mixedOrders = true := by kernel_rfl
  obtain ⟨wb, hwb0⟩ : ∃ wb, wb = w.alloc (.cells #[.int .i64 kk0, .slice Aw0 xw0.length cw0, .slice Al0 xl0.length cl0] 69) := ⟨_, rfl⟩
  have BK : Hid (Blk wb w.heap.size 69 #[.int .i64 kk0, .slice Aw0 xw0.length cw0, .slice Al0 xl0.length cl0]) := Lib.hid (by rw [hwb0]; exact Blk.new _ _ _)
  have RW : Hid (Rd wb Aw0 (bs xw0)) := Lib.hid (by rw [hwb0]; exact hrw0.alloc _)
  have RL : Hid (Rd wb Al0 (bools xl0)) := Lib.hid (by rw [hwb0]; exact hrl0.alloc _)
  have Y : Hid (Ext w wb) := Lib.hid (by rw [hwb0]; exact (Ext.refl w).alloc _)
  have q0 : World.cell? wb ⟨w.heap.size, 0, none⟩ = some (.int .i64 kk0) := BK.out.cell 0
  have q1 : World.cell? wb ⟨w.heap.size, 1, none⟩ = some (.slice Aw0 xw0.length cw0) := BK.out.cell 1
  have q2 : World.cell? wb ⟨w.heap.size, 2, none⟩ = some (.slice Al0 xl0.length cl0) := BK.out.cell 2
  rw [hwb0] at q0 q1 q2
  clear hrw0 hrl0
  go_enter Try.func16, Try.ntmps16
  go_wp2_with fail
  rw [← hwb0]
  clear hwb0 q0 q1 q2
  refine (column5_all Aw0 Al0 _ _ cw0 cl0 kk0 xw0 xl0 _ rfl rfl RW.out RL.out (by omega) (by omega) hwk0).mono ?_
  rintro e w1 ⟨va, vb, out, bad, ee, rfl, hsp, hoa, hob, hx1⟩
  have hsm := hsp.small
  have SP := Lib.hid hsp
  obtain ⟨Av, cv, rfl, hrv, hcv, hmv⟩ := hoa.bytesN rfl
  obtain ⟨Ab, cb, rfl, hrb, hcb, hmb, -⟩ := hob.slice
  rw [ints_length]
  have RV := Lib.hid hrv
  have RB := Lib.hid hrb
  replace RW := Lib.hid (RW.out.ext hx1)
  replace RL := Lib.hid (RL.out.ext hx1)
  replace BK := Lib.hid (BK.out.below hx1 BK.out.lt)
  replace Y := Lib.hid (Y.out.trans hx1)
  obtain ⟨hs1, hs2, -⟩ := hsm
  clear hsp hoa hob hrv hrb hx1 hcv hmv hcb hmb
  go_wp2_with fail
  go_loopw [6, 7] (fun v i wr => ∃ (j : Nat) (V : Value), V = v ∧ j ≤ xw0.length ∧ i = .int .i64 j ∧ Ext w1 wr ∧ Own wr w1.heap.size 34 V (bs (xw0.take j))) (fun _ i _ => xw0.length - (intOf i).toNat)
  case atStart => exact ⟨0, _, rfl, by omega, rfl, Ext.refl _, Own.nil _ _ _⟩
  case round =>
    obtain ⟨W1, rfl⟩ : ∃ W, W = wr := ⟨_, rfl⟩
    obtain ⟨j, V, rfl, hj, rfl, hx, ho⟩ := hrel
    have q1 : World.cell? W1 ⟨w.heap.size, 1, none⟩ = some (.slice Aw0 xw0.length cw0) := (BK.out.below hx BK.out.lt).cell 1
    by_cases hlt : j < xw0.length
    · obtain ⟨ad, rfl, hck⟩ := (RW.out.ext hx).byte hlt
      have hle := hx.le
      have hbd : ((bs (xw0.take j)).length + 1) * 1 ≤ 140737488355328 := by have := bs_len_le xw0 j; omega
      have HSN := Lib.hid (bs_snoc xw0 j hlt)
      have hkl := (xw0[j]).lt
      have HX := Lib.hid hx
      have HO := Lib.hid ho
      clear hx ho
      go_wp2_with (at_builtin; refine wpList_push W1 eltEl rfl _ _ (by rfl) w1.heap.size V _ (by rfl) (by exact HO.out) (.int .u8 (xw0[j]).val) (by rfl) rfl hbd hle ?_; intro v' w' ho' _ hb' _)
      go_roundw
      case rel => exact ⟨j + 1, _, rfl, by omega, by go_num, Below.trans HX.out hb', by rw [HSN.out]; exact ho'⟩
      case measure => simp [intOf]; omega
    · obtain rfl : j = xw0.length := by omega
      have hta : xw0.take xw0.length = xw0 := List.take_length
      rw [hta] at ho
      have HO := Lib.hid ho
      have HX := Lib.hid hx
      have hle : w1.heap.size ≤ W1.heap.size := hx.le
      have hbd : ((bs xw0).length + 3) * 1 ≤ 140737488355328 := by rw [bs_length]; omega
      clear ho hx hta
      go_wp2_with (at_builtin; refine wpList_app (W1.alloc (.cells #[.int .u8 9, .int .u8 8, .int .u8 7] 34)) eltEl rfl _ _ (by rfl) w1.heap.size V _ (by rfl) (by exact HO.out.alloc _) (some ⟨W1.heap.size, 0, none⟩) 3 3 (bs [E.of 9, E.of 8, E.of 7]) (by rfl) (rd_lit W1 34 [E.of 9, E.of 8, E.of 7] (by simp)) rfl (bs_ones _) hbd (by simp; omega) ?_)
      intro v2 W2 ho2 hm2
      have hx2 : Ext w1 W2 := (HX.out.alloc _).below.trans (hm2.below (by simp; omega) fun g hg => (HO.out.lt g hg).1)
      rw [← bs_append] at ho2
      obtain ⟨nw, hnw⟩ : ∃ n, (xw0 ++ [E.of 9, E.of 8, E.of 7]).length = n := ⟨_, rfl⟩
      have hnw3 : nw = xw0.length + 3 := by rw [← hnw]; simp
      have hnwi : xw0.length + 3 ≤ nw ∧ nw ≤ xw0.length + 3 := by omega
      obtain ⟨gw, cw, rfl, -, -, hcw2, hcw3⟩ := ho2.some_ (fun e => by have := congrArg List.length e; rw [bs_length, hnw] at this; simp at this; omega)
      rw [bs_length, hnw] at ho2 hcw2 ⊢
      simp only [maxLen] at hcw3
      obtain ⟨hnw1, hnw2⟩ := hnwi
      have RX := Lib.hid ho2.rd
      have HNW := Lib.hid hnw
      replace RV := Lib.hid (RV.out.ext hx2)
      replace RB := Lib.hid (RB.out.ext hx2)
      replace RW := Lib.hid (RW.out.ext hx2)
      replace RL := Lib.hid (RL.out.ext hx2)
      replace BK := Lib.hid (BK.out.below hx2 BK.out.lt)
      replace Y := Lib.hid (Y.out.trans hx2)
      have h0 : Own (W2.alloc (.cells #[] 4)) W2.heap.size 4 (.slice (some ⟨W2.heap.size, 0, none⟩) 0 0) [] := (Blk.new W2 4 #[]).own (Nat.le_refl _) (Nat.le_refl _) (Nat.zero_le _) rfl
      have q2 : World.cell? (W2.alloc (.cells #[] 4)) ⟨w.heap.size, 2, none⟩ = some (.slice Al0 xl0.length cl0) := (BK.out.alloc _).cell 2
      have hbd2 : (([] : List Value).length + xl0.length) * 1 ≤ 140737488355328 := by simp; omega
      clear HO HX hm2 hx2 ho2 hbd hle hnw hnw3
      go_wp2_with (at_builtin; refine wpList_app (W2.alloc (.cells #[] 4)) eltBool rfl _ _ (by rfl) W2.heap.size (.slice (some ⟨W2.heap.size, 0, none⟩) 0 0) [] (by rfl) (by exact h0) Al0 xl0.length cl0 (bools xl0) (by rfl) (RL.out.alloc _) (bools_length _) (bools_ones _) hbd2 (by simp) ?_)
      intro v3 W3 ho3 hm3
      have ho3' : Own W3 W2.heap.size 4 v3 (bools xl0) := by simpa using ho3
      have hx3 : Ext W2 W3 := ((Ext.refl W2).alloc _).below.trans (hm3.below (by simp) fun g hg => by simp [Value.ownBlock] at hg; omega)
      have HO3 := Lib.hid ho3'
      have HX3 := Lib.hid hx3
      have hle3 : W2.heap.size ≤ W3.heap.size := hx3.le
      have hbd3 : ((bools xl0).length + 3) * 1 ≤ 140737488355328 := by rw [bools_length]; omega
      have HRL : Hid (Rd (W3.alloc (.cells #[.bool true, .bool false, .bool true] 4)) (some ⟨W3.heap.size, 0, none⟩) (bools [true, false, true])) := Lib.hid ((Blk.new W3 4 #[.bool true, .bool false, .bool true]).own (B := W3.heap.size) (n := 3) (cap := 3) (Nat.le_refl _) (Nat.le_refl _) (by decide) rfl).rd
      clear h0 q2 hbd2 ho3 ho3' hm3 hx3
      go_wp2_with (at_builtin; refine wpList_app (W3.alloc (.cells #[.bool true, .bool false, .bool true] 4)) eltBool rfl _ _ (by rfl) W2.heap.size v3 (bools xl0) (by rfl) (by exact HO3.out.alloc _) (some ⟨W3.heap.size, 0, none⟩) 3 3 (bools [true, false, true]) (by rfl) HRL.out rfl (bools_ones _) hbd3 (by simp; omega) ?_)
      intro v4 W4 ho4 hm4
      have hx4 : Ext W2 W4 := (HX3.out.alloc _).below.trans (hm4.below (by simp; omega) fun g hg => (HO3.out.lt g hg).1)
      have hba : bools xl0 ++ bools [true, false, true] = bools (xl0 ++ [true, false, true]) := by simp [bools]
      rw [hba] at ho4
      obtain ⟨nl, hnl⟩ : ∃ n, (xl0 ++ [true, false, true]).length = n := ⟨_, rfl⟩
      have hnl3 : nl = xl0.length + 3 := by rw [← hnl]; simp
      have hnli : xl0.length + 3 ≤ nl ∧ nl ≤ xl0.length + 3 := by omega
      obtain ⟨gl, cl, rfl, -, -, hcl2, hcl3⟩ := ho4.some_ (fun e => by have := congrArg List.length e; rw [bools_length, hnl] at this; simp at this; omega)
      rw [bools_length, hnl] at ho4 hcl2 ⊢
      simp only [maxLen] at hcl3
      obtain ⟨hnl1, hnl2⟩ := hnli
      have RZ := Lib.hid ho4.rd
      have HNL := Lib.hid hnl
      replace RX := Lib.hid (RX.out.ext hx4)
      replace RV := Lib.hid (RV.out.ext hx4)
      replace RB := Lib.hid (RB.out.ext hx4)
      replace RW := Lib.hid (RW.out.ext hx4)
      replace RL := Lib.hid (RL.out.ext hx4)
      replace BK := Lib.hid (BK.out.below hx4 BK.out.lt)
      replace Y := Lib.hid (Y.out.trans hx4)
      clear HO3 HX3 hm4 hx4 ho4 hba hbd3 hle3 HRL hnl hnl3
      have b0 : ∀ w', Ext W4 w' → w'.cell? ⟨w.heap.size, 0, none⟩ = some (.int .i64 kk0) := fun w' h => (BK.out.below h BK.out.lt).cell 0
      have b1 : ∀ w', Ext W4 w' → w'.cell? ⟨w.heap.size, 1, none⟩ = some (.slice Aw0 xw0.length cw0) := fun w' h => (BK.out.below h BK.out.lt).cell 1
      have b2 : ∀ w', Ext W4 w' → w'.cell? ⟨w.heap.size, 2, none⟩ = some (.slice Al0 xl0.length cl0) := fun w' h => (BK.out.below h BK.out.lt).cell 2
      have hxd : Ext W4 W4.drew := (Ext.refl W4).drewN 1
      have hrx : Rd W4.drew (some ⟨gw, 0, none⟩) (bs xw0) := by
        have := (RX.out.ext hxd).take (bs xw0).length
        rwa [bs_append, List.take_left] at this
      have hrz : Rd W4.drew (some ⟨gl, 0, none⟩) (bools xl0) := by
        have := (RZ.out.ext hxd).take (bools xl0).length
        rwa [show bools (xl0 ++ [true, false, true]) = bools xl0 ++ bools [true, false, true] from by simp [bools], List.take_left] at this
      have HCO := Lib.hid (column_n (some ⟨gw, 0, none⟩) (some ⟨gl, 0, none⟩) xw0.length xl0.length cw cl kk0 xw0 xl0 W4.drew rfl rfl hrx hrz (by omega) (by omega) hwk0)
      have hi1 : xw0.length ≤ cw := by omega
      have hi2 : xl0.length ≤ cl := by omega
      clear hrx hrz hxd
      go_wp2_with fail
      refine wp_region_mix (fun i => [0, 0, 0, 0, 0, 0, 0, 0, 0, 0, 0, 0, 1, 3, 3, 3, 3, 3, 3, 3].getD i 0) (fun w' => Ext W4 w') hmo (by kernel_rfl) (by kernel_rfl) ((Ext.refl _).drewN 1) ?_
      refine mix_still (.pointer (some ⟨w.heap.size, 0, none⟩)) rfl (fun w' hw' => by go_simp) ?_
      refine mix_still (.int .i64 kk0) rfl (fun w' hw' => by have := b0 w' hw'; go_simp) ?_
      refine mix_still (.slice (some ⟨gw, 0, none⟩) nw cw) rfl (fun w' hw' => by go_simp) ?_
      refine mix_still (.pointer (some ⟨w.heap.size, 1, none⟩)) rfl (fun w' hw' => by go_simp) ?_
      refine mix_still (.slice Aw0 xw0.length cw0) rfl (fun w' hw' => by have := b1 w' hw'; go_simp) ?_
      refine mix_still (.int .i64 (xw0.length : Int)) rfl (fun w' hw' => by go_simp) ?_
      refine mix_still (.slice (some ⟨gw, 0, none⟩) xw0.length cw) rfl (fun w' hw' => by go_simp) ?_
      refine mix_still (.slice (some ⟨gl, 0, none⟩) nl cl) rfl (fun w' hw' => by go_simp) ?_
      refine mix_still (.pointer (some ⟨w.heap.size, 2, none⟩)) rfl (fun w' hw' => by go_simp) ?_
      refine mix_still (.slice Al0 xl0.length cl0) rfl (fun w' hw' => by have := b2 w' hw'; go_simp) ?_
      refine mix_still (.int .i64 (xl0.length : Int)) rfl (fun w' hw' => by go_simp) ?_
      refine mix_still (.slice (some ⟨gl, 0, none⟩) xl0.length cl) rfl (fun w' hw' => by go_simp) ?_
      refine mix_call 63 #[.int .i64 kk0, .slice (some ⟨gw, 0, none⟩) xw0.length cw, .slice (some ⟨gl, 0, none⟩) xl0.length cl] rfl (by go_simp) ?_
      refine HCO.out.mono ?_
      rintro e W5 ⟨va2, vb2, out2, bad2, ee2, rfl, hsp2, hoa2, hob2, hx5⟩
      obtain ⟨rfl, rfl, rfl⟩ := hsp2.uniq SP.out
      have hx5' : Ext W4 W5 := ((Ext.refl W4).drewN 1).trans hx5
      refine ⟨_, rfl, hx5', ?_⟩
      refine mix_pure (.tuple #[va2, vb2, .int .i64 ee2]) rfl (fun w' => by go_simp) ?_
      refine mix_pure va2 rfl (fun w' => by go_simp) ?_
      refine mix_pure vb2 rfl (fun w' => by go_simp) ?_
      refine mix_pure (.int .i64 ee2) rfl (fun w' => by go_simp) ?_
      refine mix_pure va2 rfl (fun w' => by go_simp) ?_
      refine mix_pure vb2 rfl (fun w' => by go_simp) ?_
      refine mix_pure (.int .i64 ee2) rfl (fun w' => by go_simp) ?_
      refine mix_nil ?_
      obtain ⟨A5, c5, rfl, hr5, -, -⟩ := hoa2.bytesN rfl
      obtain ⟨B5, d5, rfl, hs5, -, -, -⟩ := hob2.slice
      rw [ints_length]
      have RA5 := Lib.hid hr5
      have RB5 := Lib.hid hs5
      replace RX := Lib.hid (RX.out.ext hx5')
      replace RZ := Lib.hid (RZ.out.ext hx5')
      replace RV := Lib.hid (RV.out.ext hx5')
      replace RB := Lib.hid (RB.out.ext hx5')
      replace RW := Lib.hid (RW.out.ext hx5')
      replace RL := Lib.hid (RL.out.ext hx5')
      replace BK := Lib.hid (BK.out.below hx5' BK.out.lt)
      replace Y := Lib.hid (Y.out.trans hx5')
      have hwe := SP.out.wf
      have HSI := Lib.hid SP.out.bads
      clear hsp2 hoa2 hob2 hx5 hx5' hr5 hs5 HCO b0 b1 b2 hi1 hi2
      go_wp2_with (go_at_call 64; with_reducible refine (num5_any ee2 hwe _).mono ?_; rintro e w' ⟨rfl, rfl⟩)
      refine (sameInts_n B5 Ab _ _ bad2 d5 cb _ rfl rfl RB5.out RB.out (by omega) HSI.out).mono ?_
      rintro e W6 ⟨rfl, hx6⟩
      replace RA5 := Lib.hid (RA5.out.ext hx6)
      replace RV := Lib.hid (RV.out.ext hx6)
      replace RX := Lib.hid (RX.out.ext hx6)
      replace RZ := Lib.hid (RZ.out.ext hx6)
      replace RW := Lib.hid (RW.out.ext hx6)
      replace RL := Lib.hid (RL.out.ext hx6)
      replace BK := Lib.hid (BK.out.below hx6 BK.out.lt)
      replace Y := Lib.hid (Y.out.trans hx6)
      clear hx6 RB5 RB HSI
      have CX : Hid (∀ (w' : World), Ext W6 w' → ∀ (j : Nat) (h : j < (xw0 ++ [E.of 9, E.of 8, E.of 7]).length), w'.cell? ⟨gw, j, none⟩ = some (.int .u8 (((xw0 ++ [E.of 9, E.of 8, E.of 7])[j]).val : Int))) := Lib.hid (fun w' hw j hj => by
        obtain ⟨ad, had, hc⟩ := (RX.out.ext hw).byte hj
        cases had
        have e : (⟨gw, 0, none⟩ : Addr).add j = ⟨gw, j, none⟩ := by by_cases h0 : j = 0 <;> simp [Addr.add, h0]
        rwa [e] at hc)
      have CZ : Hid (∀ (w' : World), Ext W6 w' → ∀ (j : Nat) (h : j < (xl0 ++ [true, false, true]).length), w'.cell? ⟨gl, j, none⟩ = some (.bool ((xl0 ++ [true, false, true])[j]))) := Lib.hid (fun w' hw j hj => by
        obtain ⟨ad, had, hc⟩ := (RZ.out.ext hw).at_ (bools_get _ j hj)
        cases had
        have e : (⟨gl, 0, none⟩ : Addr).add j = ⟨gl, j, none⟩ := by by_cases h0 : j = 0 <;> simp [Addr.add, h0]
        rwa [e] at hc)
      go_wp2_with fail
      go_loopw [12] (fun i wr => ∃ j : Nat, j ≤ out2.length ∧ i = .int .i64 j ∧ Ext W6 wr) (fun i _ => out2.length - (intOf i).toNat)
      case atStart => exact ⟨0, by omega, rfl, Ext.refl _⟩
      case round =>
        obtain ⟨W7, rfl⟩ : ∃ W, W = wr := ⟨_, rfl⟩
        obtain ⟨j, hj, rfl, hx7⟩ := hrel
        by_cases hlt : j < out2.length
        · obtain ⟨ad, rfl, hc1⟩ := (RA5.out.ext hx7).byte hlt
          obtain ⟨bd, rfl, hc2⟩ := (RV.out.ext hx7).byte hlt
          have hl0 : (0 : Int) ≤ (j : Int) := by omega
          have hl1 : (j : Int) < (out2.length : Int) := by omega
          have hkl := (out2[j]).lt
          have HX7 := Lib.hid hx7
          clear hx7
          go_wp2_with fail
          go_quiet (fail)
          go_wp2_with fail
          go_roundw
          case rel => exact ⟨j + 1, by omega, by go_num, HX7.out.drewN _⟩
          case measure => simp [intOf]; omega
        · obtain rfl : j = out2.length := by omega
          have HX7 := Lib.hid hx7
          clear hx7
          go_wp2_with fail
          go_loopw [13] (fun i wr => ∃ j : Nat, j ≤ xw0.length ∧ i = .int .i64 j ∧ Ext W6 wr) (fun i _ => xw0.length - (intOf i).toNat)
          case atStart => exact ⟨0, by omega, rfl, HX7.out⟩
          case round =>
            clear HX7
            obtain ⟨W8, rfl⟩ : ∃ W, W = wr := ⟨_, rfl⟩
            obtain ⟨j, hj, rfl, hx8⟩ := hrel
            have q1 : World.cell? W8 ⟨w.heap.size, 1, none⟩ = some (.slice Aw0 xw0.length cw0) := (BK.out.below hx8 BK.out.lt).cell 1
            by_cases hlt : j < xw0.length
            · have q2 : World.cell? W8.drew ⟨w.heap.size, 1, none⟩ = some (.slice Aw0 xw0.length cw0) := (BK.out.below (hx8.drewN 1) BK.out.lt).cell 1
              obtain ⟨bd, rfl, hc2⟩ := (RW.out.ext hx8).byte hlt
              have hc1 : W8.cell? ⟨gw, j, none⟩ = some (.int .u8 ((xw0[j]).val : Int)) := by
                have := CX.out W8 hx8 j (by simp; omega)
                rwa [List.getElem_append_left hlt] at this
              have hl0 : (0 : Int) ≤ (j : Int) := by omega
              have hl1 : (j : Int) < (xw0.length : Int) := by omega
              have hl2 : (j : Int) < (nw : Int) := by omega
              have hkl := (xw0[j]).lt
              have HX8 := Lib.hid hx8
              clear hx8
              go_wp2_with fail
              go_quiet (fail)
              go_wp2_with fail
              go_roundw
              case rel => exact ⟨j + 1, by omega, by go_num, HX8.out.drewN _⟩
              case measure => simp [intOf]; omega
            · obtain rfl : j = xw0.length := by omega
              have HX8 := Lib.hid hx8
              clear hx8
              go_wp2_with fail
              go_loopw [14] (fun i wr => ∃ j : Nat, j ≤ xl0.length ∧ i = .int .i64 j ∧ Ext W6 wr) (fun i _ => xl0.length - (intOf i).toNat)
              case atStart => exact ⟨0, by omega, rfl, HX8.out⟩
              case round =>
                clear HX8 q1
                obtain ⟨W9, rfl⟩ : ∃ W, W = wr := ⟨_, rfl⟩
                obtain ⟨j, hj, rfl, hx9⟩ := hrel
                have q1 : World.cell? W9 ⟨w.heap.size, 1, none⟩ = some (.slice Aw0 xw0.length cw0) := (BK.out.below hx9 BK.out.lt).cell 1
                have q2 : World.cell? W9 ⟨w.heap.size, 2, none⟩ = some (.slice Al0 xl0.length cl0) := (BK.out.below hx9 BK.out.lt).cell 2
                by_cases hlt : j < xl0.length
                · obtain ⟨bd, rfl, hc2⟩ := (RL.out.ext hx9).at_ (bools_get xl0 j hlt)
                  have hc1 : W9.cell? ⟨gl, j, none⟩ = some (.bool (xl0[j])) := by
                    have := CZ.out W9 hx9 j (by simp; omega)
                    rwa [List.getElem_append_left hlt] at this
                  have hl0 : (0 : Int) ≤ (j : Int) := by omega
                  have hl1 : (j : Int) < (xl0.length : Int) := by omega
                  have hl2 : (j : Int) < (nl : Int) := by omega
                  have HX9 := Lib.hid hx9
                  clear hx9
                  go_wp2_with fail
                  go_quiet (fail)
                  go_wp2_with fail
                  go_roundw
                  case rel => exact ⟨j + 1, by omega, by go_num, HX9.out.drewN _⟩
                  case measure => simp [intOf]; omega
                · obtain rfl : j = xl0.length := by omega
                  have c0 : W9.cell? ⟨gw, xw0.length, none⟩ = some (.int .u8 9) := by
                    have := CX.out W9 hx9 xw0.length (by simp)
                    rw [List.getElem_append_right (Nat.le_refl _)] at this
                    simp only [Nat.sub_self] at this
                    exact this
                  have c1 : W9.cell? ⟨gw, xw0.length + 1, none⟩ = some (.int .u8 8) := by
                    have := CX.out W9 hx9 (xw0.length + 1) (by simp)
                    rw [List.getElem_append_right (by omega)] at this
                    simp only [Nat.add_sub_cancel_left] at this
                    exact this
                  have c2 : W9.cell? ⟨gw, xw0.length + 2, none⟩ = some (.int .u8 7) := by
                    have := CX.out W9 hx9 (xw0.length + 2) (by simp)
                    rw [List.getElem_append_right (by omega)] at this
                    simp only [Nat.add_sub_cancel_left] at this
                    exact this
                  have d0 : W9.cell? ⟨gl, xl0.length, none⟩ = some (.bool true) := by
                    have := CZ.out W9 hx9 xl0.length (by simp)
                    rw [List.getElem_append_right (Nat.le_refl _)] at this
                    simpa using this
                  have d1 : W9.cell? ⟨gl, xl0.length + 1, none⟩ = some (.bool false) := by
                    have := CZ.out W9 hx9 (xl0.length + 1) (by simp)
                    rw [List.getElem_append_right (by omega)] at this
                    simpa using this
                  have d2 : W9.cell? ⟨gl, xl0.length + 2, none⟩ = some (.bool true) := by
                    have := CZ.out W9 hx9 (xl0.length + 2) (by simp)
                    rw [List.getElem_append_right (by omega)] at this
                    simpa using this
                  have hw1 : IntKind.i64.wrap ((xw0.length : Int) + 1) = (xw0.length : Int) + 1 := IntWalk.i64_in _ (by omega)
                  have hw2 : IntKind.i64.wrap ((xw0.length : Int) + 2) = (xw0.length : Int) + 2 := IntWalk.i64_in _ (by omega)
                  have hw3 : IntKind.i64.wrap ((xl0.length : Int) + 1) = (xl0.length : Int) + 1 := IntWalk.i64_in _ (by omega)
                  have hw4 : IntKind.i64.wrap ((xl0.length : Int) + 2) = (xl0.length : Int) + 2 := IntWalk.i64_in _ (by omega)
                  have hb1 : (xw0.length : Int) < (nw : Int) := by omega
                  have hb2 : (xw0.length : Int) + 1 < (nw : Int) := by omega
                  have hb3 : (xw0.length : Int) + 2 < (nw : Int) := by omega
                  have hb4 : (xl0.length : Int) < (nl : Int) := by omega
                  have hb5 : (xl0.length : Int) + 1 < (nl : Int) := by omega
                  have hb6 : (xl0.length : Int) + 2 < (nl : Int) := by omega
                  have hg1 : (0 : Int) ≤ (xw0.length : Int) + 1 := by omega
                  have hg2 : (0 : Int) ≤ (xw0.length : Int) + 2 := by omega
                  have hg3 : (0 : Int) ≤ (xl0.length : Int) + 1 := by omega
                  have hg4 : (0 : Int) ≤ (xl0.length : Int) + 2 := by omega
                  have hn1 : ((xw0.length : Int) + 1).toNat = xw0.length + 1 := by omega
                  have hn2 : ((xw0.length : Int) + 2).toNat = xw0.length + 2 := by omega
                  have hn3 : ((xl0.length : Int) + 1).toNat = xl0.length + 1 := by omega
                  have hn4 : ((xl0.length : Int) + 2).toNat = xl0.length + 2 := by omega
                  have HX9 := Lib.hid hx9
                  clear hx9
                  go_wp2_with fail
                  refine bodyPost_ret (results_tmp rfl _ _ _) rfl ?_
                  exact ⟨rfl, Y.out.trans HX9.out⟩

set_option maxRecDepth 100000 in
theorem lifted (os : Os) (started : os.Started) (H : Type) (enc : TypeId × Value → H) (F : Stop.Interp) :
    ReturnsInHanded {} Try.checked os 16 .any ((Rows.OpenSpec.upto Rows.mendColumnsSpec).pre6 enc Try.prog Try.f16 Rows.mendColumnsUptoRow.domain false) (((Rows.OpenSpec.upto Rows.mendColumnsSpec).at F).post enc Try.prog Try.f16 false true false false) := by
  refine returnsInHanded_of_cond_sized (C := Try.checked) (s := Rows.OpenSpec.upto Rows.mendColumnsSpec) (k := Rows.uptoSmall) rfl own started (by kernel_rfl) Try.func16
    (OpenSpec.witness (enc := enc) (C := Try.checked) (s := Rows.OpenSpec.upto Rows.mendColumnsSpec) (k := Rows.uptoSmall) rfl false ⟨#[], #[.agg #[.int .i64 0, .slice none 0 0, .slice none 0 0]], []⟩ 8 (by kernel_rfl) (by kernel_rfl) (by kernel_rfl)
      (x := ([.agg [.lit (.int .i64 0), .nil, .nil]], [], [])) (by kernel_rfl) rfl (by kernel_rfl)) ?_
  intro W base args ds gs before hval0 hW hcnd hk hsz0 _
  have hval : ∀ (j : Nat) t v, Try.f16.params[j]? = some t → args[j]? = some v → Value.okWide Try.prog W .any base t v := hval0
  have hsz : (DataW.weightsEach Try.prog (Try.f16.params.toList ++ Rows.mendColumnsSpec.plain.varTypes Try.prog) (ds ++ gs)).all (· ≤ reachBytes) = true := hsz0
  have hW' := hW
  obtain ⟨p, q, hA0, hV, rfl, hfz, hnd⟩ := hW
  have hA : DataW.TrodAll enc Try.prog W 0 (fun _ => true) true Try.f16.params.toList args.toList ds p := hA0
  rw [Try.params16] at hA hval hsz
  obtain ⟨v0, vs0, d0, ds0, p0, q0, hargs, rfl, rfl, h0, r0⟩ := trodAll_cons hA
  obtain ⟨rfl, rfl, rfl⟩ := trodAll_nil r0
  obtain rfl : args = #[v0] := by cases args; simp_all
  obtain ⟨rfl, rfl⟩ := trodVars_none hV
  have k0 := h0
  have lt0 : ∀ x ∈ p0, x.block < W.heap.size := by obtain ⟨m, hm⟩ := k0; exact DataW.trod_lt m _ _ _ hm
  obtain ⟨kk0, Aw0, cw0, xw0, Al0, cl0, xl0, rfl, hwk0, hrw0, hlw0, hcw0, hrl0, hll0, hcl0⟩ : ∃ (kk : Int) (Aw : Option Addr) (cw : Nat) (xw : List E) (Al : Option Addr) (cl : Nat) (xl : List Bool), v0 = .agg #[.int .i64 kk, .slice Aw xw.length cw, .slice Al xl.length cl] ∧
      (Lit.int .i64 kk).wf = true ∧ Rd W Aw (bs xw) ∧ xw.length ≤ cw ∧ cw ≤ 1048576 ∧ Rd W Al (bools xl) ∧ xl.length ≤ cl ∧ cl ≤ 1048576 := by
    have hB := bulk_bound hk (d := d0) (by simp)
    obtain ⟨u0, u1, u2, y0, y1, y2, n, rfl, rfl, t0, t1, t2⟩ := open_agg3u Try.underlying69 (by kernel_rfl) (by kernel_rfl) (hval 0 69 v0 rfl rfl) h0
    simp only [Rows.uptoBulk, Rows.uptoBulkAll] at hB
    obtain ⟨n0, e0, _, w0⟩ := DataW.trod_int Try.underlying3 t0
    simp at e0
    subst e0
    obtain ⟨A1, c1, z1, e1, a1, b1, g1⟩ := open_bytes_u Try.underlying24 Try.underlying5 (by kernel_rfl) t1 (by omega)
    simp at e1
    subst e1
    obtain ⟨A2, c2, z2, e2, a2, b2, g2⟩ := open_bools_u Try.underlying67 Try.underlying4 (by kernel_rfl) t2 (by omega)
    simp at e2
    subst e2
    exact ⟨n0, _, _, _, _, _, _, rfl, w0, a1, b1, g1, a2, b2, g2⟩
  clear hA0 hval0
  refine (walk W kk0 Aw0 cw0 xw0 Al0 cl0 xl0 hwk0 hrw0 hlw0 hcw0 hrl0 hll0 hcl0).mono fun e W' ⟨he, bel⟩ => ?_
  subst he
  exact ⟨_, rfl, _, _, _, [], _, [], hW', trodAll_mk1 (shut_bool Try.underlying4 _), (trodAll_cons_mk (Below.trod laidOut (by kernel_rfl) (of_decide_eq_true (by kernel_rfl)) k0 bel lt0) trodAll_mk0), rfl, bel.frame _, fun h => by cases h⟩

theorem proved : Rows.MendColumnsUptoSaid :=
  OpenClaim.holds_of_cond 16 Try.f16 rfl rfl rfl rfl rfl rfl rfl ⟨rfl, rfl, rfl, rfl, rfl⟩ rfl rfl rfl rfl rfl (by kernel_rfl) Try.func16 (by kernel_rfl)
    (of_decide_eq_true (by kernel_rfl)) (by unfold Func.isWrapper; first | (rw [if_pos (by decide +kernel)]; kernel_rfl) | (rw [if_neg (by decide +kernel)]; exact ⟨rfl, rfl⟩))
    (fun os started H enc _ F => lifted os started H enc F)
#print axioms proved
end Go.Proofs.Ytemnlcfabaocbaa.mendColumns
