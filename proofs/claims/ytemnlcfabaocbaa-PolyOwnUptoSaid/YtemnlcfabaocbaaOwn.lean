/-
  The walk of the laws' own helper own of chapter 2.
-/
import Derived.Test.YtemnlcfabaocbaaOwn0
import Derived.Test.YtemnlcfabaocbaaRef6
namespace Go.Proofs.Ytemnlcfabaocbaa
open Go.RowKit Gf
set_option maxRecDepth 20000
set_option linter.unusedVariables false
set_option maxHeartbeats 16000000 in
theorem own_n (i : Nat) (hi : i < 16) (w : World) (Aa : Option Addr) (ca : Nat) (xa : List E) (Ab : Option Addr) (cb : Nat) (xb : List E) (Ac : Option Addr) (cc : Nat) (xc : List E) (x : E) (bl : Int) (hra : Rd w Aa (bs xa)) (hla : xa.length ≤ ca) (hca : ca ≤ 1048576) (hrb : Rd w Ab (bs xb)) (hlb : xb.length ≤ cb) (hcb : cb ≤ 1048576) (hrc : Rd w Ac (bs xc)) (hlc : xc.length ≤ cc) (hcc : cc ≤ 1048576) (hwb : (Lit.int .i64 bl).wf = true) :
    Calls Try.prog 61 #[.int .i64 (i : Int), .agg #[.slice Aa xa.length ca, .slice Ab xb.length cb, .slice Ac xc.length cc, .int .u8 (x.val : Int), .int .i64 bl]] w fun e w' => e = .returned (.bool true) ∧ Ext w w' := by
  obtain ⟨wb, hwb0⟩ : ∃ wb, wb = w.alloc (.cells #[.slice Aa xa.length ca, .slice Ab xb.length cb, .slice Ac xc.length cc, .int .u8 (x.val : Int), .int .i64 bl] 59) := ⟨_, rfl⟩
  have BK : Hid (Blk wb w.heap.size 59 #[.slice Aa xa.length ca, .slice Ab xb.length cb, .slice Ac xc.length cc, .int .u8 (x.val : Int), .int .i64 bl]) := Lib.hid (by rw [hwb0]; exact Blk.new _ _ _)
  have RA : Hid (Rd wb Aa (bs xa)) := Lib.hid (by rw [hwb0]; exact hra.alloc _)
  have RB : Hid (Rd wb Ab (bs xb)) := Lib.hid (by rw [hwb0]; exact hrb.alloc _)
  have RC : Hid (Rd wb Ac (bs xc)) := Lib.hid (by rw [hwb0]; exact hrc.alloc _)
  have RA0 := RA
  have RB0 := RB
  have RC0 := RC
  have Y : Hid (Ext w wb) := Lib.hid (by rw [hwb0]; exact (Ext.refl w).alloc _)
  have Y0 : Hid (Ext wb wb) := Lib.hid (Ext.refl wb)
  have lb : w.heap.size + 1 = wb.heap.size := by rw [hwb0]; simp
  have hmo : Try.prog.follows Departure.mixedOrders = true := by kernel_rfl
  have hxl := x.lt
  clear hra hrb hrc
  go_enter Try.func61, Try.ntmps61
  go_wp2_with fail
  rw [← hwb0]
  clear hwb0
  refine (lent_n Aa _ xa ca _ rfl RA.out (by omega)).mono ?_
  rintro e w1 ⟨gp, kp, rfl, hgp, ho, hcgp, hmgp, hx⟩
  have ugp := ((ho.lt gp rfl).2)
  have HP := Lib.hid ho
  simp only [maxLen] at hmgp
  clear ho
  have l1 := hx.le
  replace BK := Lib.hid (BK.out.ext hx)
  replace RA := Lib.hid (RA.out.ext hx)
  replace RB := Lib.hid (RB.out.ext hx)
  replace RC := Lib.hid (RC.out.ext hx)
  replace Y := Lib.hid (Y.out.trans hx)
  replace Y0 := Lib.hid (Y0.out.trans hx)
  clear hx
  have q1 : World.cell? w1 ⟨w.heap.size, 1, none⟩ = some (Value.slice Ab xb.length cb) := BK.out.cell 1
  go_wp2_with fail
  clear q1
  refine (lent_n Ab _ xb cb _ rfl RB.out (by omega)).mono ?_
  rintro e w2 ⟨gq, kq, rfl, hgq, ho, hcgq, hmgq, hx⟩
  have ugq := ((ho.lt gq rfl).2)
  have HQ := Lib.hid ho
  simp only [maxLen] at hmgq
  clear ho
  have l2 := hx.le
  replace BK := Lib.hid (BK.out.ext hx)
  replace RA := Lib.hid (RA.out.ext hx)
  replace RB := Lib.hid (RB.out.ext hx)
  replace RC := Lib.hid (RC.out.ext hx)
  replace HP := Lib.hid (HP.out.ext hx)
  replace Y := Lib.hid (Y.out.trans hx)
  replace Y0 := Lib.hid (Y0.out.trans hx)
  clear hx
  have q4 : World.cell? w2 ⟨w.heap.size, 4, none⟩ = some (Value.int .i64 bl) := BK.out.cell 4
  have q3 : World.cell? w2 ⟨w.heap.size, 3, none⟩ = some (Value.int .u8 (x.val : Int)) := BK.out.cell 3
  go_wp2_with fail
  clear q4 q3
  refine (ask_n i hi (some ⟨gp, 0, none⟩) (some ⟨gq, 0, none⟩) _ _ kp kq xa xb x bl _ rfl rfl HP.out.front HQ.out.front (by omega) (by omega) (by omega) (by omega) (by simp only [maxLen]; omega) hwb).mono ?_
  rintro e w3 ⟨Ga, ka, Va, ra, rfl, han, hol, hx, hlen, hp0, hp3⟩
  have na0 : 0 < ra.length := hp0
  have na3 : ra.length ≤ 3 := hp3
  have AN := Lib.hid han
  clear hp0 hp3 han
  have OA0 := Slab.of hol
  have OA := Lib.hid OA0
  have LA := Lib.hid hlen
  clear OA0 hol hlen
  have l3 := hx.le
  replace BK := Lib.hid (BK.out.ext hx)
  replace RA := Lib.hid (RA.out.ext hx)
  replace RB := Lib.hid (RB.out.ext hx)
  replace RC := Lib.hid (RC.out.ext hx)
  replace HP := Lib.hid (HP.out.ext hx)
  replace HQ := Lib.hid (HQ.out.ext hx)
  replace Y := Lib.hid (Y.out.trans hx)
  replace Y0 := Lib.hid (Y0.out.trans hx)
  clear hx
  have q4 : World.cell? w3 ⟨w.heap.size, 4, none⟩ = some (Value.int .i64 bl) := BK.out.cell 4
  go_wp2_with fail
  clear q4
  refine (ask_n i hi (some ⟨gp, 0, none⟩) (some ⟨gq, 0, none⟩) _ _ kp kq xa xb x bl _ rfl rfl HP.out.front HQ.out.front (by omega) (by omega) (by omega) (by omega) (by simp only [maxLen]; omega) hwb).mono ?_
  rintro e w4 ⟨Gb, kb, Vb, rb, rfl, han, hol, hx, hlen, hp0, hp3⟩
  obtain rfl := Ans.uniq AN.out han
  clear hp0 hp3 han
  have OB0 := Slab.of hol
  have OB := Lib.hid OB0
  have LB := Lib.hid hlen
  clear OB0 hol hlen
  have l4 := hx.le
  replace BK := Lib.hid (BK.out.ext hx)
  replace RA := Lib.hid (RA.out.ext hx)
  replace RB := Lib.hid (RB.out.ext hx)
  replace RC := Lib.hid (RC.out.ext hx)
  replace HP := Lib.hid (HP.out.ext hx)
  replace HQ := Lib.hid (HQ.out.ext hx)
  replace OA := Lib.hid (OA.out.ext hx)
  replace Y := Lib.hid (Y.out.trans hx)
  replace Y0 := Lib.hid (Y0.out.trans hx)
  clear hx
  go_wp2_with fail
  refine (copies_n (some ⟨Ga, 0, none⟩) _ ka ra _ rfl na0 OA.out.rd (by omega) (fun r hr => Nat.le_trans (LA.out r hr) (by omega))).mono ?_
  rintro e w5 ⟨Gw, kw, Vw, rfl, hol, hx⟩
  have OW0 := Slab.of hol
  have OW := Lib.hid OW0
  clear OW0 hol
  have l5 := hx.le
  replace BK := Lib.hid (BK.out.ext hx)
  replace RA := Lib.hid (RA.out.ext hx)
  replace RB := Lib.hid (RB.out.ext hx)
  replace RC := Lib.hid (RC.out.ext hx)
  replace HP := Lib.hid (HP.out.ext hx)
  replace HQ := Lib.hid (HQ.out.ext hx)
  replace OA := Lib.hid (OA.out.ext hx)
  replace OB := Lib.hid (OB.out.ext hx)
  replace Y := Lib.hid (Y.out.trans hx)
  replace Y0 := Lib.hid (Y0.out.trans hx)
  clear hx
  go_wp2_with fail
  refine wp_region_mix (fun i => [0, 0, 0, 1, 0, 0, 0, 0, 1, 3].getD i 0) (fun w' => Ext w5 w') hmo (by kernel_rfl) (by kernel_rfl) ((Ext.refl _).drewN 1) ?_
  have xd : Ext w5 (World.drew w5) := (Ext.refl _).drewN 1
  have b2 : ∀ w', Ext w5 w' → w'.cell? ⟨w.heap.size, 2, none⟩ = some (Value.slice Ac xc.length cc) := fun w' h => (BK.out.ext h).cell 2
  have b4 : ∀ w', Ext w5 w' → w'.cell? ⟨w.heap.size, 4, none⟩ = some (Value.int .i64 bl) := fun w' h => (BK.out.ext h).cell 4
  refine mix_still (.int .i64 (i : Int)) rfl (fun w' hw' => by go_simp) ?_
  refine mix_still (.pointer (some ⟨w.heap.size, 2, none⟩)) rfl (fun w' hw' => by go_simp) ?_
  refine mix_still (Value.slice Ac xc.length cc) rfl (fun w' hw' => by have := b2 w' hw'; go_simp) ?_
  refine mix_call 54 #[Value.slice Ac xc.length cc] rfl (by go_simp) ?_
  refine (elems_n Ac _ xc cc _ rfl (RC.out.ext xd) (by omega)).mono ?_
  rintro e w6 ⟨v, rfl, hoc, hx6⟩
  have x6 := xd.trans hx6
  obtain ⟨A6, k6, rfl, hr6, hc6, hm6⟩ := hoc.bytesN rfl
  simp only [maxLen] at hm6
  clear hoc
  refine ⟨_, rfl, x6, ?_⟩
  refine mix_still (.slice (some ⟨gp, 0, none⟩) xa.length kp) rfl (fun w' hw' => by go_simp) ?_
  refine mix_still (.int .u8 (x.val : Int)) rfl (fun w' hw' => by go_simp) ?_
  refine mix_still (.pointer (some ⟨w.heap.size, 4, none⟩)) rfl (fun w' hw' => by go_simp) ?_
  refine mix_still (Value.int .i64 bl) rfl (fun w' hw' => by have := b4 w' hw'; go_simp) ?_
  refine mix_call 98 #[.int .i64 (i : Int), .slice A6 xc.length k6, .slice (some ⟨gp, 0, none⟩) xa.length kp, .int .u8 (x.val : Int), .int .i64 bl] rfl (by go_simp) ?_
  refine (ask_n i hi A6 (some ⟨gp, 0, none⟩) _ _ k6 kp xc xa x bl _ rfl rfl hr6 ((HP.out.ext x6).front) (by omega) (by omega) (by omega) (by omega) (by simp only [maxLen]; omega) hwb).mono ?_
  rintro e w7 ⟨Gd, kd, Vd, rd, rfl, -, hol, hx7, hlen, hp0, nd3⟩
  have hx := x6.trans hx7
  refine ⟨_, rfl, hx, ?_⟩
  refine mix_pure (.slice (some ⟨Gd, 0, none⟩) rd.length kd) rfl (fun w' => by go_simp) ?_
  refine mix_nil ?_
  have l6 := x6.le
  have OD0 := Slab.of hol
  have OD := Lib.hid OD0
  have LD := Lib.hid hlen
  clear OD0 hol hlen b2 b4 x6 xd hx6 hr6 hp0
  have l7 := hx7.le
  clear hx7
  replace BK := Lib.hid (BK.out.ext hx)
  replace RA := Lib.hid (RA.out.ext hx)
  replace RB := Lib.hid (RB.out.ext hx)
  replace RC := Lib.hid (RC.out.ext hx)
  replace HP := Lib.hid (HP.out.ext hx)
  replace HQ := Lib.hid (HQ.out.ext hx)
  replace OA := Lib.hid (OA.out.ext hx)
  replace OB := Lib.hid (OB.out.ext hx)
  replace OW := Lib.hid (OW.out.ext hx)
  replace Y := Lib.hid (Y.out.trans hx)
  replace Y0 := Lib.hid (Y0.out.trans hx)
  clear hx
  have q4 : World.cell? w7 ⟨w.heap.size, 4, none⟩ = some (Value.int .i64 bl) := BK.out.cell 4
  go_wp2_with fail
  clear q4
  refine (ask_n i hi (some ⟨gp, 0, none⟩) (some ⟨gq, 0, none⟩) _ _ kp kq xa xb x bl _ rfl rfl HP.out.front HQ.out.front (by omega) (by omega) (by omega) (by omega) (by simp only [maxLen]; omega) hwb).mono ?_
  rintro e w8 ⟨Ge, ke, Ve, re, rfl, han, hol, hx, hlen, hp0, hp3⟩
  obtain rfl := Ans.uniq AN.out han
  have AF := AN
  clear hp0 hp3 han AN
  have OE0 := Slab.of hol
  have OE := Lib.hid OE0
  have LE := Lib.hid hlen
  clear OE0 hol hlen
  have l8 := hx.le
  replace BK := Lib.hid (BK.out.ext hx)
  replace RA := Lib.hid (RA.out.ext hx)
  replace RB := Lib.hid (RB.out.ext hx)
  replace RC := Lib.hid (RC.out.ext hx)
  replace HP := Lib.hid (HP.out.ext hx)
  replace HQ := Lib.hid (HQ.out.ext hx)
  replace OA := Lib.hid (OA.out.ext hx)
  replace OB := Lib.hid (OB.out.ext hx)
  replace OW := Lib.hid (OW.out.ext hx)
  replace OD := Lib.hid (OD.out.ext hx)
  replace Y := Lib.hid (Y.out.trans hx)
  replace Y0 := Lib.hid (Y0.out.trans hx)
  clear hx
  go_wp2_with fail
  refine (alike_n (some ⟨Gb, 0, none⟩) (some ⟨Gw, 0, none⟩) _ _ kb kw ra _ rfl rfl OB.out.rd OW.out.rd (by omega) (fun r hr => Nat.le_trans (LA.out r hr) (by omega))).mono ?_
  rintro e w9 ⟨rfl, hx⟩
  have l9 := hx.le
  replace BK := Lib.hid (BK.out.ext hx)
  replace RA := Lib.hid (RA.out.ext hx)
  replace RB := Lib.hid (RB.out.ext hx)
  replace RC := Lib.hid (RC.out.ext hx)
  replace HP := Lib.hid (HP.out.ext hx)
  replace HQ := Lib.hid (HQ.out.ext hx)
  replace OA := Lib.hid (OA.out.ext hx)
  replace OB := Lib.hid (OB.out.ext hx)
  replace OW := Lib.hid (OW.out.ext hx)
  replace OD := Lib.hid (OD.out.ext hx)
  replace OE := Lib.hid (OE.out.ext hx)
  replace Y := Lib.hid (Y.out.trans hx)
  replace Y0 := Lib.hid (Y0.out.trans hx)
  clear hx
  go_wp2_with fail
  refine (alike_n (some ⟨Ge, 0, none⟩) (some ⟨Gw, 0, none⟩) _ _ ke kw ra _ rfl rfl OE.out.rd OW.out.rd (by omega) (fun r hr => Nat.le_trans (LA.out r hr) (by omega))).mono ?_
  rintro e w10 ⟨rfl, hx⟩
  have l10 := hx.le
  replace BK := Lib.hid (BK.out.ext hx)
  replace RA := Lib.hid (RA.out.ext hx)
  replace RB := Lib.hid (RB.out.ext hx)
  replace RC := Lib.hid (RC.out.ext hx)
  replace HP := Lib.hid (HP.out.ext hx)
  replace HQ := Lib.hid (HQ.out.ext hx)
  replace OA := Lib.hid (OA.out.ext hx)
  replace OB := Lib.hid (OB.out.ext hx)
  replace OW := Lib.hid (OW.out.ext hx)
  replace OD := Lib.hid (OD.out.ext hx)
  replace OE := Lib.hid (OE.out.ext hx)
  replace Y := Lib.hid (Y.out.trans hx)
  replace Y0 := Lib.hid (Y0.out.trans hx)
  clear hx
  have q0 : World.cell? w10 ⟨w.heap.size, 0, none⟩ = some (Value.slice Aa xa.length ca) := BK.out.cell 0
  go_wp2_with fail
  clear q0
  refine (kept_n (some ⟨gp, 0, none⟩) Aa _ _ xa kp ca _ rfl rfl HP.out.rd RA.out (by omega) (by omega)).mono ?_
  rintro e w11 ⟨rfl, hx⟩
  have l11 := hx.le
  replace BK := Lib.hid (BK.out.ext hx)
  replace RA := Lib.hid (RA.out.ext hx)
  replace RB := Lib.hid (RB.out.ext hx)
  replace RC := Lib.hid (RC.out.ext hx)
  replace HP := Lib.hid (HP.out.ext hx)
  replace HQ := Lib.hid (HQ.out.ext hx)
  replace OA := Lib.hid (OA.out.ext hx)
  replace OB := Lib.hid (OB.out.ext hx)
  replace OW := Lib.hid (OW.out.ext hx)
  replace OD := Lib.hid (OD.out.ext hx)
  replace OE := Lib.hid (OE.out.ext hx)
  replace Y := Lib.hid (Y.out.trans hx)
  replace Y0 := Lib.hid (Y0.out.trans hx)
  clear hx
  have q1 : World.cell? w11 ⟨w.heap.size, 1, none⟩ = some (Value.slice Ab xb.length cb) := BK.out.cell 1
  go_wp2_with fail
  clear q1
  refine (kept_n (some ⟨gq, 0, none⟩) Ab _ _ xb kq cb _ rfl rfl HQ.out.rd RB.out (by omega) (by omega)).mono ?_
  rintro e w12 ⟨rfl, hx⟩
  have l12 := hx.le
  replace BK := Lib.hid (BK.out.ext hx)
  replace RA := Lib.hid (RA.out.ext hx)
  replace RB := Lib.hid (RB.out.ext hx)
  replace RC := Lib.hid (RC.out.ext hx)
  replace HP := Lib.hid (HP.out.ext hx)
  replace HQ := Lib.hid (HQ.out.ext hx)
  replace OA := Lib.hid (OA.out.ext hx)
  replace OB := Lib.hid (OB.out.ext hx)
  replace OW := Lib.hid (OW.out.ext hx)
  replace OD := Lib.hid (OD.out.ext hx)
  replace OE := Lib.hid (OE.out.ext hx)
  replace Y := Lib.hid (Y.out.trans hx)
  replace Y0 := Lib.hid (Y0.out.trans hx)
  clear hx
  go_wp2_with fail
  have TU : Hid (Turning w12 w12 (wb).heap.size gp (xa.length + 66) kp 34 (incBy 1) xa (marks 66) 0) := Lib.hid ⟨Touch.refl _, by rw [turned_zero]; exact HP.out⟩
  go_loopw [13] (fun i wr => ∃ k : Nat, k ≤ xa.length ∧ i = .int .i64 k ∧ Turning w12 wr (wb).heap.size gp (xa.length + 66) kp 34 (incBy 1) xa (marks 66) k) (fun i _ => xa.length - (intOf i).toNat)
  case atStart => exact ⟨0, by omega, rfl, TU.out⟩
  case round =>
   obtain ⟨j, hj, rfl, hT⟩ := hrel
   clear TU
   by_cases hlt : j < xa.length
   · have hcj : wr.cell? ⟨gp, j, none⟩ = some (.int .u8 ((xa[j]).val : Int)) := hT.own.cell (turned_get _ _ _ _ hlt)
     have hfj := hT.own.frozen j
     have hib := incBy_val 1 (xa[j])
     have HT2 := Lib.hid (hT.step hlt)
     rw [← hib] at HT2
     have hxj := (xa[j]).lt
     clear hT hib
     go_wp2_with fail
     go_roundw
     case rel => exact ⟨j + 1, by omega, by go_num, HT2.out⟩
     case measure => simp [intOf]; omega
   · obtain ⟨w13, rfl⟩ : ∃ W, W = wr := ⟨_, rfl⟩
     have ht := hT.touch
     have HP1 := hT.own
     rw [show j = xa.length by omega, turned_all] at HP1
     have l13 := ht.size
     replace OA := Lib.hid (OA.out.touch ht fun k h1 h2 e => by have : k = gp := e; omega)
     replace OB := Lib.hid (OB.out.touch ht fun k h1 h2 e => by have : k = gp := e; omega)
     replace OW := Lib.hid (OW.out.touch ht fun k h1 h2 e => by have : k = gp := e; omega)
     replace OD := Lib.hid (OD.out.touch ht fun k h1 h2 e => by have : k = gp := e; omega)
     replace OE := Lib.hid (OE.out.touch ht fun k h1 h2 e => by have : k = gp := e; omega)
     replace HP := Lib.hid HP1
     replace HQ := Lib.hid (HQ.out.touch ht fun g' hg e => by injection hg with hg; have : g' = gp := e; have : _ = g' := hg; simp at *; omega)
     replace RA := Lib.hid (RA0.out.over Y0.out ht fun k h1 e => by have : k = gp := e; omega)
     replace RB := Lib.hid (RB0.out.over Y0.out ht fun k h1 e => by have : k = gp := e; omega)
     replace RC := Lib.hid (RC0.out.over Y0.out ht fun k h1 e => by have : k = gp := e; omega)
     replace BK := Lib.hid (BK.out.touch ht fun e => by have : w.heap.size = gp := e; omega)
     replace Y := Lib.hid (Y.out.touched ht fun k e => by have : k = gp := e; omega)
     replace Y0 := Lib.hid (Y0.out.touched ht fun k e => by have : k = gp := e; omega)
     clear hT ht HP1
     go_wp2_with fail
     have TU : Hid (Turning w13 w13 (w1).heap.size gq (xb.length + 66) kq 34 (incBy 2) xb (marks 66) 0) := Lib.hid ⟨Touch.refl _, by rw [turned_zero]; exact HQ.out⟩
     go_loopw [14] (fun i wr => ∃ k : Nat, k ≤ xb.length ∧ i = .int .i64 k ∧ Turning w13 wr (w1).heap.size gq (xb.length + 66) kq 34 (incBy 2) xb (marks 66) k) (fun i _ => xb.length - (intOf i).toNat)
     case atStart => exact ⟨0, by omega, rfl, TU.out⟩
     case round =>
      obtain ⟨j, hj, rfl, hT⟩ := hrel
      clear TU
      by_cases hlt : j < xb.length
      · have hcj : wr.cell? ⟨gq, j, none⟩ = some (.int .u8 ((xb[j]).val : Int)) := hT.own.cell (turned_get _ _ _ _ hlt)
        have hfj := hT.own.frozen j
        have hib := incBy_val 2 (xb[j])
        have HT2 := Lib.hid (hT.step hlt)
        rw [← hib] at HT2
        have hxj := (xb[j]).lt
        clear hT hib
        go_wp2_with fail
        go_roundw
        case rel => exact ⟨j + 1, by omega, by go_num, HT2.out⟩
        case measure => simp [intOf]; omega
      · obtain ⟨w14, rfl⟩ : ∃ W, W = wr := ⟨_, rfl⟩
        have ht := hT.touch
        have HQ1 := hT.own
        rw [show j = xb.length by omega, turned_all] at HQ1
        have l14 := ht.size
        replace OA := Lib.hid (OA.out.touch ht fun k h1 h2 e => by have : k = gq := e; omega)
        replace OB := Lib.hid (OB.out.touch ht fun k h1 h2 e => by have : k = gq := e; omega)
        replace OW := Lib.hid (OW.out.touch ht fun k h1 h2 e => by have : k = gq := e; omega)
        replace OD := Lib.hid (OD.out.touch ht fun k h1 h2 e => by have : k = gq := e; omega)
        replace OE := Lib.hid (OE.out.touch ht fun k h1 h2 e => by have : k = gq := e; omega)
        replace HQ := Lib.hid HQ1
        replace HP := Lib.hid (HP.out.touch ht fun g' hg e => by injection hg with hg; have : g' = gq := e; have : _ = g' := hg; simp at *; omega)
        replace RA := Lib.hid (RA0.out.over Y0.out ht fun k h1 e => by have : k = gq := e; omega)
        replace RB := Lib.hid (RB0.out.over Y0.out ht fun k h1 e => by have : k = gq := e; omega)
        replace RC := Lib.hid (RC0.out.over Y0.out ht fun k h1 e => by have : k = gq := e; omega)
        replace BK := Lib.hid (BK.out.touch ht fun e => by have : w.heap.size = gq := e; omega)
        replace Y := Lib.hid (Y.out.touched ht fun k e => by have : k = gq := e; omega)
        replace Y0 := Lib.hid (Y0.out.touched ht fun k e => by have : k = gq := e; omega)
        clear hT ht HQ1
        have q4 : World.cell? w14 ⟨w.heap.size, 4, none⟩ = some (Value.int .i64 bl) := BK.out.cell 4
        go_wp2_with fail
        clear q4
        refine (ask_n i hi (some ⟨gp, 0, none⟩) (some ⟨gq, 0, none⟩) _ _ kp kq (xa.map (incBy 1)) (xb.map (incBy 2)) x bl _ (by simp) (by simp) HP.out.front HQ.out.front (by omega) (by omega) (by omega) (by omega) (by simp only [maxLen]; omega) hwb).mono ?_
        rintro e w15 ⟨Gg, kg, Vg, rg, rfl, han, hol, hx, hlen, hp0, hp3⟩
        have AN := Lib.hid han
        have ng0 : 0 < rg.length := hp0
        have ng3 : rg.length ≤ 3 := hp3
        clear hp0 hp3 han
        have OG0 := Slab.of hol
        have OG := Lib.hid OG0
        have LG := Lib.hid hlen
        clear OG0 hol hlen
        have l15 := hx.le
        replace BK := Lib.hid (BK.out.ext hx)
        replace RA := Lib.hid (RA.out.ext hx)
        replace RB := Lib.hid (RB.out.ext hx)
        replace RC := Lib.hid (RC.out.ext hx)
        replace HP := Lib.hid (HP.out.ext hx)
        replace HQ := Lib.hid (HQ.out.ext hx)
        replace OA := Lib.hid (OA.out.ext hx)
        replace OB := Lib.hid (OB.out.ext hx)
        replace OW := Lib.hid (OW.out.ext hx)
        replace OD := Lib.hid (OD.out.ext hx)
        replace OE := Lib.hid (OE.out.ext hx)
        replace Y := Lib.hid (Y.out.trans hx)
        replace Y0 := Lib.hid (Y0.out.trans hx)
        clear hx
        go_wp2_with fail
        refine (alike_n (some ⟨Ga, 0, none⟩) (some ⟨Gw, 0, none⟩) _ _ ka kw ra _ rfl rfl OA.out.rd OW.out.rd (by omega) (fun r hr => Nat.le_trans (LA.out r hr) (by omega))).mono ?_
        rintro e w16 ⟨rfl, hx⟩
        have l16 := hx.le
        replace BK := Lib.hid (BK.out.ext hx)
        replace RA := Lib.hid (RA.out.ext hx)
        replace RB := Lib.hid (RB.out.ext hx)
        replace RC := Lib.hid (RC.out.ext hx)
        replace HP := Lib.hid (HP.out.ext hx)
        replace HQ := Lib.hid (HQ.out.ext hx)
        replace OA := Lib.hid (OA.out.ext hx)
        replace OB := Lib.hid (OB.out.ext hx)
        replace OW := Lib.hid (OW.out.ext hx)
        replace OD := Lib.hid (OD.out.ext hx)
        replace OE := Lib.hid (OE.out.ext hx)
        replace OG := Lib.hid (OG.out.ext hx)
        replace Y := Lib.hid (Y.out.trans hx)
        replace Y0 := Lib.hid (Y0.out.trans hx)
        clear hx
        go_wp2_with fail
        refine (alike_n (some ⟨Gb, 0, none⟩) (some ⟨Gw, 0, none⟩) _ _ kb kw ra _ rfl rfl OB.out.rd OW.out.rd (by omega) (fun r hr => Nat.le_trans (LA.out r hr) (by omega))).mono ?_
        rintro e w17 ⟨rfl, hx⟩
        have l17 := hx.le
        replace BK := Lib.hid (BK.out.ext hx)
        replace RA := Lib.hid (RA.out.ext hx)
        replace RB := Lib.hid (RB.out.ext hx)
        replace RC := Lib.hid (RC.out.ext hx)
        replace HP := Lib.hid (HP.out.ext hx)
        replace HQ := Lib.hid (HQ.out.ext hx)
        replace OA := Lib.hid (OA.out.ext hx)
        replace OB := Lib.hid (OB.out.ext hx)
        replace OW := Lib.hid (OW.out.ext hx)
        replace OD := Lib.hid (OD.out.ext hx)
        replace OE := Lib.hid (OE.out.ext hx)
        replace OG := Lib.hid (OG.out.ext hx)
        replace Y := Lib.hid (Y.out.trans hx)
        replace Y0 := Lib.hid (Y0.out.trans hx)
        clear hx
        go_wp2_with fail
        refine (alike_n (some ⟨Ge, 0, none⟩) (some ⟨Gw, 0, none⟩) _ _ ke kw ra _ rfl rfl OE.out.rd OW.out.rd (by omega) (fun r hr => Nat.le_trans (LA.out r hr) (by omega))).mono ?_
        rintro e w18 ⟨rfl, hx⟩
        have l18 := hx.le
        replace BK := Lib.hid (BK.out.ext hx)
        replace RA := Lib.hid (RA.out.ext hx)
        replace RB := Lib.hid (RB.out.ext hx)
        replace RC := Lib.hid (RC.out.ext hx)
        replace HP := Lib.hid (HP.out.ext hx)
        replace HQ := Lib.hid (HQ.out.ext hx)
        replace OA := Lib.hid (OA.out.ext hx)
        replace OB := Lib.hid (OB.out.ext hx)
        replace OW := Lib.hid (OW.out.ext hx)
        replace OD := Lib.hid (OD.out.ext hx)
        replace OE := Lib.hid (OE.out.ext hx)
        replace OG := Lib.hid (OG.out.ext hx)
        replace Y := Lib.hid (Y.out.trans hx)
        replace Y0 := Lib.hid (Y0.out.trans hx)
        clear hx
        have h0 : Own ((w18).alloc (.cells #[] 34)) (w18).heap.size 34 (.slice (some ⟨(w18).heap.size, 0, none⟩) 0 0) [] := (Blk.new w18 34 #[]).own (Nat.le_refl _) (Nat.le_refl _) (Nat.zero_le _) rfl
        have hbd1 : (([] : List Value).length + xa.length) * 1 ≤ 140737488355328 := by simp; omega
        have hl1 := bs_length (xa.map (incBy 1))
        rw [List.length_map] at hl1
        have HL1 := Lib.hid hl1
        clear hl1
        go_wp2_with (at_builtin; refine wpList_app ((w18).alloc (.cells #[] 34)) eltEl rfl _ _ (by rfl) (w18).heap.size (.slice (some ⟨(w18).heap.size, 0, none⟩) 0 0) [] (by rfl) (by exact h0) (some ⟨gp, 0, none⟩) xa.length kp (bs (xa.map (incBy 1))) (by rfl) (HP.out.front.alloc _) HL1.out (bs_ones _) hbd1 (by simp) ?_)
        intro u w19 ho hmv
        have hx : Ext w18 w19 := ((Ext.refl w18).alloc _).below.trans (hmv.below (by simp) fun g hg => by simp [Value.ownBlock] at hg; omega)
        have ho' : Own w19 (w18).heap.size 34 u (bs (xa.map (incBy 1))) := by simpa using ho
        obtain ⟨Ax, kx, rfl, rAx, cAx, mAx⟩ := ho'.bytesN (n := xa.length) (by simp)
        simp only [maxLen] at mAx
        have RX := Lib.hid rAx
        clear h0 hbd1 HL1 ho ho' hmv rAx
        have l19 := hx.le
        replace BK := Lib.hid (BK.out.ext hx)
        replace RA := Lib.hid (RA.out.ext hx)
        replace RB := Lib.hid (RB.out.ext hx)
        replace RC := Lib.hid (RC.out.ext hx)
        replace HP := Lib.hid (HP.out.ext hx)
        replace HQ := Lib.hid (HQ.out.ext hx)
        replace OA := Lib.hid (OA.out.ext hx)
        replace OB := Lib.hid (OB.out.ext hx)
        replace OW := Lib.hid (OW.out.ext hx)
        replace OD := Lib.hid (OD.out.ext hx)
        replace OE := Lib.hid (OE.out.ext hx)
        replace OG := Lib.hid (OG.out.ext hx)
        replace Y := Lib.hid (Y.out.trans hx)
        replace Y0 := Lib.hid (Y0.out.trans hx)
        clear hx
        have h0 : Own ((w19).alloc (.cells #[] 34)) (w19).heap.size 34 (.slice (some ⟨(w19).heap.size, 0, none⟩) 0 0) [] := (Blk.new w19 34 #[]).own (Nat.le_refl _) (Nat.le_refl _) (Nat.zero_le _) rfl
        have hbd1 : (([] : List Value).length + xb.length) * 1 ≤ 140737488355328 := by simp; omega
        have hl1 := bs_length (xb.map (incBy 2))
        rw [List.length_map] at hl1
        have HL1 := Lib.hid hl1
        clear hl1
        go_wp2_with (at_builtin; refine wpList_app ((w19).alloc (.cells #[] 34)) eltEl rfl _ _ (by rfl) (w19).heap.size (.slice (some ⟨(w19).heap.size, 0, none⟩) 0 0) [] (by rfl) (by exact h0) (some ⟨gq, 0, none⟩) xb.length kq (bs (xb.map (incBy 2))) (by rfl) (HQ.out.front.alloc _) HL1.out (bs_ones _) hbd1 (by simp) ?_)
        intro u w20 ho hmv
        have hx : Ext w19 w20 := ((Ext.refl w19).alloc _).below.trans (hmv.below (by simp) fun g hg => by simp [Value.ownBlock] at hg; omega)
        have ho' : Own w20 (w19).heap.size 34 u (bs (xb.map (incBy 2))) := by simpa using ho
        obtain ⟨Ay, ky, rfl, rAy, cAy, mAy⟩ := ho'.bytesN (n := xb.length) (by simp)
        simp only [maxLen] at mAy
        have RY := Lib.hid rAy
        clear h0 hbd1 HL1 ho ho' hmv rAy
        have l20 := hx.le
        replace BK := Lib.hid (BK.out.ext hx)
        replace RA := Lib.hid (RA.out.ext hx)
        replace RB := Lib.hid (RB.out.ext hx)
        replace RC := Lib.hid (RC.out.ext hx)
        replace HP := Lib.hid (HP.out.ext hx)
        replace HQ := Lib.hid (HQ.out.ext hx)
        replace OA := Lib.hid (OA.out.ext hx)
        replace OB := Lib.hid (OB.out.ext hx)
        replace OW := Lib.hid (OW.out.ext hx)
        replace OD := Lib.hid (OD.out.ext hx)
        replace OE := Lib.hid (OE.out.ext hx)
        replace OG := Lib.hid (OG.out.ext hx)
        replace RX := Lib.hid (RX.out.ext hx)
        replace Y := Lib.hid (Y.out.trans hx)
        replace Y0 := Lib.hid (Y0.out.trans hx)
        clear hx
        have q4 : World.cell? w20 ⟨w.heap.size, 4, none⟩ = some (Value.int .i64 bl) := BK.out.cell 4
        go_wp2_with fail
        clear q4
        refine (ask_n i hi Ax Ay _ _ kx ky (xa.map (incBy 1)) (xb.map (incBy 2)) x bl _ (by simp) (by simp) RX.out RY.out (by omega) (by omega) (by omega) (by omega) (by simp only [maxLen]; omega) hwb).mono ?_
        rintro e w21 ⟨Gh, kh, Vh, rh, rfl, han, hol, hx, hlen, hp0, hp3⟩
        obtain rfl := Ans.uniq AN.out han
        clear hp0 hp3 han AN
        have OH0 := Slab.of hol
        have OH := Lib.hid OH0
        have LH := Lib.hid hlen
        clear OH0 hol hlen
        have l21 := hx.le
        replace BK := Lib.hid (BK.out.ext hx)
        replace RA := Lib.hid (RA.out.ext hx)
        replace RB := Lib.hid (RB.out.ext hx)
        replace RC := Lib.hid (RC.out.ext hx)
        replace HP := Lib.hid (HP.out.ext hx)
        replace HQ := Lib.hid (HQ.out.ext hx)
        replace OA := Lib.hid (OA.out.ext hx)
        replace OB := Lib.hid (OB.out.ext hx)
        replace OW := Lib.hid (OW.out.ext hx)
        replace OD := Lib.hid (OD.out.ext hx)
        replace OE := Lib.hid (OE.out.ext hx)
        replace OG := Lib.hid (OG.out.ext hx)
        replace RX := Lib.hid (RX.out.ext hx)
        replace RY := Lib.hid (RY.out.ext hx)
        replace Y := Lib.hid (Y.out.trans hx)
        replace Y0 := Lib.hid (Y0.out.trans hx)
        clear hx
        go_wp2_with fail
        refine (alike_n (some ⟨Gg, 0, none⟩) (some ⟨Gh, 0, none⟩) _ _ kg kh rg _ rfl rfl OG.out.rd OH.out.rd (by omega) (fun r hr => Nat.le_trans (LG.out r hr) (by omega))).mono ?_
        rintro e w22 ⟨rfl, hx⟩
        have l22 := hx.le
        replace BK := Lib.hid (BK.out.ext hx)
        replace RA := Lib.hid (RA.out.ext hx)
        replace RB := Lib.hid (RB.out.ext hx)
        replace RC := Lib.hid (RC.out.ext hx)
        replace HP := Lib.hid (HP.out.ext hx)
        replace HQ := Lib.hid (HQ.out.ext hx)
        replace OA := Lib.hid (OA.out.ext hx)
        replace OB := Lib.hid (OB.out.ext hx)
        replace OW := Lib.hid (OW.out.ext hx)
        replace OD := Lib.hid (OD.out.ext hx)
        replace OE := Lib.hid (OE.out.ext hx)
        replace OG := Lib.hid (OG.out.ext hx)
        replace RX := Lib.hid (RX.out.ext hx)
        replace RY := Lib.hid (RY.out.ext hx)
        replace OH := Lib.hid (OH.out.ext hx)
        replace Y := Lib.hid (Y.out.trans hx)
        replace Y0 := Lib.hid (Y0.out.trans hx)
        clear hx
        clear RX RY HP HQ
        have T : Hid (Touch (fun k => (w22).heap.size ≤ k) w22 w22) := Lib.hid (Touch.refl _)
        have HALL : Hid (Own w22 (w22).heap.size 26 (.slice none 0 0) []) := Lib.hid (Own.nil _ _ _)
        have lA : (w22).heap.size ≤ (w22).heap.size := Nat.le_refl _
        have nVa := Lib.hid OA.out.ol.len
        have nVb := Lib.hid OB.out.ol.len
        have nVd := Lib.hid OD.out.ol.len
        have nVe := Lib.hid OE.out.ol.len
        have nVg := Lib.hid OG.out.ol.len
        have nVh := Lib.hid OH.out.ol.len
        have HRD : Hid (Rd w22 (some ⟨Ga, 0, none⟩) Va) := Lib.hid ((OA.out.touch T.out (fun k h1 h2 e => by have : (w22).heap.size ≤ k := e; omega)).ol.list.rd)
        have HON := Lib.hid (Pile.of OA.out).ones
        have hbd : (([] : List Value).length + ra.length) * 24 ≤ 140737488355328 := by rw [List.length_nil]; omega
        go_wp2_with (at_builtin; refine wpList_app w22 eltRowEl rfl _ _ (by rfl) (w22).heap.size (.slice none 0 0) ([] : List Value) (by rfl) (by exact HALL.out) (some ⟨Ga, 0, none⟩) ra.length ka Va (by rfl) HRD.out nVa.out HON.out hbd lA ?_)
        intro v0 w23 ho hmv
        have ho' : Own w23 (w22).heap.size 26 v0 (Va) := by simpa only [List.append_assoc, List.nil_append] using ho
        replace T := Lib.hid (T.out.trans (touch_grown hmv.grown fun k hk _ => (HALL.out.lt k hk).1))
        replace HALL := Lib.hid ho'
        replace lA : (w22).heap.size ≤ (w23).heap.size := T.out.size
        clear ho ho' hmv HRD HON hbd
        have HRD : Hid (Rd w23 (some ⟨Gb, 0, none⟩) Vb) := Lib.hid ((OB.out.touch T.out (fun k h1 h2 e => by have : (w22).heap.size ≤ k := e; omega)).ol.list.rd)
        have HON := Lib.hid (Pile.of OB.out).ones
        have hbd : ((Va).length + ra.length) * 24 ≤ 140737488355328 := by have := nVa.out; skip; omega
        go_wp2_with (at_builtin; refine wpList_app w23 eltRowEl rfl _ _ (by rfl) (w22).heap.size (v0) (Va) (by rfl) (by exact HALL.out) (some ⟨Gb, 0, none⟩) ra.length kb Vb (by rfl) HRD.out nVb.out HON.out hbd lA ?_)
        intro v1 w24 ho hmv
        have ho' : Own w24 (w22).heap.size 26 v1 (Va ++ (Vb)) := by simpa only [List.append_assoc, List.nil_append] using ho
        replace T := Lib.hid (T.out.trans (touch_grown hmv.grown fun k hk _ => (HALL.out.lt k hk).1))
        replace HALL := Lib.hid ho'
        replace lA : (w22).heap.size ≤ (w24).heap.size := T.out.size
        clear ho ho' hmv HRD HON hbd
        have HRD : Hid (Rd w24 (some ⟨Gd, 0, none⟩) Vd) := Lib.hid ((OD.out.touch T.out (fun k h1 h2 e => by have : (w22).heap.size ≤ k := e; omega)).ol.list.rd)
        have HON := Lib.hid (Pile.of OD.out).ones
        have hbd : ((Va ++ (Vb)).length + rd.length) * 24 ≤ 140737488355328 := by have := nVa.out; have := nVb.out; simp only [List.length_append]; omega
        go_wp2_with (at_builtin; refine wpList_app w24 eltRowEl rfl _ _ (by rfl) (w22).heap.size (v1) (Va ++ (Vb)) (by rfl) (by exact HALL.out) (some ⟨Gd, 0, none⟩) rd.length kd Vd (by rfl) HRD.out nVd.out HON.out hbd lA ?_)
        intro v2 w25 ho hmv
        have ho' : Own w25 (w22).heap.size 26 v2 (Va ++ (Vb ++ (Vd))) := by simpa only [List.append_assoc, List.nil_append] using ho
        replace T := Lib.hid (T.out.trans (touch_grown hmv.grown fun k hk _ => (HALL.out.lt k hk).1))
        replace HALL := Lib.hid ho'
        replace lA : (w22).heap.size ≤ (w25).heap.size := T.out.size
        clear ho ho' hmv HRD HON hbd
        have HRD : Hid (Rd w25 (some ⟨Ge, 0, none⟩) Ve) := Lib.hid ((OE.out.touch T.out (fun k h1 h2 e => by have : (w22).heap.size ≤ k := e; omega)).ol.list.rd)
        have HON := Lib.hid (Pile.of OE.out).ones
        have hbd : ((Va ++ (Vb ++ (Vd))).length + ra.length) * 24 ≤ 140737488355328 := by have := nVa.out; have := nVb.out; have := nVd.out; simp only [List.length_append]; omega
        go_wp2_with (at_builtin; refine wpList_app w25 eltRowEl rfl _ _ (by rfl) (w22).heap.size (v2) (Va ++ (Vb ++ (Vd))) (by rfl) (by exact HALL.out) (some ⟨Ge, 0, none⟩) ra.length ke Ve (by rfl) HRD.out nVe.out HON.out hbd lA ?_)
        intro v3 w26 ho hmv
        have ho' : Own w26 (w22).heap.size 26 v3 (Va ++ (Vb ++ (Vd ++ (Ve)))) := by simpa only [List.append_assoc, List.nil_append] using ho
        replace T := Lib.hid (T.out.trans (touch_grown hmv.grown fun k hk _ => (HALL.out.lt k hk).1))
        replace HALL := Lib.hid ho'
        replace lA : (w22).heap.size ≤ (w26).heap.size := T.out.size
        clear ho ho' hmv HRD HON hbd
        have HRD : Hid (Rd w26 (some ⟨Gg, 0, none⟩) Vg) := Lib.hid ((OG.out.touch T.out (fun k h1 h2 e => by have : (w22).heap.size ≤ k := e; omega)).ol.list.rd)
        have HON := Lib.hid (Pile.of OG.out).ones
        have hbd : ((Va ++ (Vb ++ (Vd ++ (Ve)))).length + rg.length) * 24 ≤ 140737488355328 := by have := nVa.out; have := nVb.out; have := nVd.out; have := nVe.out; simp only [List.length_append]; omega
        go_wp2_with (at_builtin; refine wpList_app w26 eltRowEl rfl _ _ (by rfl) (w22).heap.size (v3) (Va ++ (Vb ++ (Vd ++ (Ve)))) (by rfl) (by exact HALL.out) (some ⟨Gg, 0, none⟩) rg.length kg Vg (by rfl) HRD.out nVg.out HON.out hbd lA ?_)
        intro v4 w27 ho hmv
        have ho' : Own w27 (w22).heap.size 26 v4 (Va ++ (Vb ++ (Vd ++ (Ve ++ (Vg))))) := by simpa only [List.append_assoc, List.nil_append] using ho
        replace T := Lib.hid (T.out.trans (touch_grown hmv.grown fun k hk _ => (HALL.out.lt k hk).1))
        replace HALL := Lib.hid ho'
        replace lA : (w22).heap.size ≤ (w27).heap.size := T.out.size
        clear ho ho' hmv HRD HON hbd
        have HRD : Hid (Rd w27 (some ⟨Gh, 0, none⟩) Vh) := Lib.hid ((OH.out.touch T.out (fun k h1 h2 e => by have : (w22).heap.size ≤ k := e; omega)).ol.list.rd)
        have HON := Lib.hid (Pile.of OH.out).ones
        have hbd : ((Va ++ (Vb ++ (Vd ++ (Ve ++ (Vg))))).length + rg.length) * 24 ≤ 140737488355328 := by have := nVa.out; have := nVb.out; have := nVd.out; have := nVe.out; have := nVg.out; simp only [List.length_append]; omega
        go_wp2_with (at_builtin; refine wpList_app w27 eltRowEl rfl _ _ (by rfl) (w22).heap.size (v4) (Va ++ (Vb ++ (Vd ++ (Ve ++ (Vg))))) (by rfl) (by exact HALL.out) (some ⟨Gh, 0, none⟩) rg.length kh Vh (by rfl) HRD.out nVh.out HON.out hbd lA ?_)
        intro v5 w28 ho hmv
        have ho' : Own w28 (w22).heap.size 26 v5 (Va ++ (Vb ++ (Vd ++ (Ve ++ (Vg ++ (Vh)))))) := by simpa only [List.append_assoc, List.nil_append] using ho
        replace T := Lib.hid (T.out.trans (touch_grown hmv.grown fun k hk _ => (HALL.out.lt k hk).1))
        replace HALL := Lib.hid ho'
        replace lA : (w22).heap.size ≤ (w28).heap.size := T.out.size
        clear ho ho' hmv HRD HON hbd
        obtain ⟨Gz, kz, hv⟩ := own_some HALL.out (by have := nVa.out; have := nVb.out; have := nVd.out; have := nVe.out; have := nVg.out; have := nVh.out; simp only [List.length_append]; omega)
        obtain ⟨N, hN⟩ : ∃ N, (Va ++ (Vb ++ (Vd ++ (Ve ++ (Vg ++ (Vh)))))).length = N := ⟨_, rfl⟩
        have hNb : 0 < N ∧ N ≤ 18 := by have := nVa.out; have := nVb.out; have := nVd.out; have := nVe.out; have := nVg.out; have := nVh.out; rw [← hN]; simp only [List.length_append]; omega
        obtain ⟨hN0, hN18⟩ := hNb
        rw [hN] at hv
        subst hv
        have P5 := Pile.of OH.out
        have P4 := (Pile.of OG.out).append P5 (by omega) (by omega) (by omega)
        have P3 := (Pile.of OE.out).append P4 (by omega) (by omega) (by omega)
        have P2 := (Pile.of OD.out).append P3 (by omega) (by omega) (by omega)
        have P1 := (Pile.of OB.out).append P2 (by omega) (by omega) (by omega)
        have P0 := (Pile.of OA.out).append P1 (by omega) (by omega) (by omega)
        have HIN : Hid (∀ k, InRows (Va ++ (Vb ++ (Vd ++ (Ve ++ (Vg ++ (Vh)))))) k → w2.heap.size ≤ k ∧ (k < w4.heap.size ∨ w5.heap.size ≤ k) ∧ k < (w22).heap.size) := Lib.hid fun k hk => by
          have sp : ∀ {V U : List Value}, InRows (V ++ U) k → InRows V k ∨ InRows U k := fun h => h.append
          rcases sp hk with hk | hk
          · have := (Pile.of OA.out).within hk; omega
          rcases sp hk with hk | hk
          · have := (Pile.of OB.out).within hk; omega
          rcases sp hk with hk | hk
          · have := (Pile.of OD.out).within hk; omega
          rcases sp hk with hk | hk
          · have := (Pile.of OE.out).within hk; omega
          rcases sp hk with hk | hk
          · have := (Pile.of OG.out).within hk; omega
          have := (Pile.of OH.out).within hk; omega
        have PA := Lib.hid (P0.touch T.out fun k h1 h2 e => by have : (w22).heap.size ≤ k := e; omega)
        clear P0 P1 P2 P3 P4 P5
        have HLA : Hid (∀ r ∈ (ra ++ (ra ++ (rd ++ (ra ++ (rg ++ (rg)))))), r.length ≤ 100000000000000) := Lib.hid fun r hr => by
          simp only [List.mem_append] at hr
          rcases hr with hr | hr | hr | hr | hr | hr
          · exact LA.out r hr
          · exact LA.out r hr
          · exact LD.out r hr
          · exact LA.out r hr
          · exact LG.out r hr
          · exact LG.out r hr
        have HAL := Lib.hid HALL.out
        have HNN := Lib.hid hN
        clear hN HAL
        go_wp2_with fail
        refine (apart_n Gz kz N (Va ++ (Vb ++ (Vd ++ (Ve ++ (Vg ++ (Vh)))))) (fun i => (ra ++ (ra ++ (rd ++ (ra ++ (rg ++ (rg)))))).getD i []) w2.heap.size (w22).heap.size _ HNN.out HALL.out ⟨PA.out.rows⟩ PA.out.far (by omega) (fun i => getD_len HLA.out i) (by omega) hN0).mono ?_
        rintro e w29 ⟨rfl, ta⟩
        have l29 := ta.size
        replace OW := Lib.hid ((OW.out.touch T.out fun k h1 h2 e => by have : (w22).heap.size ≤ k := e; omega).touch ta fun k h1 h2 e => by have := HIN.out k e; omega)
        replace RA := Lib.hid ((RA0.out.over (Y0.out.touched T.out fun k e => by have : (w22).heap.size ≤ k := e; omega) ta fun k h1 e => by have := HIN.out k e; omega))
        replace RB := Lib.hid ((RB0.out.over (Y0.out.touched T.out fun k e => by have : (w22).heap.size ≤ k := e; omega) ta fun k h1 e => by have := HIN.out k e; omega))
        replace BK := Lib.hid ((BK.out.touch T.out fun e => by have : (w22).heap.size ≤ w.heap.size := e; omega).touch ta fun e => by have := HIN.out _ e; omega)
        replace Y := Lib.hid ((Y.out.touched T.out fun k e => by have : (w22).heap.size ≤ k := e; omega).touched ta fun k e => by have := HIN.out k e; omega)
        clear ta T HALL PA HIN HLA HNN OA OB OD OE OG OH nVa nVb nVd nVe nVg nVh LD LG RC
        go_wp2_with fail
        refine wp_region_mix (fun i => [0, 0, 0, 1, 0, 0, 1, 0, 0, 0, 1, 0, 1, 3].getD i 0) (fun w' => Ext w29 w') hmo (by kernel_rfl) (by kernel_rfl) ((Ext.refl _).drewN 1) ?_
        have xd : Ext w29 (World.drew w29) := (Ext.refl _).drewN 1
        have b0 : ∀ w', Ext w29 w' → w'.cell? ⟨w.heap.size, 0, none⟩ = some (Value.slice Aa xa.length ca) := fun w' h => (BK.out.ext h).cell 0
        have b1 : ∀ w', Ext w29 w' → w'.cell? ⟨w.heap.size, 1, none⟩ = some (Value.slice Ab xb.length cb) := fun w' h => (BK.out.ext h).cell 1
        have b4 : ∀ w', Ext w29 w' → w'.cell? ⟨w.heap.size, 4, none⟩ = some (Value.int .i64 bl) := fun w' h => (BK.out.ext h).cell 4
        refine mix_still (.int .i64 (i : Int)) rfl (fun w' hw' => by go_simp) ?_
        refine mix_still (.pointer (some ⟨w.heap.size, 0, none⟩)) rfl (fun w' hw' => by go_simp) ?_
        refine mix_still (Value.slice Aa xa.length ca) rfl (fun w' hw' => by have := b0 w' hw'; go_simp) ?_
        refine mix_call 54 #[Value.slice Aa xa.length ca] rfl (by go_simp) ?_
        refine (elems_n Aa _ xa ca _ rfl (RA.out.ext xd) (by omega)).mono ?_
        rintro e z1 ⟨v, rfl, ho, hx1⟩
        have x1 := xd.trans hx1
        obtain ⟨A1, k1, rfl, hr1, hc1, hm1⟩ := ho.bytesN rfl
        simp only [maxLen] at hm1
        refine ⟨_, rfl, x1, ?_⟩
        refine mix_still (.pointer (some ⟨w.heap.size, 1, none⟩)) rfl (fun w' hw' => by go_simp) ?_
        refine mix_still (Value.slice Ab xb.length cb) rfl (fun w' hw' => by have := b1 w' hw'; go_simp) ?_
        refine mix_call 54 #[Value.slice Ab xb.length cb] rfl (by go_simp) ?_
        refine (elems_n Ab _ xb cb _ rfl (RB.out.ext x1) (by omega)).mono ?_
        rintro e z2 ⟨v, rfl, ho2, hx2⟩
        have x2 := x1.trans hx2
        obtain ⟨A2, k2, rfl, hr2, hc2, hm2⟩ := ho2.bytesN rfl
        simp only [maxLen] at hm2
        refine ⟨_, rfl, x2, ?_⟩
        refine mix_still (.int .u8 (x.val : Int)) rfl (fun w' hw' => by go_simp) ?_
        refine mix_still (.pointer (some ⟨w.heap.size, 4, none⟩)) rfl (fun w' hw' => by go_simp) ?_
        refine mix_still (Value.int .i64 bl) rfl (fun w' hw' => by have := b4 w' hw'; go_simp) ?_
        refine mix_call 98 #[.int .i64 (i : Int), .slice A1 xa.length k1, .slice A2 xb.length k2, .int .u8 (x.val : Int), .int .i64 bl] rfl (by go_simp) ?_
        refine (ask_n i hi A1 A2 _ _ k1 k2 xa xb x bl _ rfl rfl (hr1.ext hx2) hr2 (by omega) (by omega) (by omega) (by omega) (by simp only [maxLen]; omega) hwb).mono ?_
        rintro e z3 ⟨Gf, kf, Vf, rf, rfl, han, hol, hx3, hlen, hp0, hp3⟩
        obtain rfl := Ans.uniq AF.out han
        have x3 := x2.trans hx3
        refine ⟨_, rfl, x3, ?_⟩
        refine mix_still (.slice (some ⟨Gw, 0, none⟩) ra.length kw) rfl (fun w' hw' => by go_simp) ?_
        refine mix_call 100 #[.slice (some ⟨Gf, 0, none⟩) ra.length kf, .slice (some ⟨Gw, 0, none⟩) ra.length kw] rfl (by go_simp) ?_
        refine (alike_n (some ⟨Gf, 0, none⟩) (some ⟨Gw, 0, none⟩) _ _ kf kw ra _ rfl rfl hol.rd ((OW.out.ext x3).rd) (by omega) (fun r hr => Nat.le_trans (LA.out r hr) (by omega))).mono ?_
        rintro e z4 ⟨rfl, hx4⟩
        have x4 := x3.trans hx4
        refine ⟨_, rfl, x4, ?_⟩
        refine mix_pure (.bool true) rfl (fun w' => by go_simp) ?_
        refine mix_nil ?_
        have hfin := Y.out.trans x4
        clear hx1 hx2 hx3 hx4 x1 x2 x3 x4 xd b0 b1 b4 hol hlen han ho ho2 hr1 hr2
        go_wp2_with fail
        refine bodyPost_ret (results_tmp rfl _ _ _) rfl ?_
        refine ⟨?_, hfin⟩
        first | (with_reducible rfl) | (simp; done) | go_simp
end Go.Proofs.Ytemnlcfabaocbaa
