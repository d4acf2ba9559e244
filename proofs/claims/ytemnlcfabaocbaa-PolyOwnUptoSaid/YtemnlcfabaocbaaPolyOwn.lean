/-
  The law 'PolyOwn': for every input whose bulk is at most 1048576 it returns true and leaves its arguments as they were. The frame is after the kit's shell; the walk is ours. No further condition.
-/
import Derived.Test.YtemnlcfabaocbaaRows
import Derived.Test.YtemnlcfabaocbaaOpenU
import Derived.Test.YtemnlcfabaocbaaOwn
import Derived.Test.YtemnlcfabaocbaaOpen
import Derived.WalkKit
import Derived.ProofKit
import Derived.OpenShut
import Derived.ShutString
import Derived.ChangeOld
import Derived.Below
namespace Go.Proofs.Ytemnlcfabaocbaa.polyOwn
open Go.ChangeShapes Go.WideShapes Go.ChangeAt Go.RowKit
set_option linter.unusedVariables false
open Gf

theorem own : ownKnob Try.prog.godebug = none := by kernel_rfl
theorem laidOut : laidOutB Try.prog = true := by kernel_rfl

set_option maxRecDepth 20000 in
set_option maxHeartbeats 4000000 in
theorem walk (w : World) (Aa : Option Addr) (ca : Nat) (xa : List E) (Ab : Option Addr) (cb : Nat) (xb : List E) (Ac : Option Addr) (cc : Nat) (xc : List E) (x : E) (bl : Int) (hra : Rd w Aa (bs xa)) (hla : xa.length ≤ ca) (hca : ca ≤ 1048576) (hrb : Rd w Ab (bs xb)) (hlb : xb.length ≤ cb) (hcb : cb ≤ 1048576) (hrc : Rd w Ac (bs xc)) (hlc : xc.length ≤ cc) (hcc : cc ≤ 1048576) (hwb : (Lit.int .i64 bl).wf = true) :
    Calls Try.prog 15 #[.agg #[.slice Aa xa.length ca, .slice Ab xb.length cb, .slice Ac xc.length cc, .int .u8 (x.val : Int), .int .i64 bl]] w fun e w' => e = .returned (.bool true) ∧ Below w.heap.size w w' := by
  obtain ⟨wb, hwb0⟩ : ∃ wb, wb = w.alloc (.cells #[.slice Aa xa.length ca, .slice Ab xb.length cb, .slice Ac xc.length cc, .int .u8 (x.val : Int), .int .i64 bl] 59) := ⟨_, rfl⟩
  have hblk : Blk wb w.heap.size 59 #[.slice Aa xa.length ca, .slice Ab xb.length cb, .slice Ac xc.length cc, .int .u8 (x.val : Int), .int .i64 bl] := by rw [hwb0]; exact Blk.new _ _ _
  replace hra : Rd wb Aa (bs xa) := by rw [hwb0]; exact hra.alloc _
  replace hrb : Rd wb Ab (bs xb) := by rw [hwb0]; exact hrb.alloc _
  replace hrc : Rd wb Ac (bs xc) := by rw [hwb0]; exact hrc.alloc _
  have hxb : Ext w wb := by rw [hwb0]; exact (Ext.refl w).alloc _
  have hxl := x.lt
  go_enter Try.func15, Try.ntmps15
  go_wp2_with fail
  rw [← hwb0]
  clear hwb0
  refine (awake_any _).mono ?_
  rintro e w1 ⟨rfl, y1⟩
  go_wp2_with fail
  go_loopw [4] (fun i wr => ∃ k : Nat, k ≤ 16 ∧ i = .int .i64 k ∧ Ext wb wr) (fun i _ => 16 - (intOf i).toNat)
  case atStart => exact ⟨0, by omega, rfl, y1⟩
  case round =>
    obtain ⟨k, hk, rfl, hx⟩ := hrel
    by_cases hlt : k < 16
    · have HO := Lib.hid (own_n k hlt wr Aa ca xa Ab cb xb Ac cc xc x bl (hra.ext hx) hla hca (hrb.ext hx) hlb hcb (hrc.ext hx) hlc hcc hwb)
      have q0 : World.cell? wr ⟨w.heap.size, 0, none⟩ = some (.slice Aa xa.length ca) := (hblk.below hx hblk.lt).cell 0
      have q1 : World.cell? wr ⟨w.heap.size, 1, none⟩ = some (.slice Ab xb.length cb) := (hblk.below hx hblk.lt).cell 1
      have q2 : World.cell? wr ⟨w.heap.size, 2, none⟩ = some (.slice Ac xc.length cc) := (hblk.below hx hblk.lt).cell 2
      have q3 : World.cell? wr ⟨w.heap.size, 3, none⟩ = some (.int .u8 (x.val : Int)) := (hblk.below hx hblk.lt).cell 3
      have q4 : World.cell? wr ⟨w.heap.size, 4, none⟩ = some (.int .i64 bl) := (hblk.below hx hblk.lt).cell 4
      have HX := Lib.hid hx
      clear hx
      go_wp2_with fail
      refine HO.out.mono ?_
      rintro e w2 ⟨rfl, hx2⟩
      have HX2 := Lib.hid (HX.out.trans hx2)
      clear hx2 HO
      go_wp2_with fail
      go_roundw
      case rel => exact ⟨k + 1, by omega, by go_num, HX2.out⟩
      case measure => simp [intOf]; omega
    · obtain rfl : k = 16 := by omega
      go_wp2
      go_ret
      exact ⟨rfl, hxb.trans hx⟩

set_option maxRecDepth 100000 in
theorem lifted (os : Os) (started : os.Started) (H : Type) (enc : TypeId × Value → H) (F : Stop.Interp) :
    ReturnsInHanded {} Try.checked os 15 .any ((Rows.OpenSpec.upto Rows.polyOwnSpec).pre6 enc Try.prog Try.f15 Rows.polyOwnUptoRow.domain false) (((Rows.OpenSpec.upto Rows.polyOwnSpec).at F).post enc Try.prog Try.f15 false true false false) := by
  refine returnsInHanded_of_cond_sized (C := Try.checked) (s := Rows.OpenSpec.upto Rows.polyOwnSpec) (k := Rows.uptoSmall) rfl own started (by kernel_rfl) Try.func15
    (OpenSpec.witness (enc := enc) (C := Try.checked) (s := Rows.OpenSpec.upto Rows.polyOwnSpec) (k := Rows.uptoSmall) rfl false ⟨#[], #[.agg #[.slice none 0 0, .slice none 0 0, .slice none 0 0, .int .u8 0, .int .i64 0]], []⟩ 8 (by kernel_rfl) (by kernel_rfl) (by kernel_rfl)
      (x := ([.agg [.nil, .nil, .nil, .lit (.int .u8 0), .lit (.int .i64 0)]], [], [])) (by kernel_rfl) rfl (by kernel_rfl)) ?_
  intro W base args ds gs before hval0 hW hcnd hk hsz0 _
  have hval : ∀ (j : Nat) t v, Try.f15.params[j]? = some t → args[j]? = some v → Value.okWide Try.prog W .any base t v := hval0
  have hsz : (DataW.weightsEach Try.prog (Try.f15.params.toList ++ Rows.polyOwnSpec.plain.varTypes Try.prog) (ds ++ gs)).all (· ≤ reachBytes) = true := hsz0
  have hW' := hW
  obtain ⟨p, q, hA0, hV, rfl, hfz, hnd⟩ := hW
  have hA : DataW.TrodAll enc Try.prog W 0 (fun _ => true) true Try.f15.params.toList args.toList ds p := hA0
  rw [Try.params15] at hA hval hsz
  obtain ⟨v0, vs0, d0, ds0, p0, q0, hargs, rfl, rfl, h0, r0⟩ := trodAll_cons hA
  obtain ⟨rfl, rfl, rfl⟩ := trodAll_nil r0
  obtain rfl : args = #[v0] := by cases args; simp_all
  obtain ⟨rfl, rfl⟩ := trodVars_none hV
  have k0 := h0
  have lt0 : ∀ x ∈ p0, x.block < W.heap.size := by obtain ⟨m, hm⟩ := k0; exact DataW.trod_lt m _ _ _ hm
  obtain ⟨Aa, ca, xa, Ab, cb, xb, Ac, cc, xc, x, bl, rfl, hra, hla, hca, hrb, hlb, hcb, hrc, hlc, hcc, hwb⟩ : ∃ (Aa : Option Addr) (ca : Nat) (xa : List E) (Ab : Option Addr) (cb : Nat) (xb : List E) (Ac : Option Addr) (cc : Nat) (xc : List E) (x : E) (bl : Int), v0 = .agg #[.slice Aa xa.length ca, .slice Ab xb.length cb, .slice Ac xc.length cc, .int .u8 (x.val : Int), .int .i64 bl] ∧
      Rd W Aa (bs xa) ∧ xa.length ≤ ca ∧ ca ≤ 1048576 ∧ Rd W Ab (bs xb) ∧ xb.length ≤ cb ∧ cb ≤ 1048576 ∧ Rd W Ac (bs xc) ∧ xc.length ≤ cc ∧ cc ≤ 1048576 ∧ (Lit.int .i64 bl).wf = true := by
    have hB := bulk_bound hk (d := d0) (by simp)
    obtain ⟨u0, u1, u2, u3, u4, y0, y1, y2, y3, y4, n, rfl, rfl, t0, t1, t2, t3, t4⟩ := open_agg5 Try.underlying59 (by kernel_rfl) (by kernel_rfl) (hval 0 59 v0 rfl rfl) h0
    simp only [Rows.uptoBulk, Rows.uptoBulkAll] at hB
    obtain ⟨A0, c0, z0, e0, a0, b0, g0⟩ := open_bytes_u Try.underlying24 Try.underlying5 (by kernel_rfl) t0 (by omega)
    simp at e0
    subst e0
    obtain ⟨A1, c1, z1, e1, a1, b1, g1⟩ := open_bytes_u Try.underlying24 Try.underlying5 (by kernel_rfl) t1 (by omega)
    simp at e1
    subst e1
    obtain ⟨A2, c2, z2, e2, a2, b2, g2⟩ := open_bytes_u Try.underlying24 Try.underlying5 (by kernel_rfl) t2 (by omega)
    simp at e2
    subst e2
    obtain ⟨n3, e3, _, w3⟩ := DataW.trod_int Try.underlying5 t3
    simp at e3
    subst e3
    obtain ⟨n4, e4, _, w4⟩ := DataW.trod_int Try.underlying3 t4
    simp at e4
    subst e4
    obtain ⟨x, rfl⟩ := toE w3
    exact ⟨_, _, _, _, _, _, _, _, _, x, n4, rfl, a0, b0, g0, a1, b1, g1, a2, b2, g2, w4⟩
  clear hA0 hval0
  refine (walk W Aa ca xa Ab cb xb Ac cc xc x bl hra hla hca hrb hlb hcb hrc hlc hcc hwb).mono fun e W' ⟨he, bel⟩ => ?_
  subst he
  exact ⟨_, rfl, _, _, _, [], _, [], hW', trodAll_mk1 (shut_bool Try.underlying4 _), (trodAll_cons_mk (Below.trod laidOut (by kernel_rfl) (of_decide_eq_true (by kernel_rfl)) k0 bel lt0) trodAll_mk0), rfl, bel.frame _, fun h => by cases h⟩

theorem proved : Rows.PolyOwnUptoSaid :=
  OpenClaim.holds_of_cond 15 Try.f15 rfl rfl rfl rfl rfl rfl rfl ⟨rfl, rfl, rfl, rfl, rfl⟩ rfl rfl rfl rfl rfl (by kernel_rfl) Try.func15 (by kernel_rfl)
    (of_decide_eq_true (by kernel_rfl)) (by unfold Func.isWrapper; first | (rw [if_pos (by decide +kernel)]; kernel_rfl) | (rw [if_neg (by decide +kernel)]; exact ⟨rfl, rfl⟩))
    (fun os started H enc _ F => lifted os started H enc F)
#print axioms proved
end Go.Proofs.Ytemnlcfabaocbaa.polyOwn
