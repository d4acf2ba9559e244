/-
  The law 'PolySums': for every input whose bulk is at most 1048576 it returns true and leaves its arguments as they were. The frame is after the kit's shell; the walk is ours. No further condition.
-/
import Derived.Test.YtemnlcfabaocbaaRows
import Derived.Test.YtemnlcfabaocbaaOpenU
import Derived.Test.YtemnlcfabaocbaaLaw2
import Derived.Test.YtemnlcfabaocbaaRef3
import Derived.Test.YtemnlcfabaocbaaPoly2
import Derived.Test.YtemnlcfabaocbaaOpen
import Derived.WalkKit
import Derived.ProofKit
import Derived.OpenShut
import Derived.ShutString
import Derived.ChangeOld
import Derived.Below
namespace Go.Proofs.Ytemnlcfabaocbaa.polySums
open Go.ChangeShapes Go.WideShapes Go.ChangeAt Go.RowKit
set_option linter.unusedVariables false
open Gf

theorem own : ownKnob Try.prog.godebug = none := by kernel_rfl
theorem laidOut : laidOutB Try.prog = true := by kernel_rfl

set_option maxRecDepth 20000 in
set_option maxHeartbeats 4000000 in
theorem walk (w : World) (A0 : Option Addr) (c0 : Nat) (x0 : List E) (hr0 : Rd w A0 (bs x0)) (hl0 : x0.length ≤ c0) (hc0 : c0 ≤ 1048576) (A1 : Option Addr) (c1 : Nat) (x1 : List E) (hr1 : Rd w A1 (bs x1)) (hl1 : x1.length ≤ c1) (hc1 : c1 ≤ 1048576) (a2 : Int) (w2 : (Lit.int .u8 a2).wf = true) :
    Calls Try.prog 6 #[.slice A0 x0.length c0, .slice A1 x1.length c1, .int .u8 a2] w fun e w' => e = .returned (.bool true) ∧ Below w.heap.size w w' := by
  obtain ⟨c, rfl⟩ := toE w2
  have hcl := c.lt
  have hlp : (plusL x0 x1).length ≤ 140737488355328 := by rw [plusL, trim_length]; exact Nat.le_trans (dg_le _) (by rw [ofS_length]; omega)
  have hls : (scaleL x0 c).length ≤ 140737488355328 := by rw [scaleL, trim_length]; exact Nat.le_trans (dg_le _) (by rw [ofS_length]; omega)
  have hld : (deriveL x0).length ≤ 140737488355328 := by rw [deriveL, trim_length]; exact Nat.le_trans (dg_le _) (by rw [ofS_length]; omega)
  have hlt : (timesL x0 x1).length ≤ 281474976710656 := by rw [timesL, trim_length]; exact Nat.le_trans (dg_le _) (by rw [ofS_length]; omega)
  go_enter Try.func6, Try.ntmps6
  go_wp2_with fail
  refine (refPlus_n A0 A1 _ _ x0 x1 c0 c1 _ rfl rfl hr0 hr1 (by omega) (by omega)).mono ?_
  rintro e w1 ⟨v, rfl, ho, hx1⟩
  obtain ⟨Ap, cp, rfl, -, hrp, -, -⟩ := ho.bytes
  clear ho
  go_wp2_with fail
  refine (refTimes_n A0 A1 _ _ c0 c1 x0 x1 _ rfl rfl (hr0.ext hx1) (hr1.ext hx1) (by omega)).mono ?_
  rintro e w2 ⟨v, rfl, ho, hx2⟩
  obtain ⟨At, ct, rfl, -, hrt, -, -⟩ := ho.bytes
  clear ho
  have y2 := hx1.trans hx2
  go_wp2_with fail
  refine (refScale_n A0 _ x0 c0 c _ rfl (hr0.ext y2) (by omega)).mono ?_
  rintro e w3 ⟨v, rfl, ho, hx3⟩
  obtain ⟨As, cs, rfl, -, hrs, -, -⟩ := ho.bytes
  clear ho
  have y3 := y2.trans hx3
  go_wp2_with fail
  refine (refDerive_n A0 _ x0 c0 _ rfl (hr0.ext y3) (by omega)).mono ?_
  rintro e w4 ⟨v, rfl, ho, hx4⟩
  obtain ⟨Ad, cd, rfl, -, hrd, -, -⟩ := ho.bytes
  clear ho
  have y4 := y3.trans hx4
  go_wp2_with fail
  refine (lent_n A0 _ x0 c0 _ rfl (hr0.ext y4) (by omega)).mono ?_
  rintro e w5 ⟨gx, kx, rfl, -, hox, hcx, hmx, hx5⟩
  have y5 := y4.trans hx5
  go_wp2_with fail
  refine (lent_n A1 _ x1 c1 _ rfl (hr1.ext y5) (by omega)).mono ?_
  rintro e w6 ⟨gy, ky, rfl, -, hoy, hcy, hmy, hx6⟩
  have y6 := y5.trans hx6
  have hkx := hox.rd.ext hx6
  have hky := hoy.rd
  have hrx : Rd w6 (some ⟨gx, 0, none⟩) (bs x0) := by have := hkx.take (bs x0).length; rwa [bs_append, List.take_left] at this
  have hry : Rd w6 (some ⟨gy, 0, none⟩) (bs x1) := by have := hky.take (bs x1).length; rwa [bs_append, List.take_left] at this
  replace hrp := hrp.ext (hx2.trans (hx3.trans (hx4.trans (hx5.trans hx6))))
  replace hrt := hrt.ext (hx3.trans (hx4.trans (hx5.trans hx6)))
  replace hrs := hrs.ext (hx4.trans (hx5.trans hx6))
  replace hrd := hrd.ext (hx5.trans hx6)
  clear hox hoy hx1 hx2 hx3 hx4 hx5 hx6 y2 y3 y4 y5
  simp only [maxLen] at hmx hmy
  go_wp2_with fail
  refine (polyPlus_n _ _ _ _ kx ky x0 x1 _ rfl rfl hrx hry (by omega) (by omega)).mono ?_
  rintro e w7 ⟨v, rfl, ho, z7⟩
  obtain ⟨A7, c7, rfl, -, hr7, -, -⟩ := ho.bytes
  clear ho
  go_wp2_with fail
  refine (same_n A7 Ap _ _ (plusL x0 x1) c7 cp _ rfl rfl hr7 (hrp.ext z7) (by omega)).mono ?_
  rintro e w8 ⟨rfl, hx8⟩
  have z8 := z7.trans hx8
  go_wp2_with fail
  refine (polyTimes_n _ _ _ _ kx ky x0 x1 _ rfl rfl (hrx.ext z8) (hry.ext z8) (by omega)).mono ?_
  rintro e w9 ⟨v, rfl, ho, hx9⟩
  obtain ⟨A9, c9, rfl, -, hr9, -, -⟩ := ho.bytes
  clear ho
  have z9 := z8.trans hx9
  go_wp2_with fail
  refine (same_n A9 At _ _ (timesL x0 x1) c9 ct _ rfl rfl hr9 (hrt.ext z9) (by omega)).mono ?_
  rintro e w10 ⟨rfl, hx10⟩
  have z10 := z9.trans hx10
  go_wp2_with fail
  refine (polyScale_n _ _ kx x0 c _ rfl (hrx.ext z10) (by omega)).mono ?_
  rintro e w11 ⟨v, rfl, ho, hx11⟩
  obtain ⟨A11, c11, rfl, -, hr11, -, -⟩ := ho.bytes
  clear ho
  have z11 := z10.trans hx11
  go_wp2_with fail
  refine (same_n A11 As _ _ (scaleL x0 c) c11 cs _ rfl rfl hr11 (hrs.ext z11) (by omega)).mono ?_
  rintro e w12 ⟨rfl, hx12⟩
  have z12 := z11.trans hx12
  go_wp2_with fail
  refine (polyDerive_n _ _ kx x0 _ rfl (hrx.ext z12) (by omega) (by omega) (by simp only [maxLen]; omega)).mono ?_
  rintro e w13 ⟨v, rfl, ho, hx13⟩
  obtain ⟨A13, c13, rfl, -, hr13, -, -⟩ := ho.bytes
  clear ho
  have z13 := z12.trans hx13
  go_wp2_with fail
  refine (same_n A13 Ad _ _ (deriveL x0) c13 cd _ rfl rfl hr13 (hrd.ext z13) (by omega)).mono ?_
  rintro e w14 ⟨rfl, hx14⟩
  have z14 := z13.trans hx14
  go_wp2_with fail
  refine (kept_n _ A0 _ _ x0 kx c0 _ rfl rfl (hkx.ext z14) (hr0.ext (y6.trans z14)) (by omega) hcx).mono ?_
  rintro e w15 ⟨rfl, hx15⟩
  have z15 := z14.trans hx15
  go_wp2_with fail
  refine (kept_n _ A1 _ _ x1 ky c1 _ rfl rfl (hky.ext z15) (hr1.ext (y6.trans z15)) (by omega) hcy).mono ?_
  rintro e w16 ⟨rfl, hx16⟩
  go_wp2
  go_ret
  exact ⟨rfl, y6.trans (z15.trans hx16)⟩

set_option maxRecDepth 100000 in
theorem lifted (os : Os) (started : os.Started) (H : Type) (enc : TypeId × Value → H) (F : Stop.Interp) :
    ReturnsInHanded {} Try.checked os 6 .any ((Rows.OpenSpec.upto Rows.polySumsSpec).pre6 enc Try.prog Try.f6 Rows.polySumsUptoRow.domain false) (((Rows.OpenSpec.upto Rows.polySumsSpec).at F).post enc Try.prog Try.f6 false true false false) := by
  refine returnsInHanded_of_cond_sized (C := Try.checked) (s := Rows.OpenSpec.upto Rows.polySumsSpec) (k := Rows.uptoSmall) rfl own started (by kernel_rfl) Try.func6
    (OpenSpec.witness (enc := enc) (C := Try.checked) (s := Rows.OpenSpec.upto Rows.polySumsSpec) (k := Rows.uptoSmall) rfl false ⟨#[], #[.slice none 0 0, .slice none 0 0, .int .u8 0], []⟩ 8 (by kernel_rfl) (by kernel_rfl) (by kernel_rfl)
      (x := ([.nil, .nil, .lit (.int .u8 0)], [], [])) (by kernel_rfl) rfl (by kernel_rfl)) ?_
  intro W base args ds gs before hval0 hW hcnd hk hsz0 _
  have hval : ∀ (j : Nat) t v, Try.f6.params[j]? = some t → args[j]? = some v → Value.okWide Try.prog W .any base t v := hval0
  have hsz : (DataW.weightsEach Try.prog (Try.f6.params.toList ++ Rows.polySumsSpec.plain.varTypes Try.prog) (ds ++ gs)).all (· ≤ reachBytes) = true := hsz0
  have hW' := hW
  obtain ⟨p, q, hA0, hV, rfl, hfz, hnd⟩ := hW
  have hA : DataW.TrodAll enc Try.prog W 0 (fun _ => true) true Try.f6.params.toList args.toList ds p := hA0
  rw [Try.params6] at hA hval hsz
  obtain ⟨v0, vs0, d0, ds0, p0, q0, hargs, rfl, rfl, h0, r0⟩ := trodAll_cons hA
  obtain ⟨v1, vs1, d1, ds1, p1, q1, rfl, rfl, rfl, h1, r1⟩ := trodAll_cons r0
  obtain ⟨v2, vs2, d2, ds2, p2, q2, rfl, rfl, rfl, h2, r2⟩ := trodAll_cons r1
  obtain ⟨rfl, rfl, rfl⟩ := trodAll_nil r2
  obtain rfl : args = #[v0, v1, v2] := by cases args; simp_all
  obtain ⟨rfl, rfl⟩ := trodVars_none hV
  have k0 := h0
  have lt0 : ∀ x ∈ p0, x.block < W.heap.size := by obtain ⟨m, hm⟩ := k0; exact DataW.trod_lt m _ _ _ hm
  obtain ⟨A0, c0, x0, rfl, hr0, hl0, hc0⟩ : ∃ (A : Option Addr) (cap : Nat) (xs : List E), v0 = .slice A xs.length cap ∧ Rd W A (bs xs) ∧ xs.length ≤ cap ∧ cap ≤ 1048576 := by
    obtain ⟨a, n, c, hv⟩ := okWide_slice Try.underlying24 (hval 0 24 v0 rfl rfl)
    obtain ⟨fuel, hf⟩ := h0
    subst hv
    obtain ⟨A, cap, xs, e, h1, h2, h3⟩ := open_bytes_u Try.underlying24 Try.underlying5 (by kernel_rfl) hf (bulk_bound hk (by simp))
    simp [Value.cells] at e
    obtain ⟨rfl, rfl, rfl⟩ := e
    exact ⟨_, _, _, rfl, h1, h2, h3⟩
  have k1 := h1
  have lt1 : ∀ x ∈ p1, x.block < W.heap.size := by obtain ⟨m, hm⟩ := k1; exact DataW.trod_lt m _ _ _ hm
  obtain ⟨A1, c1, x1, rfl, hr1, hl1, hc1⟩ : ∃ (A : Option Addr) (cap : Nat) (xs : List E), v1 = .slice A xs.length cap ∧ Rd W A (bs xs) ∧ xs.length ≤ cap ∧ cap ≤ 1048576 := by
    obtain ⟨a, n, c, hv⟩ := okWide_slice Try.underlying24 (hval 1 24 v1 rfl rfl)
    obtain ⟨fuel, hf⟩ := h1
    subst hv
    obtain ⟨A, cap, xs, e, h1, h2, h3⟩ := open_bytes_u Try.underlying24 Try.underlying5 (by kernel_rfl) hf (bulk_bound hk (by simp))
    simp [Value.cells] at e
    obtain ⟨rfl, rfl, rfl⟩ := e
    exact ⟨_, _, _, rfl, h1, h2, h3⟩
  obtain ⟨a2, rfl, rfl, rfl, w2⟩ := open_int Try.underlying5 (hval 2 5 v2 rfl rfl) h2
  clear hA0 hval0
  refine (walk W A0 c0 x0 hr0 hl0 hc0 A1 c1 x1 hr1 hl1 hc1 a2 w2).mono fun e W' ⟨he, bel⟩ => ?_
  subst he
  exact ⟨_, rfl, _, _, _, [], _, [], hW', trodAll_mk1 (shut_bool Try.underlying4 _), (trodAll_cons_mk (Below.trod laidOut (by kernel_rfl) (of_decide_eq_true (by kernel_rfl)) k0 bel lt0) (trodAll_cons_mk (Below.trod laidOut (by kernel_rfl) (of_decide_eq_true (by kernel_rfl)) k1 bel lt1) (trodAll_cons_mk (shut_int Try.underlying5 w2) trodAll_mk0))), rfl, bel.frame _, fun h => by cases h⟩

theorem proved : Rows.PolySumsUptoSaid :=
  OpenClaim.holds_of_cond 6 Try.f6 rfl rfl rfl rfl rfl rfl rfl ⟨rfl, rfl, rfl, rfl, rfl⟩ rfl rfl rfl rfl rfl (by kernel_rfl) Try.func6 (by kernel_rfl)
    (of_decide_eq_true (by kernel_rfl)) (by unfold Func.isWrapper; first | (rw [if_pos (by decide +kernel)]; kernel_rfl) | (rw [if_neg (by decide +kernel)]; exact ⟨rfl, rfl⟩))
    (fun os started H enc _ F => lifted os started H enc F)
#print axioms proved
end Go.Proofs.Ytemnlcfabaocbaa.polySums
