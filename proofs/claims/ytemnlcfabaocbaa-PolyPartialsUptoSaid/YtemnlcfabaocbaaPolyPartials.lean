/-
  The law 'PolyPartials': for every input whose bulk is at most 1048576 it returns true and leaves its arguments as they were. The frame is after the kit's shell; the walk is ours. No further condition.
-/
import Derived.Test.YtemnlcfabaocbaaRows
import Derived.Test.YtemnlcfabaocbaaOpenU
import Derived.Test.YtemnlcfabaocbaaLaw3
import Derived.Test.YtemnlcfabaocbaaPoly8
import Derived.Test.YtemnlcfabaocbaaRef8
import Derived.Test.YtemnlcfabaocbaaOpen
import Derived.WalkKit
import Derived.ProofKit
import Derived.OpenShut
import Derived.ShutString
import Derived.ChangeOld
import Derived.Below
namespace Go.Proofs.Ytemnlcfabaocbaa.polyPartials
open Go.ChangeShapes Go.WideShapes Go.ChangeAt Go.RowKit
set_option linter.unusedVariables false
open Gf

theorem own : ownKnob Try.prog.godebug = none := by kernel_rfl
theorem laidOut : laidOutB Try.prog = true := by kernel_rfl

set_option maxRecDepth 20000 in
set_option maxHeartbeats 4000000 in
theorem walk (w : World) (A0 : Option Addr) (c0 : Nat) (x0 : List E) (hr0 : Rd w A0 (bs x0)) (hl0 : x0.length ≤ c0) (hc0 : c0 ≤ 1048576) (A1 : Option Addr) (c1 : Nat) (x1 : List E) (hr1 : Rd w A1 (bs x1)) (hl1 : x1.length ≤ c1) (hc1 : c1 ≤ 1048576) (a2 : Int) (w2 : (Lit.int .i64 a2).wf = true) :
    Calls Try.prog 9 #[.slice A0 x0.length c0, .slice A1 x1.length c1, .int .i64 a2] w fun e w' => e = .returned (.bool true) ∧ Below w.heap.size w w' := by
  have hwf := w2
  clear w2
  go_enter Try.func9, Try.ntmps9
  rcases (show a2 < 0 ∨ 0 ≤ a2 by omega) with hneg | hge
  · go_wp2_with fail
    refine (refPartial_neg A0 A1 _ _ c0 c1 a2 hneg _).mono ?_
    rintro e w' ⟨rfl, rfl⟩
    go_wp2_with fail
    refine (lent_n A0 _ x0 c0 _ rfl hr0 (by omega)).mono ?_
    rintro e w2 ⟨gx, kx, rfl, -, hox, hcx, hmx, hx2⟩
    go_wp2_with fail
    refine (lent_n A1 _ x1 c1 _ rfl (hr1.ext hx2) (by omega)).mono ?_
    rintro e w3 ⟨gy, ky, rfl, -, hoy, hcy, hmy, hx3⟩
    have y3 := hx2.trans hx3
    have hkx := hox.rd.ext hx3
    have hky := hoy.rd
    clear hox hoy
    go_wp2_with fail
    refine (polyPartial_neg _ _ _ _ _ _ a2 hneg _).mono ?_
    rintro e w' ⟨rfl, rfl⟩
    go_wp2_with (go_at_call 46; with_reducible refine (num2_any _ rfl _).mono ?_; rintro e w' ⟨rfl, rfl⟩)
    refine (same_n none none 0 0 [] 0 0 _ rfl rfl (Rd.nil _ _) (Rd.nil _ _) (by omega)).mono ?_
    rintro e w5 ⟨rfl, z5⟩
    go_wp2_with fail
    refine (same_n none none 0 0 [] 0 0 _ rfl rfl (Rd.nil _ _) (Rd.nil _ _) (by omega)).mono ?_
    rintro e w6 ⟨rfl, hx6⟩
    have z6 := z5.trans hx6
    go_wp2_with fail
    refine (same_n none none 0 0 [] 0 0 _ rfl rfl (Rd.nil _ _) (Rd.nil _ _) (by omega)).mono ?_
    rintro e w7 ⟨rfl, hx7⟩
    have z7 := z6.trans hx7
    go_wp2_with fail
    refine (kept_n _ A0 _ _ x0 kx c0 _ rfl rfl (hkx.ext z7) (hr0.ext (y3.trans z7)) (by omega) hcx).mono ?_
    rintro e w8 ⟨rfl, hx8⟩
    have z8 := z7.trans hx8
    go_wp2_with fail
    refine (kept_n _ A1 _ _ x1 ky c1 _ rfl rfl (hky.ext z8) (hr1.ext (y3.trans z8)) (by omega) hcy).mono ?_
    rintro e w9 ⟨rfl, hx9⟩
    go_wp2
    go_ret
    exact ⟨rfl, y3.trans (z8.trans hx9)⟩
  · obtain ⟨k, rfl⟩ := Int.eq_ofNat_of_zero_le hge
    clear hge
    go_wp2_with fail
    refine (refPartial_n A0 A1 _ _ c0 c1 x0 x1 k _ rfl rfl hr0 hr1 (by omega) (by omega)).mono ?_
    rintro e w1 ⟨Ag, Au, Av, cg, cu, cv, r, rfl, hp1, hrg, hru, hrv, hx1⟩
    have HP := Lib.hid hp1
    clear hp1
    go_wp2_with fail
    refine (lent_n A0 _ x0 c0 _ rfl (hr0.ext hx1) (by omega)).mono ?_
    rintro e w2 ⟨gx, kx, rfl, -, hox, hcx, hmx, hx2⟩
    have y2 := hx1.trans hx2
    go_wp2_with fail
    refine (lent_n A1 _ x1 c1 _ rfl (hr1.ext y2) (by omega)).mono ?_
    rintro e w3 ⟨gy, ky, rfl, -, hoy, hcy, hmy, hx3⟩
    have y3 := y2.trans hx3
    have hkx := hox.rd.ext hx3
    have hky := hoy.rd
    have hrx : Rd w3 (some ⟨gx, 0, none⟩) (bs x0) := by have := hkx.take (bs x0).length; rwa [bs_append, List.take_left] at this
    have hry : Rd w3 (some ⟨gy, 0, none⟩) (bs x1) := by have := hky.take (bs x1).length; rwa [bs_append, List.take_left] at this
    have hrg3 := hrg.ext (hx2.trans hx3)
    have hru3 := hru.ext (hx2.trans hx3)
    have hrv3 := hrv.ext (hx2.trans hx3)
    clear hox hoy hx1 hx2 hx3 y2 hrg hru hrv
    simp only [maxLen] at hmx hmy
    go_wp2_with fail
    refine (polyPartial_n _ _ _ _ kx ky x0 x1 k _ rfl rfl hrx hry (by omega) (by omega) (by omega) (by omega) hwf).mono ?_
    rintro e w4 ⟨vg, vu, vv, r', rfl, hp2, hog, hou, hov, z4, hul, hvl, hgl⟩
    obtain rfl := PartRes.uniq hp2 HP.out
    clear hp2
    obtain ⟨Bg, bg, rfl, hsg, -, -⟩ := hog.bytesN rfl
    obtain ⟨Bu, bu, rfl, hsu, -, -⟩ := hou.bytesN rfl
    obtain ⟨Bv, bv', rfl, hsv, -, -⟩ := hov.bytesN rfl
    clear hog hou hov
    go_wp2_with (go_at_call 46; with_reducible refine (num2_any _ rfl _).mono ?_; rintro e w' ⟨rfl, rfl⟩)
    refine (same_n Bg Ag _ _ r'.g bg cg _ rfl rfl hsg (hrg3.ext z4) (by omega)).mono ?_
    rintro e w5 ⟨rfl, hx5⟩
    have z5 := z4.trans hx5
    go_wp2_with fail
    refine (same_n Bu Au _ _ r'.u bu cu _ rfl rfl (hsu.ext hx5) (hru3.ext z5) (by omega)).mono ?_
    rintro e w6 ⟨rfl, hx6⟩
    have z6 := z5.trans hx6
    go_wp2_with fail
    refine (same_n Bv Av _ _ r'.v bv' cv _ rfl rfl (hsv.ext (hx5.trans hx6)) (hrv3.ext z6) (by omega)).mono ?_
    rintro e w7 ⟨rfl, hx7⟩
    have z7 := z6.trans hx7
    go_wp2_with fail
    refine (kept_n _ A0 _ _ x0 kx c0 _ rfl rfl (hkx.ext z7) (hr0.ext (y3.trans z7)) (by omega) hcx).mono ?_
    rintro e w8 ⟨rfl, hx8⟩
    have z8 := z7.trans hx8
    go_wp2_with fail
    refine (kept_n _ A1 _ _ x1 ky c1 _ rfl rfl (hky.ext z8) (hr1.ext (y3.trans z8)) (by omega) hcy).mono ?_
    rintro e w9 ⟨rfl, hx9⟩
    go_wp2
    go_ret
    exact ⟨rfl, y3.trans (z8.trans hx9)⟩

set_option maxRecDepth 100000 in
theorem lifted (os : Os) (started : os.Started) (H : Type) (enc : TypeId × Value → H) (F : Stop.Interp) :
    ReturnsInHanded {} Try.checked os 9 .any ((Rows.OpenSpec.upto Rows.polyPartialsSpec).pre6 enc Try.prog Try.f9 Rows.polyPartialsUptoRow.domain false) (((Rows.OpenSpec.upto Rows.polyPartialsSpec).at F).post enc Try.prog Try.f9 false true false false) := by
  refine returnsInHanded_of_cond_sized (C := Try.checked) (s := Rows.OpenSpec.upto Rows.polyPartialsSpec) (k := Rows.uptoSmall) rfl own started (by kernel_rfl) Try.func9
    (OpenSpec.witness (enc := enc) (C := Try.checked) (s := Rows.OpenSpec.upto Rows.polyPartialsSpec) (k := Rows.uptoSmall) rfl false ⟨#[], #[.slice none 0 0, .slice none 0 0, .int .i64 0], []⟩ 8 (by kernel_rfl) (by kernel_rfl) (by kernel_rfl)
      (x := ([.nil, .nil, .lit (.int .i64 0)], [], [])) (by kernel_rfl) rfl (by kernel_rfl)) ?_
  intro W base args ds gs before hval0 hW hcnd hk hsz0 _
  have hval : ∀ (j : Nat) t v, Try.f9.params[j]? = some t → args[j]? = some v → Value.okWide Try.prog W .any base t v := hval0
  have hsz : (DataW.weightsEach Try.prog (Try.f9.params.toList ++ Rows.polyPartialsSpec.plain.varTypes Try.prog) (ds ++ gs)).all (· ≤ reachBytes) = true := hsz0
  have hW' := hW
  obtain ⟨p, q, hA0, hV, rfl, hfz, hnd⟩ := hW
  have hA : DataW.TrodAll enc Try.prog W 0 (fun _ => true) true Try.f9.params.toList args.toList ds p := hA0
  rw [Try.params9] at hA hval hsz
  obtain ⟨v0, vs0, d0, ds0, p0, q0, hargs, rfl, rfl, h0, r0⟩ := trodAll_cons hA
  obtain ⟨v1, vs1, d1, ds1, p1, q1, rfl, rfl, rfl, h1, r1⟩ := trodAll_cons r0
  obtain ⟨v2, vs2, d2, ds2, p2, q2, rfl, rfl, rfl, h2, r2⟩ := trodAll_cons r1
  obtain ⟨rfl, rfl, rfl⟩ := trodAll_nil r2
  obtain rfl : args = #[v0, v1, v2] := by cases args; simp_all
  obtain ⟨rfl, rfl⟩ := trodVars_none hV
  have k0 := h0
  have lt0 : ∀ x ∈ p0, x.block < W.heap.size := by obtain ⟨m, hm⟩ := k0; exact DataW.trod_lt m _ _ _ hm
  obtain ⟨A0, c0, x0, rfl, hr0, hl0, hc0⟩ : ∃ (A : Option Addr) (cap : Nat) (xs : List E), v0 = .slice A xs.length cap ∧ Rd W A (bs xs) ∧ xs.length ≤ cap ∧ cap ≤ 1048576 := by
    obtain ⟨a, n, c, hv⟩ := okWide_slice Try.underlying24 (hval 0 24 v0 rfl rfl)
    obtain ⟨fuel, hf⟩ := h0
    subst hv
    obtain ⟨A, cap, xs, e, h1, h2, h3⟩ := open_bytes_u Try.underlying24 Try.underlying5 (by kernel_rfl) hf (bulk_bound hk (by simp))
    simp [Value.cells] at e
    obtain ⟨rfl, rfl, rfl⟩ := e
    exact ⟨_, _, _, rfl, h1, h2, h3⟩
  have k1 := h1
  have lt1 : ∀ x ∈ p1, x.block < W.heap.size := by obtain ⟨m, hm⟩ := k1; exact DataW.trod_lt m _ _ _ hm
  obtain ⟨A1, c1, x1, rfl, hr1, hl1, hc1⟩ : ∃ (A : Option Addr) (cap : Nat) (xs : List E), v1 = .slice A xs.length cap ∧ Rd W A (bs xs) ∧ xs.length ≤ cap ∧ cap ≤ 1048576 := by
    obtain ⟨a, n, c, hv⟩ := okWide_slice Try.underlying24 (hval 1 24 v1 rfl rfl)
    obtain ⟨fuel, hf⟩ := h1
    subst hv
    obtain ⟨A, cap, xs, e, h1, h2, h3⟩ := open_bytes_u Try.underlying24 Try.underlying5 (by kernel_rfl) hf (bulk_bound hk (by simp))
    simp [Value.cells] at e
    obtain ⟨rfl, rfl, rfl⟩ := e
    exact ⟨_, _, _, rfl, h1, h2, h3⟩
  obtain ⟨a2, rfl, rfl, rfl, w2⟩ := open_int Try.underlying3 (hval 2 3 v2 rfl rfl) h2
  clear hA0 hval0
  refine (walk W A0 c0 x0 hr0 hl0 hc0 A1 c1 x1 hr1 hl1 hc1 a2 w2).mono fun e W' ⟨he, bel⟩ => ?_
  subst he
  exact ⟨_, rfl, _, _, _, [], _, [], hW', trodAll_mk1 (shut_bool Try.underlying4 _), (trodAll_cons_mk (Below.trod laidOut (by kernel_rfl) (of_decide_eq_true (by kernel_rfl)) k0 bel lt0) (trodAll_cons_mk (Below.trod laidOut (by kernel_rfl) (of_decide_eq_true (by kernel_rfl)) k1 bel lt1) (trodAll_cons_mk (shut_int Try.underlying3 w2) trodAll_mk0))), rfl, bel.frame _, fun h => by cases h⟩

theorem proved : Rows.PolyPartialsUptoSaid :=
  OpenClaim.holds_of_cond 9 Try.f9 rfl rfl rfl rfl rfl rfl rfl ⟨rfl, rfl, rfl, rfl, rfl⟩ rfl rfl rfl rfl rfl (by kernel_rfl) Try.func9 (by kernel_rfl)
    (of_decide_eq_true (by kernel_rfl)) (by unfold Func.isWrapper; first | (rw [if_pos (by decide +kernel)]; kernel_rfl) | (rw [if_neg (by decide +kernel)]; exact ⟨rfl, rfl⟩))
    (fun os started H enc _ F => lifted os started H enc F)
#print axioms proved
end Go.Proofs.Ytemnlcfabaocbaa.polyPartials
