/-
  The law 'PolyThroughs': for every input whose bulk is at most 1048576 it returns true and leaves its arguments as they were. The frame is after the kit's shell; the walk is ours. No further condition.
-/
import Derived.Test.YtemnlcfabaocbaaRows
import Derived.Test.YtemnlcfabaocbaaOpenU
import Derived.Test.YtemnlcfabaocbaaLaw2
import Derived.Test.YtemnlcfabaocbaaRef5
import Derived.Test.YtemnlcfabaocbaaOpen
import Derived.WalkKit
import Derived.ProofKit
import Derived.OpenShut
import Derived.ShutString
import Derived.ChangeOld
import Derived.Below
namespace Go.Proofs.Ytemnlcfabaocbaa.polyThroughs
open Go.ChangeShapes Go.WideShapes Go.ChangeAt Go.RowKit
set_option linter.unusedVariables false
open Gf

theorem own : ownKnob Try.prog.godebug = none := by kernel_rfl
theorem laidOut : laidOutB Try.prog = true := by kernel_rfl

theorem num_any (k : Int) (hk : (Lit.int .i64 k).wf = true) (w : World) : Calls Try.prog 46 #[.int .i64 k] w fun e w' => e = .returned (.int .i64 k) ∧ w = w' := by
  go_enter Try.func46, Try.ntmps46
  go_wp2
  go_ret
  exact ⟨rfl, rfl⟩
set_option maxRecDepth 20000 in
set_option maxHeartbeats 4000000 in
theorem walk (w : World) (A0 : Option Addr) (c0 : Nat) (x0 : List E) (hr0 : Rd w A0 (bs x0)) (hl0 : x0.length ≤ c0) (hc0 : c0 ≤ 1048576) (A1 : Option Addr) (c1 : Nat) (x1 : List E) (hr1 : Rd w A1 (bs x1)) (hl1 : x1.length ≤ c1) (hc1 : c1 ≤ 1048576) :
    Calls Try.prog 8 #[.slice A0 x0.length c0, .slice A1 x1.length c1] w fun e w' => e = .returned (.bool true) ∧ Below w.heap.size w w' := by
  have hvl : (vanishL x0).length = x0.length + 1 := vanish_length x0
  go_enter Try.func8, Try.ntmps8
  go_wp2_with fail
  refine (refVanish_n A0 _ c0 x0 _ rfl hr0 (by omega)).mono ?_
  rintro e w1 ⟨v, rfl, ho, hx1⟩
  obtain ⟨Av, cv, rfl, -, hrv, -, -⟩ := ho.bytes
  clear ho
  go_wp2_with fail
  refine (refThrough_all A0 A1 _ _ c0 c1 x0 x1 _ rfl rfl (hr0.ext hx1) (hr1.ext hx1) (by omega)).mono ?_
  rintro e w2 ⟨v, t, k, rfl, ht1, ho, hx2⟩
  obtain ⟨At, ct, rfl, -, hrt, -, -⟩ := ho.bytes
  clear ho
  have y2 := hx1.trans hx2
  go_wp2_with fail
  refine (lent_n A0 _ x0 c0 _ rfl (hr0.ext y2) (by omega)).mono ?_
  rintro e w3 ⟨gx, kx, rfl, -, hox, hcx, hmx, hx3⟩
  have y3 := y2.trans hx3
  go_wp2_with fail
  refine (lent_n A1 _ x1 c1 _ rfl (hr1.ext y3) (by omega)).mono ?_
  rintro e w4 ⟨gy, ky, rfl, -, hoy, hcy, hmy, hx4⟩
  have y4 := y3.trans hx4
  have hkx := hox.rd.ext hx4
  have hky := hoy.rd
  have hrx : Rd w4 (some ⟨gx, 0, none⟩) (bs x0) := by have := hkx.take (bs x0).length; rwa [bs_append, List.take_left] at this
  have hry : Rd w4 (some ⟨gy, 0, none⟩) (bs x1) := by have := hky.take (bs x1).length; rwa [bs_append, List.take_left] at this
  have hrv4 := hrv.ext (hx2.trans (hx3.trans hx4))
  have hrt4 := hrt.ext (hx3.trans hx4)
  clear hox hoy hx1 hx2 hx3 hx4 y2 y3 hrv hrt
  simp only [maxLen] at hmx hmy
  go_wp2_with fail
  refine (polyVanish_n _ _ kx x0 _ rfl hrx (by omega)).mono ?_
  rintro e w5 ⟨v, rfl, ho, z5⟩
  obtain ⟨A5, c5, rfl, -, hr5, -, -⟩ := ho.bytes
  clear ho
  go_wp2_with fail
  refine (polyThrough_all _ _ _ _ kx ky x0 x1 _ rfl rfl (hrx.ext z5) (hry.ext z5) (by omega)).mono ?_
  rintro e w6 ⟨v, t', k', rfl, ht2, ho, hx6⟩
  obtain ⟨rfl, rfl⟩ := ht1.uniq ht2
  have htl := ht1.len
  have hwk : (Lit.int .i64 k).wf = true := by
    rcases ht1 with ⟨_, _, rfl⟩ | ⟨_, _, _, rfl⟩ | ⟨_, _, _, rfl⟩ <;> rfl
  clear ht1 ht2
  obtain ⟨A6, c6, rfl, -, hr6, -, -⟩ := ho.bytes
  clear ho
  have z6 := z5.trans hx6
  go_wp2_with fail
  refine (same_n A5 Av _ _ (vanishL x0) c5 cv _ hvl hvl (hr5.ext hx6) (hrv4.ext z6) (by omega)).mono ?_
  rintro e w7 ⟨rfl, hx7⟩
  have z7 := z6.trans hx7
  go_wp2_with (go_at_call 46; with_reducible refine (num_any k hwk _).mono ?_; rintro e w' ⟨rfl, rfl⟩)
  refine (same_n A6 At _ _ t c6 ct _ rfl rfl (hr6.ext hx7) (hrt4.ext z7) (by omega)).mono ?_
  rintro e w8 ⟨rfl, hx8⟩
  have z8 := z7.trans hx8
  go_wp2_with fail
  refine (kept_n _ A0 _ _ x0 kx c0 _ rfl rfl (hkx.ext z8) (hr0.ext (y4.trans z8)) (by omega) hcx).mono ?_
  rintro e w9 ⟨rfl, hx9⟩
  have z9 := z8.trans hx9
  go_wp2_with fail
  refine (kept_n _ A1 _ _ x1 ky c1 _ rfl rfl (hky.ext z9) (hr1.ext (y4.trans z9)) (by omega) hcy).mono ?_
  rintro e w10 ⟨rfl, hx10⟩
  go_wp2
  go_ret
  exact ⟨rfl, y4.trans (z9.trans hx10)⟩

set_option maxRecDepth 100000 in
theorem lifted (os : Os) (started : os.Started) (H : Type) (enc : TypeId × Value → H) (F : Stop.Interp) :
    ReturnsInHanded {} Try.checked os 8 .any ((Rows.OpenSpec.upto Rows.polyThroughsSpec).pre6 enc Try.prog Try.f8 Rows.polyThroughsUptoRow.domain false) (((Rows.OpenSpec.upto Rows.polyThroughsSpec).at F).post enc Try.prog Try.f8 false true false false) := by
  refine returnsInHanded_of_cond_sized (C := Try.checked) (s := Rows.OpenSpec.upto Rows.polyThroughsSpec) (k := Rows.uptoSmall) rfl own started (by kernel_rfl) Try.func8
    (OpenSpec.witness (enc := enc) (C := Try.checked) (s := Rows.OpenSpec.upto Rows.polyThroughsSpec) (k := Rows.uptoSmall) rfl false ⟨#[], #[.slice none 0 0, .slice none 0 0], []⟩ 8 (by kernel_rfl) (by kernel_rfl) (by kernel_rfl)
      (x := ([.nil, .nil], [], [])) (by kernel_rfl) rfl (by kernel_rfl)) ?_
  intro W base args ds gs before hval0 hW hcnd hk hsz0 _
  have hval : ∀ (j : Nat) t v, Try.f8.params[j]? = some t → args[j]? = some v → Value.okWide Try.prog W .any base t v := hval0
  have hsz : (DataW.weightsEach Try.prog (Try.f8.params.toList ++ Rows.polyThroughsSpec.plain.varTypes Try.prog) (ds ++ gs)).all (· ≤ reachBytes) = true := hsz0
  have hW' := hW
  obtain ⟨p, q, hA0, hV, rfl, hfz, hnd⟩ := hW
  have hA : DataW.TrodAll enc Try.prog W 0 (fun _ => true) true Try.f8.params.toList args.toList ds p := hA0
  rw [Try.params8] at hA hval hsz
  obtain ⟨v0, vs0, d0, ds0, p0, q0, hargs, rfl, rfl, h0, r0⟩ := trodAll_cons hA
  obtain ⟨v1, vs1, d1, ds1, p1, q1, rfl, rfl, rfl, h1, r1⟩ := trodAll_cons r0
  obtain ⟨rfl, rfl, rfl⟩ := trodAll_nil r1
  obtain rfl : args = #[v0, v1] := by cases args; simp_all
  obtain ⟨rfl, rfl⟩ := trodVars_none hV
  have k0 := h0
  have lt0 : ∀ x ∈ p0, x.block < W.heap.size := by obtain ⟨m, hm⟩ := k0; exact DataW.trod_lt m _ _ _ hm
  obtain ⟨A0, c0, x0, rfl, hr0, hl0, hc0⟩ : ∃ (A : Option Addr) (cap : Nat) (xs : List E), v0 = .slice A xs.length cap ∧ Rd W A (bs xs) ∧ xs.length ≤ cap ∧ cap ≤ 1048576 := by
    obtain ⟨a, n, c, hv⟩ := okWide_slice Try.underlying24 (hval 0 24 v0 rfl rfl)
    obtain ⟨fuel, hf⟩ := h0
    subst hv
    obtain ⟨A, cap, xs, e, h1, h2, h3⟩ := open_bytes_u Try.underlying24 Try.underlying5 (by kernel_rfl) hf (bulk_bound hk (by simp))
    simp [Value.cells] at e
    obtain ⟨rfl, rfl, rfl⟩ := e
    exact ⟨_, _, _, rfl, h1, h2, h3⟩
  have k1 := h1
  have lt1 : ∀ x ∈ p1, x.block < W.heap.size := by obtain ⟨m, hm⟩ := k1; exact DataW.trod_lt m _ _ _ hm
  obtain ⟨A1, c1, x1, rfl, hr1, hl1, hc1⟩ : ∃ (A : Option Addr) (cap : Nat) (xs : List E), v1 = .slice A xs.length cap ∧ Rd W A (bs xs) ∧ xs.length ≤ cap ∧ cap ≤ 1048576 := by
    obtain ⟨a, n, c, hv⟩ := okWide_slice Try.underlying24 (hval 1 24 v1 rfl rfl)
    obtain ⟨fuel, hf⟩ := h1
    subst hv
    obtain ⟨A, cap, xs, e, h1, h2, h3⟩ := open_bytes_u Try.underlying24 Try.underlying5 (by kernel_rfl) hf (bulk_bound hk (by simp))
    simp [Value.cells] at e
    obtain ⟨rfl, rfl, rfl⟩ := e
    exact ⟨_, _, _, rfl, h1, h2, h3⟩
  clear hA0 hval0
  refine (walk W A0 c0 x0 hr0 hl0 hc0 A1 c1 x1 hr1 hl1 hc1).mono fun e W' ⟨he, bel⟩ => ?_
  subst he
  exact ⟨_, rfl, _, _, _, [], _, [], hW', trodAll_mk1 (shut_bool Try.underlying4 _), (trodAll_cons_mk (Below.trod laidOut (by kernel_rfl) (of_decide_eq_true (by kernel_rfl)) k0 bel lt0) (trodAll_cons_mk (Below.trod laidOut (by kernel_rfl) (of_decide_eq_true (by kernel_rfl)) k1 bel lt1) trodAll_mk0)), rfl, bel.frame _, fun h => by cases h⟩

theorem proved : Rows.PolyThroughsUptoSaid :=
  OpenClaim.holds_of_cond 8 Try.f8 rfl rfl rfl rfl rfl rfl rfl ⟨rfl, rfl, rfl, rfl, rfl⟩ rfl rfl rfl rfl rfl (by kernel_rfl) Try.func8 (by kernel_rfl)
    (of_decide_eq_true (by kernel_rfl)) (by unfold Func.isWrapper; first | (rw [if_pos (by decide +kernel)]; kernel_rfl) | (rw [if_neg (by decide +kernel)]; exact ⟨rfl, rfl⟩))
    (fun os started H enc _ F => lifted os started H enc F)
#print axioms proved
end Go.Proofs.Ytemnlcfabaocbaa.polyThroughs
