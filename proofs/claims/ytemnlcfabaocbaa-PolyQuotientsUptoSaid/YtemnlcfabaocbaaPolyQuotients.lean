/-
  The law 'PolyQuotients': for every input whose bulk is at most 1048576 it returns true and leaves its arguments as they were. The frame is after the kit's shell; the walk is ours. No further condition.
-/
import Derived.Test.YtemnlcfabaocbaaRows
import Derived.Test.YtemnlcfabaocbaaOpenU
import Derived.Test.YtemnlcfabaocbaaLaw3
import Derived.Test.YtemnlcfabaocbaaOpen
import Derived.WalkKit
import Derived.ProofKit
import Derived.OpenShut
import Derived.ShutString
import Derived.ChangeOld
import Derived.Below
namespace Go.Proofs.Ytemnlcfabaocbaa.polyQuotients
open Go.ChangeShapes Go.WideShapes Go.ChangeAt Go.RowKit
set_option linter.unusedVariables false
open Gf

theorem own : ownKnob Try.prog.godebug = none := by kernel_rfl
theorem laidOut : laidOutB Try.prog = true := by kernel_rfl

theorem put_back {p q s r : List E} (h : DivOK p q s r) : plusL (timesL s q) r = trim p :=
  (trimmed_plusL _ _).eq (trimmed_trim _) (by rw [ser_plusL, ser_timesL, ser_trim, S.add_comm, h.eq])
theorem apart_again {p q s r : List E} (h : DivOK p q s r) (c : List E) : DivOK (plusL (timesL c q) r) q (trim c) r :=
  ⟨trimmed_trim _, h.tr, by rw [ser_plusL, ser_timesL, ser_trim, S.add_comm], h.lt⟩
theorem timesL_le (p q : List E) : (timesL p q).length ≤ p.length + q.length := by
  rw [timesL, trim_length]; exact Nat.le_trans (dg_le _) (by rw [ofS_length]; exact Nat.le_refl _)
set_option maxRecDepth 20000 in
set_option maxHeartbeats 4000000 in
theorem walk (w : World) (A0 : Option Addr) (c0 : Nat) (x0 : List E) (hr0 : Rd w A0 (bs x0)) (hl0 : x0.length ≤ c0) (hc0 : c0 ≤ 1048576) (A1 : Option Addr) (c1 : Nat) (x1 : List E) (hr1 : Rd w A1 (bs x1)) (hl1 : x1.length ≤ c1) (hc1 : c1 ≤ 1048576) (A2 : Option Addr) (c2 : Nat) (x2 : List E) (hr2 : Rd w A2 (bs x2)) (hl2 : x2.length ≤ c2) (hc2 : c2 ≤ 1048576) :
    Calls Try.prog 11 #[.slice A0 x0.length c0, .slice A1 x1.length c1, .slice A2 x2.length c2] w fun e w' => e = .returned (.bool true) ∧ Below w.heap.size w w' := by
  go_enter Try.func11, Try.ntmps11
  go_wp2_with fail
  refine (awake_any _).mono ?_
  rintro e w1 ⟨rfl, y1⟩
  go_wp2_with fail
  refine (elems_n A0 _ x0 c0 _ rfl (hr0.ext y1) (by omega)).mono ?_
  rintro e w2 ⟨v, rfl, ho, hx⟩
  obtain ⟨Ap, cp, rfl, hrp, hcp, hmp⟩ := ho.bytesN rfl
  have y2 := y1.trans hx
  clear ho hx
  go_wp2_with fail
  refine (elems_n A1 _ x1 c1 _ rfl (hr1.ext y2) (by omega)).mono ?_
  rintro e w3 ⟨v, rfl, ho, hx⟩
  obtain ⟨Aq, cq, rfl, hrq, hcq, hmq⟩ := ho.bytesN rfl
  have y3 := y2.trans hx
  replace hrp := hrp.ext hx
  clear ho hx
  go_wp2_with fail
  refine (polyDivide_all _ _ _ _ cp cq x0 x1 _ rfl rfl hrp hrq (by omega) (by omega) (by omega) (by omega)).mono ?_
  rintro e w4 ⟨vs, vr, s, r, k, rfl, hd, hos, hor, -, hx⟩
  have y4 := y3.trans hx
  have hls := hd.ls
  have hlr := hd.lr
  obtain ⟨As, cs, rfl, hrs, -, -⟩ := hos.bytesN rfl
  obtain ⟨Ar, cr, rfl, hrr, -, -⟩ := hor.bytesN rfl
  replace hrp := hrp.ext hx
  replace hrq := hrq.ext hx
  clear hos hor hx
  rcases hd with ⟨h0, rfl, rfl, rfl⟩ | ⟨h0, hd, rfl⟩
  · go_wp2_with fail
    refine (degree_n Aq _ x1 cq _ rfl hrq (by omega)).mono ?_
    rintro e w' ⟨rfl, rfl⟩
    rw [h0]
    go_wp2_with (go_at_call 46; with_reducible refine (num2_any _ rfl _).mono ?_; rintro e w' ⟨rfl, rfl⟩)
    go_ret
    exact ⟨rfl, y4⟩
  · obtain ⟨d, hdd⟩ : ∃ d, dg x1 = d + 1 := ⟨dg x1 - 1, by omega⟩
    obtain ⟨z, hz, hzd⟩ : ∃ z : Int, (dg r : Int) - 1 = z ∧ z < (d : Int) := ⟨_, rfl, by have := hd.lt; have := dg_le r; omega⟩
    have hdz : decide ((d : Int) ≤ z) = false := decide_eq_false (by omega)
    have hdq : ((dg x1 : Nat) : Int) - 1 = (d : Int) := by omega
    have hd0 : decide ((d : Int) < 0) = false := decide_eq_false (by omega)
    have F1 := Lib.hid (put_back hd)
    have F2 := Lib.hid (apart_again hd x2)
    have FD := Lib.hid hd
    have hsq := timesL_le s x1
    have hcq2 := timesL_le x2 x1
    have hpl := plusL_le (timesL s x1) r
    have hpl2 := plusL_le (timesL x2 x1) r
    have htp := trim_length x0
    have htc := trim_length x2
    have hgp := dg_le x0
    have hgc := dg_le x2
    have hgr : dg r ≤ 1048576 := by have := dg_le r; omega
    clear hd h0 hdd
    go_wp2_with fail
    refine (degree_n Aq _ x1 cq _ rfl hrq (by omega)).mono ?_
    rintro e w' ⟨rfl, rfl⟩
    rw [hdq]
    go_wp2_with (go_at_call 46; with_reducible refine (num2_any _ rfl _).mono ?_; rintro e w' ⟨rfl, rfl⟩)
    refine (degree_n Ar _ r cr _ rfl hrr (by omega)).mono ?_
    rintro e w' ⟨rfl, rfl⟩
    rw [hz]
    go_wp2_with fail
    refine (degree_n Aq _ x1 cq _ rfl hrq (by omega)).mono ?_
    rintro e w' ⟨rfl, rfl⟩
    rw [hdq]
    go_wp2_with fail
    refine (polyTimes_n As Aq _ _ cs cq s x1 _ rfl rfl hrs hrq (by omega)).mono ?_
    rintro e w5 ⟨v, rfl, ho, hx⟩
    obtain ⟨A5, c5, rfl, hr5, -, -⟩ := ho.bytesN rfl
    have y5 := y4.trans hx
    replace hrp := hrp.ext hx
    replace hrq := hrq.ext hx
    replace hrr := hrr.ext hx
    clear ho hx hrs
    go_wp2_with fail
    refine (polyPlus_n A5 Ar _ _ c5 cr (timesL s x1) r _ rfl rfl hr5 hrr (by omega) (by omega)).mono ?_
    rintro e w6 ⟨v, rfl, ho, hx⟩
    rw [F1.out] at ho
    obtain ⟨A6, c6, rfl, hr6, -, -⟩ := ho.bytesN htp
    have y6 := y5.trans hx
    replace hrp := hrp.ext hx
    replace hrq := hrq.ext hx
    replace hrr := hrr.ext hx
    clear ho hx hr5
    go_wp2_with fail
    refine (trim_n Ap _ x0 cp _ rfl hrp (by omega) hcp).mono ?_
    rintro e w7 ⟨v, rfl, ho, hx⟩
    obtain ⟨A7, c7, rfl, hr7, -, -⟩ := ho.bytesN htp
    have y7 := y6.trans hx
    replace hrq := hrq.ext hx
    replace hrr := hrr.ext hx
    replace hr6 := hr6.ext hx
    clear ho hx hrp
    go_wp2_with fail
    refine (equal_n A6 A7 _ _ (trim x0) c6 c7 _ htp htp hr6 hr7 (by omega)).mono ?_
    rintro e w8 ⟨rfl, hx⟩
    have y8 := y7.trans hx
    replace hrq := hrq.ext hx
    replace hrr := hrr.ext hx
    clear hx hr6 hr7
    go_wp2_with fail
    refine (elems_n A2 _ x2 c2 _ rfl (hr2.ext y8) (by omega)).mono ?_
    rintro e w9 ⟨v, rfl, ho, hx⟩
    obtain ⟨A9, c9, rfl, hr9, -, -⟩ := ho.bytesN rfl
    have y9 := y8.trans hx
    replace hrq := hrq.ext hx
    replace hrr := hrr.ext hx
    clear ho hx
    go_wp2_with fail
    refine (polyTimes_n A9 Aq _ _ c9 cq x2 x1 _ rfl rfl hr9 hrq (by omega)).mono ?_
    rintro e w10 ⟨v, rfl, ho, hx⟩
    obtain ⟨A10, c10, rfl, hr10, -, -⟩ := ho.bytesN rfl
    have y10 := y9.trans hx
    replace hrq := hrq.ext hx
    replace hrr := hrr.ext hx
    clear ho hx hr9
    go_wp2_with fail
    refine (polyPlus_n A10 Ar _ _ c10 cr (timesL x2 x1) r _ rfl rfl hr10 hrr (by omega) (by omega)).mono ?_
    rintro e w11 ⟨v, rfl, ho, hx⟩
    obtain ⟨A11, c11, rfl, hr11, hc11, hm11⟩ := ho.bytesN rfl
    have y11 := y10.trans hx
    replace hrq := hrq.ext hx
    replace hrr := hrr.ext hx
    clear ho hx hr10
    go_wp2_with fail
    refine (polyDivide_all _ _ _ _ c11 cq (plusL (timesL x2 x1) r) x1 _ rfl rfl hr11 hrq (by omega) (by omega) hc11 hcq).mono ?_
    rintro e w12 ⟨vs, vr, s', r', k, rfl, hd, hos, hor, -, hx⟩
    obtain ⟨rfl, rfl, rfl⟩ : s' = trim x2 ∧ r' = r ∧ k = 0 := by
      rcases hd with ⟨h0, _⟩ | ⟨h0, hd, rfl⟩
      · have := FD.out.lt; omega
      · exact ⟨(hd.uniq F2.out).1, (hd.uniq F2.out).2, rfl⟩
    clear hd
    have y12 := y11.trans hx
    obtain ⟨A12, c12, rfl, hr12, -, -⟩ := hos.bytesN htc
    obtain ⟨B12, d12, rfl, hs12, -, -⟩ := hor.bytesN rfl
    replace hrr := hrr.ext hx
    clear hos hor hx hrq hr11
    go_wp2_with (go_at_call 46; with_reducible refine (num2_any _ rfl _).mono ?_; rintro e w' ⟨rfl, rfl⟩)
    refine (elems_n A2 _ x2 c2 _ rfl (hr2.ext y12) (by omega)).mono ?_
    rintro e w13 ⟨v, rfl, ho, hx⟩
    obtain ⟨A13, c13, rfl, hr13, hc13, -⟩ := ho.bytesN rfl
    have y13 := y12.trans hx
    replace hrr := hrr.ext hx
    replace hr12 := hr12.ext hx
    replace hs12 := hs12.ext hx
    clear ho hx
    go_wp2_with fail
    refine (trim_n A13 _ x2 c13 _ rfl hr13 (by omega) hc13).mono ?_
    rintro e w14 ⟨v, rfl, ho, hx⟩
    obtain ⟨A14, c14, rfl, hr14, -, -⟩ := ho.bytesN htc
    have y14 := y13.trans hx
    replace hrr := hrr.ext hx
    replace hr12 := hr12.ext hx
    replace hs12 := hs12.ext hx
    clear ho hx hr13
    go_wp2_with fail
    refine (equal_n A12 A14 _ _ (trim x2) c12 c14 _ htc htc hr12 hr14 (by omega)).mono ?_
    rintro e w15 ⟨rfl, hx⟩
    have y15 := y14.trans hx
    replace hrr := hrr.ext hx
    replace hs12 := hs12.ext hx
    go_wp2_with fail
    refine (equal_n B12 Ar _ _ r' d12 cr _ rfl rfl hs12 hrr (by omega)).mono ?_
    rintro e w16 ⟨rfl, hx⟩
    go_wp2
    go_ret
    exact ⟨rfl, y15.trans hx⟩

set_option maxRecDepth 100000 in
theorem lifted (os : Os) (started : os.Started) (H : Type) (enc : TypeId × Value → H) (F : Stop.Interp) :
    ReturnsInHanded {} Try.checked os 11 .any ((Rows.OpenSpec.upto Rows.polyQuotientsSpec).pre6 enc Try.prog Try.f11 Rows.polyQuotientsUptoRow.domain false) (((Rows.OpenSpec.upto Rows.polyQuotientsSpec).at F).post enc Try.prog Try.f11 false true false false) := by
  refine returnsInHanded_of_cond_sized (C := Try.checked) (s := Rows.OpenSpec.upto Rows.polyQuotientsSpec) (k := Rows.uptoSmall) rfl own started (by kernel_rfl) Try.func11
    (OpenSpec.witness (enc := enc) (C := Try.checked) (s := Rows.OpenSpec.upto Rows.polyQuotientsSpec) (k := Rows.uptoSmall) rfl false ⟨#[], #[.slice none 0 0, .slice none 0 0, .slice none 0 0], []⟩ 8 (by kernel_rfl) (by kernel_rfl) (by kernel_rfl)
      (x := ([.nil, .nil, .nil], [], [])) (by kernel_rfl) rfl (by kernel_rfl)) ?_
  intro W base args ds gs before hval0 hW hcnd hk hsz0 _
  have hval : ∀ (j : Nat) t v, Try.f11.params[j]? = some t → args[j]? = some v → Value.okWide Try.prog W .any base t v := hval0
  have hsz : (DataW.weightsEach Try.prog (Try.f11.params.toList ++ Rows.polyQuotientsSpec.plain.varTypes Try.prog) (ds ++ gs)).all (· ≤ reachBytes) = true := hsz0
  have hW' := hW
  obtain ⟨p, q, hA0, hV, rfl, hfz, hnd⟩ := hW
  have hA : DataW.TrodAll enc Try.prog W 0 (fun _ => true) true Try.f11.params.toList args.toList ds p := hA0
  rw [Try.params11] at hA hval hsz
  obtain ⟨v0, vs0, d0, ds0, p0, q0, hargs, rfl, rfl, h0, r0⟩ := trodAll_cons hA
  obtain ⟨v1, vs1, d1, ds1, p1, q1, rfl, rfl, rfl, h1, r1⟩ := trodAll_cons r0
  obtain ⟨v2, vs2, d2, ds2, p2, q2, rfl, rfl, rfl, h2, r2⟩ := trodAll_cons r1
  obtain ⟨rfl, rfl, rfl⟩ := trodAll_nil r2
  obtain rfl : args = #[v0, v1, v2] := by cases args; simp_all
  obtain ⟨rfl, rfl⟩ := trodVars_none hV
  have k0 := h0
  have lt0 : ∀ x ∈ p0, x.block < W.heap.size := by obtain ⟨m, hm⟩ := k0; exact DataW.trod_lt m _ _ _ hm
  obtain ⟨A0, c0, x0, rfl, hr0, hl0, hc0⟩ : ∃ (A : Option Addr) (cap : Nat) (xs : List E), v0 = .slice A xs.length cap ∧ Rd W A (bs xs) ∧ xs.length ≤ cap ∧ cap ≤ 1048576 := by
    obtain ⟨a, n, c, hv⟩ := okWide_slice Try.underlying24 (hval 0 24 v0 rfl rfl)
    obtain ⟨fuel, hf⟩ := h0
    subst hv
    obtain ⟨A, cap, xs, e, h1, h2, h3⟩ := open_bytes_u Try.underlying24 Try.underlying5 (by kernel_rfl) hf (bulk_bound hk (by simp))
    simp [Value.cells] at e
    obtain ⟨rfl, rfl, rfl⟩ := e
    exact ⟨_, _, _, rfl, h1, h2, h3⟩
  have k1 := h1
  have lt1 : ∀ x ∈ p1, x.block < W.heap.size := by obtain ⟨m, hm⟩ := k1; exact DataW.trod_lt m _ _ _ hm
  obtain ⟨A1, c1, x1, rfl, hr1, hl1, hc1⟩ : ∃ (A : Option Addr) (cap : Nat) (xs : List E), v1 = .slice A xs.length cap ∧ Rd W A (bs xs) ∧ xs.length ≤ cap ∧ cap ≤ 1048576 := by
    obtain ⟨a, n, c, hv⟩ := okWide_slice Try.underlying24 (hval 1 24 v1 rfl rfl)
    obtain ⟨fuel, hf⟩ := h1
    subst hv
    obtain ⟨A, cap, xs, e, h1, h2, h3⟩ := open_bytes_u Try.underlying24 Try.underlying5 (by kernel_rfl) hf (bulk_bound hk (by simp))
    simp [Value.cells] at e
    obtain ⟨rfl, rfl, rfl⟩ := e
    exact ⟨_, _, _, rfl, h1, h2, h3⟩
  have k2 := h2
  have lt2 : ∀ x ∈ p2, x.block < W.heap.size := by obtain ⟨m, hm⟩ := k2; exact DataW.trod_lt m _ _ _ hm
  obtain ⟨A2, c2, x2, rfl, hr2, hl2, hc2⟩ : ∃ (A : Option Addr) (cap : Nat) (xs : List E), v2 = .slice A xs.length cap ∧ Rd W A (bs xs) ∧ xs.length ≤ cap ∧ cap ≤ 1048576 := by
    obtain ⟨a, n, c, hv⟩ := okWide_slice Try.underlying24 (hval 2 24 v2 rfl rfl)
    obtain ⟨fuel, hf⟩ := h2
    subst hv
    obtain ⟨A, cap, xs, e, h1, h2, h3⟩ := open_bytes_u Try.underlying24 Try.underlying5 (by kernel_rfl) hf (bulk_bound hk (by simp))
    simp [Value.cells] at e
    obtain ⟨rfl, rfl, rfl⟩ := e
    exact ⟨_, _, _, rfl, h1, h2, h3⟩
  clear hA0 hval0
  refine (walk W A0 c0 x0 hr0 hl0 hc0 A1 c1 x1 hr1 hl1 hc1 A2 c2 x2 hr2 hl2 hc2).mono fun e W' ⟨he, bel⟩ => ?_
  subst he
  exact ⟨_, rfl, _, _, _, [], _, [], hW', trodAll_mk1 (shut_bool Try.underlying4 _), (trodAll_cons_mk (Below.trod laidOut (by kernel_rfl) (of_decide_eq_true (by kernel_rfl)) k0 bel lt0) (trodAll_cons_mk (Below.trod laidOut (by kernel_rfl) (of_decide_eq_true (by kernel_rfl)) k1 bel lt1) (trodAll_cons_mk (Below.trod laidOut (by kernel_rfl) (of_decide_eq_true (by kernel_rfl)) k2 bel lt2) trodAll_mk0))), rfl, bel.frame _, fun h => by cases h⟩

theorem proved : Rows.PolyQuotientsUptoSaid :=
  OpenClaim.holds_of_cond 11 Try.f11 rfl rfl rfl rfl rfl rfl rfl ⟨rfl, rfl, rfl, rfl, rfl⟩ rfl rfl rfl rfl rfl (by kernel_rfl) Try.func11 (by kernel_rfl)
    (of_decide_eq_true (by kernel_rfl)) (by unfold Func.isWrapper; first | (rw [if_pos (by decide +kernel)]; kernel_rfl) | (rw [if_neg (by decide +kernel)]; exact ⟨rfl, rfl⟩))
    (fun os started H enc _ F => lifted os started H enc F)
#print axioms proved
end Go.Proofs.Ytemnlcfabaocbaa.polyQuotients
