/-
  The law 'PolyRootsFew': for every input whose bulk is at most 1048576 it returns true and leaves its arguments as they were. The frame is after the kit's shell; the walk is ours. No further condition.
-/
import Derived.Test.YtemnlcfabaocbaaRows
import Derived.Test.YtemnlcfabaocbaaOpenU
import Derived.Test.YtemnlcfabaocbaaRootsMore
import Derived.Test.YtemnlcfabaocbaaOpen
import Derived.WalkKit
import Derived.ProofKit
import Derived.OpenShut
import Derived.ShutString
import Derived.ChangeOld
import Derived.Below
namespace Go.Proofs.Ytemnlcfabaocbaa.polyRootsFew
open Go.ChangeShapes Go.WideShapes Go.ChangeAt Go.RowKit
set_option linter.unusedVariables false
open Gf

theorem own : ownKnob Try.prog.godebug = none := by kernel_rfl
theorem laidOut : laidOutB Try.prog = true := by kernel_rfl

set_option maxRecDepth 20000 in
set_option maxHeartbeats 8000000 in
theorem walk (w : World) (A0 : Option Addr) (c0 : Nat) (x0 : List E) (hr0 : Rd w A0 (bs x0)) (hl0 : x0.length ≤ c0) (hc0 : c0 ≤ 1048576) (A1 : Option Addr) (c1 : Nat) (x1 : List E) (hr1 : Rd w A1 (bs x1)) (hl1 : x1.length ≤ c1) (hc1 : c1 ≤ 1048576) :
    Calls Try.prog 13 #[.slice A0 x0.length c0, .slice A1 x1.length c1] w fun e w' => e = .returned (.bool true) ∧ Below w.heap.size w w' := by
  obtain ⟨L, hL⟩ : ∃ L, (rootsL x0).length = L := ⟨_, rfl⟩
  have hL256 : L ≤ 256 := by rw [← hL]; exact rootsTo_le x0 256
  obtain ⟨D, hD, hcase⟩ : ∃ D : Int, (dg x0 : Int) - 1 = D ∧ ((D = -1 ∧ L = 256) ∨ (0 ≤ D ∧ (L : Int) ≤ D ∧ D ≤ 1048576)) := by
    refine ⟨_, rfl, ?_⟩
    rcases Nat.eq_zero_or_pos (dg x0) with h | h
    · exact .inl ⟨by omega, by rw [← hL]; exact roots_all h⟩
    · right
      have := roots_few (p := x0) (d := dg x0 - 1) (by omega)
      have := dg_le x0
      omega
  obtain ⟨M, hM⟩ : ∃ M, (unl x1).length = M := ⟨_, rfl⟩
  have hM1 : M ≤ 1048576 := by rw [← hM]; exact Nat.le_trans (unl_le x1) (by omega)
  have hvl : (vanishL (unl x1)).length = M + 1 := by rw [vanish_length, hM]
  have hvr : (rootsL (vanishL (unl x1))).length = M := by rw [vanish_roots _ (unl_nodup x1), hM]
  have HVD := Lib.hid (show (dg (vanishL (unl x1)) : Int) - 1 = (M : Int) by rw [vanish_dg, hM]; omega)
  have HD := Lib.hid hD
  go_enter Try.func13, Try.ntmps13
  go_wp2_with fail
  refine (awake_any _).mono ?_
  rintro e w1 ⟨rfl, y1⟩
  go_wp2_with fail
  refine (elems_n A0 _ x0 c0 _ rfl (hr0.ext y1) (by omega)).mono ?_
  rintro e w2 ⟨v, rfl, ho, hx⟩
  obtain ⟨Ap, cp, rfl, hrp, hcp, hmp⟩ := ho.bytesN rfl
  have y2 := y1.trans hx
  clear ho hx
  go_wp2_with fail
  refine (polyRoots_n Ap _ x0 cp _ rfl hrp (by omega)).mono ?_
  rintro e w3 ⟨v, rfl, ho, hx⟩
  obtain ⟨Al, cl, rfl, hrl, -, -⟩ := ho.bytesN hL
  have y3 := y2.trans hx
  replace hrp := hrp.ext hx
  clear ho hx
  go_wp2_with fail
  refine (degree_n Ap _ x0 cp _ rfl hrp (by omega)).mono ?_
  rintro e w' ⟨rfl, rfl⟩
  rw [HD.out]
  have HR1 := Lib.hid hr1
  have HRP := Lib.hid hrp
  have HRL := Lib.hid hrl
  have HY := Lib.hid y3
  have HLL := Lib.hid hL
  have HMM := Lib.hid hM
  clear hr0 hr1 hrp hrl y1 y2 y3 hL hM hD
  rcases hcase with ⟨rfl, rfl⟩ | ⟨h1, h2, h3⟩
  rotate_left
  have hd1 : decide (D < 0) = false := decide_eq_false (by omega)
  have hd2 : decide (0 ≤ D) = true := decide_eq_true h1
  have hd3 : decide (D < (L : Int)) = false := decide_eq_false (by omega)
  rotate_left
  all_goals
    go_wp2_with fail
    go_loopw [9, 10] (fun k i wr => ∃ (j K : Nat), j ≤ 256 ∧ i = .int .i64 j ∧ k = .int .i64 K ∧ Hid ((rootsTo x0 j).length = K) ∧ Ext w3 wr) (fun _ i _ => 256 - (intOf i).toNat)
    case atStart => exact ⟨0, 0, by omega, rfl, rfl, rfl, Ext.refl _⟩
    case round =>
      obtain ⟨j, K, hj, rfl, rfl, hK, hx⟩ := hrel
      have hK256 : K ≤ 256 := by rw [← hK.out]; have := rootsTo_le x0 j; omega
      by_cases hlt : j < 256
      · have hof : (E.of j).val = j := E.val_of hlt
        have hcell : (bs [E.of j, 1]).toArray = #[.int .u8 (j : Int), .int .u8 1] := by simp [bs, bv, hof]; rfl
        have hrd := rd_lit wr 34 [E.of j, 1] (by simp)
        rw [hcell] at hrd
        have HOF := Lib.hid hof
        clear hcell hof
        go_wp2_with fail
        refine (polyDivide_all Ap _ _ 2 cp 2 x0 [E.of j, 1] _ rfl rfl ((HRP.out.ext hx).alloc _) hrd (by omega) (by omega) (by omega) (by omega)).mono ?_
        rintro e w4 ⟨vs, vr, s, r, k, rfl, hd, hos, hor, -, hx4⟩
        obtain ⟨rfl, hr0, hr1⟩ := lin_rest hd
        obtain ⟨As, cs, rfl, -, -, -⟩ := hos.bytesN rfl
        obtain ⟨Ar, cr, rfl, -, -, -⟩ := hor.bytesN rfl
        have hx4' : Ext wr w4 := ((Ext.refl wr).alloc _).trans hx4
        have hxx := hx.trans hx4'
        clear hd hos hor hrd hx4
        by_cases hz : evL x0 (E.of j) = 0
        · have hr2 : r.length = 0 := hr0.2 hz
          obtain ⟨hk, hke⟩ := root_here hlt hz
          have HS := Lib.hid (show (rootsTo x0 (j + 1)).length = K + 1 by rw [rootsTo_yes hz, List.length_append, hK.out]; rfl)
          obtain ⟨ad, rfl, hc⟩ := (HRL.out.ext hxx).byte hk
          rw [hke, HOF.out] at hc
          have hKo := hK.out
          rw [hKo] at hc
          have hkl : K < (rootsL x0).length := by rw [← hKo]; exact hk
          rw [HLL.out] at hkl
          clear hk hke hKo hz hr0 hr1
          rw [hr2]
          go_wp2_with (go_at_call 46; with_reducible refine (num2_any _ rfl _).mono ?_; rintro e w' ⟨rfl, rfl⟩)
          go_roundw
          case rel => exact ⟨j + 1, K + 1, by omega, by go_num, by go_num, HS, hxx⟩
          case measure => simp [intOf]; omega
        · have hr2 : r.length = 1 := by
            rcases Nat.eq_zero_or_pos r.length with h | h
            · exact absurd (hr0.1 h) hz
            · omega
          have HS := Lib.hid (show (rootsTo x0 (j + 1)).length = K by rw [rootsTo_no hz, hK.out])
          have hnot := root_not hlt hz
          rw [hr2]
          clear hz hr0 hr1
          by_cases hkl : K < (rootsL x0).length
          · obtain ⟨y, hy⟩ : ∃ y, (rootsL x0)[K] = y := ⟨_, rfl⟩
            have hyj : y.val ≠ j := by rw [← hy]; have := hnot (by rw [hK.out]; exact hkl); simpa [hK.out] using this
            have hyj' : ((y.val : Int) == (j : Int)) = false := by rw [beq_eq_false_iff_ne]; omega
            obtain ⟨ad, rfl, hc⟩ := (HRL.out.ext hxx).byte hkl
            rw [hy] at hc
            rw [HLL.out] at hkl
            have hyl := y.lt
            clear hnot hy hyj
            go_wp2_with (go_at_call 46; with_reducible refine (num2_any _ rfl _).mono ?_; rintro e w' ⟨rfl, rfl⟩)
            go_roundw
            case rel => exact ⟨j + 1, K, by omega, by go_num, rfl, HS, hxx⟩
            case measure => simp [intOf]; omega
          · rw [HLL.out] at hkl
            clear hnot
            go_wp2_with (go_at_call 46; with_reducible refine (num2_any _ rfl _).mono ?_; rintro e w' ⟨rfl, rfl⟩)
            go_roundw
            case rel => exact ⟨j + 1, K, by omega, by go_num, rfl, HS, hxx⟩
            case measure => simp [intOf]; omega
      · obtain rfl : j = 256 := by omega
        have hKL := hK.out.symm.trans HLL.out
        subst hKL
        have z3 := HY.out.trans hx
        go_wp2_with fail
        refine (unlike_n A1 _ x1 c1 _ rfl (HR1.out.ext z3) (by omega)).mono ?_
        rintro e w5 ⟨v, rfl, ho, hx5⟩
        obtain ⟨Ax, cx, rfl, hrx, -, -⟩ := ho.bytesN HMM.out
        have z5 := z3.trans hx5
        clear ho hx5
        go_wp2_with fail
        refine (polyVanish_n Ax M cx (unl x1) _ HMM.out hrx (by omega)).mono ?_
        rintro e w6 ⟨v, rfl, ho, hx6⟩
        obtain ⟨Aw, cw, rfl, hrw, -, -⟩ := ho.bytesN hvl
        have z6 := z5.trans hx6
        replace hrx := hrx.ext hx6
        clear ho hx6
        go_wp2_with fail
        refine (polyRoots_n Aw _ (vanishL (unl x1)) cw _ hvl hrw (by omega)).mono ?_
        rintro e w7 ⟨v, rfl, ho, hx7⟩
        obtain ⟨Az, cz, rfl, -, -, -⟩ := ho.bytesN hvr
        have z7 := z6.trans hx7
        replace hrx := hrx.ext hx7
        replace hrw := hrw.ext hx7
        clear ho hx7
        go_wp2_with fail
        refine (degree_n Aw _ (vanishL (unl x1)) cw _ hvl hrw (by omega)).mono ?_
        rintro e w' ⟨rfl, rfl⟩
        rw [HVD.out]
        have HRW := Lib.hid hrw
        have HRX := Lib.hid hrx
        clear hrw hrx hx z3 z5 z6
        go_wp2_with fail
        go_loopw [18] (fun i wr => ∃ j : Nat, j ≤ M ∧ i = .int .i64 j ∧ Ext w7 wr) (fun i _ => M - (intOf i).toNat)
        case atStart => exact ⟨0, by omega, rfl, Ext.refl _⟩
        case round =>
          obtain ⟨j, hj, rfl, hx⟩ := hrel
          by_cases hlt : j < M
          · have hjx : j < (unl x1).length := by rw [HMM.out]; exact hlt
            obtain ⟨ad, rfl, hc⟩ := (HRX.out.ext hx).byte hjx
            have HZ := Lib.hid ((vanish_ev (unl x1) (unl x1)[j]).2 (List.getElem_mem hjx))
            have hxl := ((unl x1)[j]).lt
            go_wp2_with fail
            refine (polyAt_n Aw _ cw (vanishL (unl x1)) (unl x1)[j] _ hvl (HRW.out.ext hx) (by simp only [maxLen]; omega)).mono ?_
            rintro e w8 ⟨rfl, hx8⟩
            rw [HZ.out]
            go_wp2
            go_roundw
            case rel => exact ⟨j + 1, by omega, by go_num, hx.trans hx8⟩
            case measure => simp [intOf]; omega
          · obtain rfl : j = M := by omega
            go_wp2
            go_ret
            exact ⟨rfl, z7.trans hx⟩

set_option maxRecDepth 100000 in
theorem lifted (os : Os) (started : os.Started) (H : Type) (enc : TypeId × Value → H) (F : Stop.Interp) :
    ReturnsInHanded {} Try.checked os 13 .any ((Rows.OpenSpec.upto Rows.polyRootsFewSpec).pre6 enc Try.prog Try.f13 Rows.polyRootsFewUptoRow.domain false) (((Rows.OpenSpec.upto Rows.polyRootsFewSpec).at F).post enc Try.prog Try.f13 false true false false) := by
  refine returnsInHanded_of_cond_sized (C := Try.checked) (s := Rows.OpenSpec.upto Rows.polyRootsFewSpec) (k := Rows.uptoSmall) rfl own started (by kernel_rfl) Try.func13
    (OpenSpec.witness (enc := enc) (C := Try.checked) (s := Rows.OpenSpec.upto Rows.polyRootsFewSpec) (k := Rows.uptoSmall) rfl false ⟨#[], #[.slice none 0 0, .slice none 0 0], []⟩ 8 (by kernel_rfl) (by kernel_rfl) (by kernel_rfl)
      (x := ([.nil, .nil], [], [])) (by kernel_rfl) rfl (by kernel_rfl)) ?_
  intro W base args ds gs before hval0 hW hcnd hk hsz0 _
  have hval : ∀ (j : Nat) t v, Try.f13.params[j]? = some t → args[j]? = some v → Value.okWide Try.prog W .any base t v := hval0
  have hsz : (DataW.weightsEach Try.prog (Try.f13.params.toList ++ Rows.polyRootsFewSpec.plain.varTypes Try.prog) (ds ++ gs)).all (· ≤ reachBytes) = true := hsz0
  have hW' := hW
  obtain ⟨p, q, hA0, hV, rfl, hfz, hnd⟩ := hW
  have hA : DataW.TrodAll enc Try.prog W 0 (fun _ => true) true Try.f13.params.toList args.toList ds p := hA0
  rw [Try.params13] at hA hval hsz
  obtain ⟨v0, vs0, d0, ds0, p0, q0, hargs, rfl, rfl, h0, r0⟩ := trodAll_cons hA
  obtain ⟨v1, vs1, d1, ds1, p1, q1, rfl, rfl, rfl, h1, r1⟩ := trodAll_cons r0
  obtain ⟨rfl, rfl, rfl⟩ := trodAll_nil r1
  obtain rfl : args = #[v0, v1] := by cases args; simp_all
  obtain ⟨rfl, rfl⟩ := trodVars_none hV
  have k0 := h0
  have lt0 : ∀ x ∈ p0, x.block < W.heap.size := by obtain ⟨m, hm⟩ := k0; exact DataW.trod_lt m _ _ _ hm
  obtain ⟨A0, c0, x0, rfl, hr0, hl0, hc0⟩ : ∃ (A : Option Addr) (cap : Nat) (xs : List E), v0 = .slice A xs.length cap ∧ Rd W A (bs xs) ∧ xs.length ≤ cap ∧ cap ≤ 1048576 := by
    obtain ⟨a, n, c, hv⟩ := okWide_slice Try.underlying24 (hval 0 24 v0 rfl rfl)
    obtain ⟨fuel, hf⟩ := h0
    subst hv
    obtain ⟨A, cap, xs, e, h1, h2, h3⟩ := open_bytes_u Try.underlying24 Try.underlying5 (by kernel_rfl) hf (bulk_bound hk (by simp))
    simp [Value.cells] at e
    obtain ⟨rfl, rfl, rfl⟩ := e
    exact ⟨_, _, _, rfl, h1, h2, h3⟩
  have k1 := h1
  have lt1 : ∀ x ∈ p1, x.block < W.heap.size := by obtain ⟨m, hm⟩ := k1; exact DataW.trod_lt m _ _ _ hm
  obtain ⟨A1, c1, x1, rfl, hr1, hl1, hc1⟩ : ∃ (A : Option Addr) (cap : Nat) (xs : List E), v1 = .slice A xs.length cap ∧ Rd W A (bs xs) ∧ xs.length ≤ cap ∧ cap ≤ 1048576 := by
    obtain ⟨a, n, c, hv⟩ := okWide_slice Try.underlying24 (hval 1 24 v1 rfl rfl)
    obtain ⟨fuel, hf⟩ := h1
    subst hv
    obtain ⟨A, cap, xs, e, h1, h2, h3⟩ := open_bytes_u Try.underlying24 Try.underlying5 (by kernel_rfl) hf (bulk_bound hk (by simp))
    simp [Value.cells] at e
    obtain ⟨rfl, rfl, rfl⟩ := e
    exact ⟨_, _, _, rfl, h1, h2, h3⟩
  clear hA0 hval0
  refine (walk W A0 c0 x0 hr0 hl0 hc0 A1 c1 x1 hr1 hl1 hc1).mono fun e W' ⟨he, bel⟩ => ?_
  subst he
  exact ⟨_, rfl, _, _, _, [], _, [], hW', trodAll_mk1 (shut_bool Try.underlying4 _), (trodAll_cons_mk (Below.trod laidOut (by kernel_rfl) (of_decide_eq_true (by kernel_rfl)) k0 bel lt0) (trodAll_cons_mk (Below.trod laidOut (by kernel_rfl) (of_decide_eq_true (by kernel_rfl)) k1 bel lt1) trodAll_mk0)), rfl, bel.frame _, fun h => by cases h⟩

theorem proved : Rows.PolyRootsFewUptoSaid :=
  OpenClaim.holds_of_cond 13 Try.f13 rfl rfl rfl rfl rfl rfl rfl ⟨rfl, rfl, rfl, rfl, rfl⟩ rfl rfl rfl rfl rfl (by kernel_rfl) Try.func13 (by kernel_rfl)
    (of_decide_eq_true (by kernel_rfl)) (by unfold Func.isWrapper; first | (rw [if_pos (by decide +kernel)]; kernel_rfl) | (rw [if_neg (by decide +kernel)]; exact ⟨rfl, rfl⟩))
    (fun os started H enc _ F => lifted os started H enc F)
#print axioms proved
end Go.Proofs.Ytemnlcfabaocbaa.polyRootsFew
