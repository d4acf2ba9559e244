/-
  The law 'FieldLinear': for every input it returns true and leaves its arguments as they were. The frame is after the kit's shell; the walk is ours. No condition.
-/
import Derived.Test.YtdimanoodfepiaaRows
import Derived.Test.YtdimanoodfepiaaBytes2
import Derived.Test.YtdimanoodfepiaaFieldMore
import Derived.Test.YtdimanoodfepiaaOpen
import Derived.WalkKit
import Derived.ProofKit
import Derived.OpenShut
import Derived.ShutString
import Derived.ChangeOld
import Derived.Below
namespace Go.Proofs.Ytdimanoodfepiaa.fieldLinear
open Go.ChangeShapes Go.WideShapes Go.ChangeAt Go.RowKit
set_option linter.unusedVariables false
open Gf

theorem own : ownKnob Try.prog.godebug = none := by kernel_rfl
theorem laidOut : laidOutB Try.prog = true := by kernel_rfl

theorem addL_scale (p q : List E) (c : E) : (addL p q).map (· * c) = addL (p.map (· * c)) (q.map (· * c)) := by
  simp only [addL, List.map_zipWith, List.zipWith_map]
  congr 1
  funext x y
  exact E.add_mul x y c
theorem foldl_add (l : List E) (z : E) : l.foldl (· + ·) z = z + l.foldl (· + ·) 0 := by
  induction l generalizing z with
  | nil => simp [E.add_zero]
  | cons x l ih => simp only [List.foldl_cons]; rw [ih (z + x), ih (0 + x), E.zero_add, E.add_assoc]
theorem dot_addL : ∀ (p q r : List E), p.length = q.length → dot (addL p q) r = dot p r + dot q r
  | [], [], _, _ => by simp [dot, addL, E.add_zero]
  | x :: p, y :: q, [], _ => by simp [dot, addL, E.add_zero]
  | x :: p, y :: q, z :: r, h => by
    have ih := dot_addL p q r (by simpa using h)
    simp only [dot, addL, List.zipWith_cons_cons, List.foldl_cons, E.zero_add] at ih ⊢
    rw [foldl_add _ ((x + y) * z), foldl_add _ (x * z), foldl_add _ (y * z), ih, E.add_mul]
    simp only [E.add_assoc]
    congr 1
    rw [E.add_left_comm]
theorem addL_length (p q : List E) (h : q.length = p.length) : (addL p q).length = p.length := by simp [addL]; omega

set_option maxRecDepth 20000 in
set_option maxHeartbeats 2000000 in
theorem walk (w : World) (A0 : Option Addr) (c0 : Nat) (x0 : List E) (hr0 : Rd w A0 (bs x0)) (hl0 : x0.length ≤ c0) (hc0 : c0 ≤ 140737488351232) (A1 : Option Addr) (c1 : Nat) (x1 : List E) (hr1 : Rd w A1 (bs x1)) (hl1 : x1.length ≤ c1) (hc1 : c1 ≤ 140737488351232) (A2 : Option Addr) (c2 : Nat) (x2 : List E) (hr2 : Rd w A2 (bs x2)) (hl2 : x2.length ≤ c2) (hc2 : c2 ≤ 140737488351232) (a3 : Int) (w3 : (Lit.int .u8 a3).wf = true) :
    Calls Try.prog 12 #[.slice A0 x0.length c0, .slice A1 x1.length c1, .slice A2 x2.length c2, .int .u8 a3] w fun e w' => e = .returned (.bool true) ∧ Below w.heap.size w w' := by
  obtain ⟨c, rfl⟩ := toE w3
  go_enter Try.func12, Try.ntmps12
  go_wp2_with fail
  refine (even_len A0 A1 x0 x1 c0 c1 _ hr0 hr1 hl0 hl1 (by omega) (by omega) (by simp only [maxLen]; omega) (by simp only [maxLen]; omega)).mono ?_
  rintro e w1 ⟨Ap, Aq, cp, cq, p, q, rfl, HQ, hpx, hpc, hqc, hmp, hmq, -, -, hrp, hrq, hx1⟩
  go_wp2_with fail
  refine (even_len Ap A2 p x2 cp c2 _ hrp (hr2.ext hx1) hpc hl2 (by omega) (by omega) hmp (by simp only [maxLen]; omega)).mono ?_
  rintro e w2 ⟨Ar, As, cr, cs, r, s, rfl, HS, hrx, hrc, hsc, hmr, hms, -, -, hrr, hrs, hx2⟩
  have hrp2 := hrq.ext hx2
  have hq2 : Rd w2 Aq (bs (q.take r.length)) := by rw [bs_take]; exact hrp2.take _
  have hql := Lib.hid (show (q.take r.length).length = r.length by rw [List.length_take, HQ.out]; omega)
  have hqc2 : r.length ≤ cq := by omega
  generalize q.take r.length = q2 at hq2 hql
  clear hrp hrq hrp2
  go_wp2_with fail
  refine (sum_n Ar Aq r.length r.length r q2 _ _ _ rfl hql.out hrr hq2 rfl (by omega)).mono ?_
  rintro e w3 ⟨v, rfl, ho3, hx3⟩
  obtain ⟨At, ct, rfl, -, hrt, -, -⟩ := ho3.bytes
  have Ht := Lib.hid (addL_length r q2 hql.out)
  have hT := Lib.hid (rfl : addL r q2 = addL r q2)
  rw [Ht.out]
  go_wp2_with fail
  refine (scale_n Ar r.length r _ c _ rfl (hrr.ext hx3) (by omega)).mono ?_
  rintro e w4 ⟨v, rfl, ho4, hx4⟩
  obtain ⟨Au, cu, rfl, -, hru, -, -⟩ := ho4.bytes
  rw [List.length_map]
  go_wp2_with fail
  refine (scale_n Aq r.length q2 _ c _ hql.out (hq2.ext (hx3.trans hx4)) (by omega)).mono ?_
  rintro e w5 ⟨v, rfl, ho5, hx5⟩
  obtain ⟨Av, cv, rfl, -, hrv, -, -⟩ := ho5.bytes
  rw [List.length_map, hql.out]
  go_wp2_with fail
  refine (sum_n Au Av r.length r.length (r.map (· * c)) (q2.map (· * c)) _ _ _ (List.length_map _) ((List.length_map _).trans hql.out) (hru.ext hx5) hrv rfl (by omega)).mono ?_
  rintro e w6 ⟨v, rfl, ho6, hx6⟩
  obtain ⟨Ax, cx, rfl, -, hrx', -, -⟩ := ho6.bytes
  rw [addL_length _ _ (by rw [List.length_map, List.length_map, hql.out]), List.length_map]
  have hrt6 := hrt.ext (hx4.trans (hx5.trans hx6))
  have hrs6 := hrs.ext (hx3.trans (hx4.trans (hx5.trans hx6)))
  have hrr6 := hrr.ext (hx3.trans (hx4.trans (hx5.trans hx6)))
  have hq6 := hq2.ext (hx3.trans (hx4.trans (hx5.trans hx6)))
  have hxa := hx1.trans (hx2.trans (hx3.trans (hx4.trans (hx5.trans hx6))))
  have HF := Lib.hid (addL_scale r q2 c)
  have HD := dot_addL r q2 s hql.out.symm
  clear hrr hq2 hrt hrs hx1 hx2 hx3 hx4 hx5 hx6 ho3 ho4 ho5 ho6 hru hrv hr0 hr1 hr2
  go_wp2_with fail
  refine (dot_n At As r.length r.length (addL r q2) s _ _ _ Ht.out HS.out hrt6 hrs6 rfl (by omega)).mono ?_
  rintro e w7 ⟨rfl, hx7⟩
  go_wp2_with fail
  refine (dot_n Ar As r.length r.length r s _ _ _ rfl HS.out (hrr6.ext hx7) (hrs6.ext hx7) rfl (by omega)).mono ?_
  rintro e w8 ⟨rfl, hx8⟩
  have hx8' := hx7.trans hx8
  clear hx7 hx8
  go_wp2_with fail
  refine (dot_n Aq As r.length r.length q2 s _ _ _ hql.out HS.out (hq6.ext hx8') (hrs6.ext hx8') rfl (by omega)).mono ?_
  rintro e w9 ⟨rfl, hx9⟩
  have hx9' := hx8'.trans hx9
  clear hx9 hx8'
  go_wp2_with (go_at_call 30; with_reducible refine (awake_any _).mono ?_; rintro e w' ⟨rfl, rfl⟩)
  refine (scale_n At r.length (addL r q2) _ c _ Ht.out (hrt6.ext hx9') (by omega)).mono ?_
  rintro e w10 ⟨v, rfl, ho10, hx10⟩
  obtain ⟨Ay, cy, rfl, -, hry, -, -⟩ := ho10.bytes
  rw [HF.out] at hry
  rw [List.length_map, Ht.out]
  go_wp2_with fail
  refine (same_n Ay Ax r.length r.length (addL (r.map (· * c)) (q2.map (· * c))) _ _ _ (by rw [addL_length _ _ (by rw [List.length_map, List.length_map, hql.out]), List.length_map]) (by rw [addL_length _ _ (by rw [List.length_map, List.length_map, hql.out]), List.length_map]) hry (hrx'.ext (hx9'.trans hx10)) (by omega)).mono ?_
  rintro e w11 ⟨rfl, hx11⟩
  go_wp2_with (go_at_call 29; with_reducible refine (plus_any _ _ _).mono ?_; rintro e w' ⟨rfl, rfl⟩)
  go_ret
  exact ⟨rfl, hxa.trans (hx9'.trans (hx10.trans hx11))⟩

set_option maxRecDepth 100000 in
theorem lifted (os : Os) (started : os.Started) (H : Type) (enc : TypeId × Value → H) :
    ReturnsInHanded {} Try.checked os 12 .any (Rows.fieldLinearSpec.pre6 enc Try.prog Try.f12 Rows.fieldLinearRow.domain false) (Rows.fieldLinearSpec.post enc Try.prog Try.f12 false true false false) := by
  refine returnsInHanded_of_change_sized (C := Try.checked) own started (by kernel_rfl) Try.func12
    (ChangeSpec.witness6 (enc := enc) (C := Try.checked) false ⟨#[], #[.slice none 0 0, .slice none 0 0, .slice none 0 0, .int .u8 0], []⟩ 8 (by kernel_rfl) (by kernel_rfl) (by kernel_rfl) (by kernel_rfl)) ?_
  intro W base args ds gs before hval0 hW hcnd hsz0 _
  have hval : ∀ (j : Nat) t v, Try.f12.params[j]? = some t → args[j]? = some v → Value.okWide Try.prog W .any base t v := hval0
  have hsz : (DataW.weightsEach Try.prog (Try.f12.params.toList ++ Rows.fieldLinearSpec.plain.varTypes Try.prog) (ds ++ gs)).all (· ≤ reachBytes) = true := hsz0
  have hW' := hW
  obtain ⟨p, q, hA0, hV, rfl, hfz, hnd⟩ := hW
  have hA : DataW.TrodAll enc Try.prog W 0 (fun _ => true) true Try.f12.params.toList args.toList ds p := hA0
  rw [Try.params12] at hA hval hsz
  obtain ⟨v0, vs0, d0, ds0, p0, q0, hargs, rfl, rfl, h0, r0⟩ := trodAll_cons hA
  obtain ⟨v1, vs1, d1, ds1, p1, q1, rfl, rfl, rfl, h1, r1⟩ := trodAll_cons r0
  obtain ⟨v2, vs2, d2, ds2, p2, q2, rfl, rfl, rfl, h2, r2⟩ := trodAll_cons r1
  obtain ⟨v3, vs3, d3, ds3, p3, q3, rfl, rfl, rfl, h3, r3⟩ := trodAll_cons r2
  obtain ⟨rfl, rfl, rfl⟩ := trodAll_nil r3
  obtain rfl : args = #[v0, v1, v2, v3] := by cases args; simp_all
  obtain ⟨rfl, rfl⟩ := trodVars_none hV
  have k0 := h0
  have lt0 : ∀ x ∈ p0, x.block < W.heap.size := by obtain ⟨m, hm⟩ := k0; exact DataW.trod_lt m _ _ _ hm
  obtain ⟨A0, c0, x0, rfl, hr0, hl0, hc0⟩ : ∃ (A : Option Addr) (cap : Nat) (xs : List E), v0 = .slice A xs.length cap ∧ Rd W A (bs xs) ∧ xs.length ≤ cap ∧ cap ≤ 140737488351232 := by
    obtain ⟨a, n, c, hv⟩ := okWide_slice Try.underlying29 (hval 0 29 v0 rfl rfl)
    obtain ⟨fuel, hf⟩ := h0
    exact open_bytes Try.underlying29 Try.underlying5 (by kernel_rfl) (by kernel_rfl) ⟨a, n, c, hv⟩ hf (weights_at hsz 0 rfl rfl)
  have k1 := h1
  have lt1 : ∀ x ∈ p1, x.block < W.heap.size := by obtain ⟨m, hm⟩ := k1; exact DataW.trod_lt m _ _ _ hm
  obtain ⟨A1, c1, x1, rfl, hr1, hl1, hc1⟩ : ∃ (A : Option Addr) (cap : Nat) (xs : List E), v1 = .slice A xs.length cap ∧ Rd W A (bs xs) ∧ xs.length ≤ cap ∧ cap ≤ 140737488351232 := by
    obtain ⟨a, n, c, hv⟩ := okWide_slice Try.underlying29 (hval 1 29 v1 rfl rfl)
    obtain ⟨fuel, hf⟩ := h1
    exact open_bytes Try.underlying29 Try.underlying5 (by kernel_rfl) (by kernel_rfl) ⟨a, n, c, hv⟩ hf (weights_at hsz 1 rfl rfl)
  have k2 := h2
  have lt2 : ∀ x ∈ p2, x.block < W.heap.size := by obtain ⟨m, hm⟩ := k2; exact DataW.trod_lt m _ _ _ hm
  obtain ⟨A2, c2, x2, rfl, hr2, hl2, hc2⟩ : ∃ (A : Option Addr) (cap : Nat) (xs : List E), v2 = .slice A xs.length cap ∧ Rd W A (bs xs) ∧ xs.length ≤ cap ∧ cap ≤ 140737488351232 := by
    obtain ⟨a, n, c, hv⟩ := okWide_slice Try.underlying29 (hval 2 29 v2 rfl rfl)
    obtain ⟨fuel, hf⟩ := h2
    exact open_bytes Try.underlying29 Try.underlying5 (by kernel_rfl) (by kernel_rfl) ⟨a, n, c, hv⟩ hf (weights_at hsz 2 rfl rfl)
  obtain ⟨a3, rfl, rfl, rfl, w3⟩ := open_int Try.underlying5 (hval 3 5 v3 rfl rfl) h3
  clear hA0 hval0
  refine (walk W A0 c0 x0 hr0 hl0 hc0 A1 c1 x1 hr1 hl1 hc1 A2 c2 x2 hr2 hl2 hc2 a3 w3).mono fun e W' ⟨he, bel⟩ => ?_
  subst he
  exact ⟨_, rfl, _, _, _, [], _, [], hW', trodAll_mk1 (shut_bool Try.underlying4 _), (trodAll_cons_mk (Below.trod laidOut (by kernel_rfl) (of_decide_eq_true (by kernel_rfl)) k0 bel lt0) (trodAll_cons_mk (Below.trod laidOut (by kernel_rfl) (of_decide_eq_true (by kernel_rfl)) k1 bel lt1) (trodAll_cons_mk (Below.trod laidOut (by kernel_rfl) (of_decide_eq_true (by kernel_rfl)) k2 bel lt2) (trodAll_cons_mk (shut_int Try.underlying5 w3) trodAll_mk0)))), rfl, bel.frame _, fun h => by cases h⟩

theorem over : Rows.fieldLinearRow.holds Try.pinned (OpenSpec.ofChange Rows.fieldLinearSpec) :=
  OpenClaim.holds_of_wide 12 Try.f12 rfl rfl rfl rfl rfl rfl rfl ⟨rfl, rfl, rfl, rfl, rfl⟩ rfl rfl rfl rfl rfl (by kernel_rfl) Try.func12 (by kernel_rfl)
    (of_decide_eq_true (by kernel_rfl)) (by unfold Func.isWrapper; first | (rw [if_pos (by decide +kernel)]; kernel_rfl) | (rw [if_neg (by decide +kernel)]; exact ⟨rfl, rfl⟩))
    (fun os started H enc _ => lifted os started H enc)

theorem proved : Rows.FieldLinearSaid := over
#print axioms proved
end Go.Proofs.Ytdimanoodfepiaa.fieldLinear
