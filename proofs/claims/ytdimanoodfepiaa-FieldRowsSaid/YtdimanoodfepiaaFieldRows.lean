/-
  The law 'FieldRows': for every input it returns true and leaves its arguments as they were. The frame is after the kit's shell; the walk is ours. No condition.
-/
import Derived.Test.YtdimanoodfepiaaRows
import Derived.Test.YtdimanoodfepiaaBytes3
import Derived.Test.YtdimanoodfepiaaOpen
import Derived.WalkKit
import Derived.ProofKit
import Derived.OpenShut
import Derived.ShutString
import Derived.ChangeOld
import Derived.Below
namespace Go.Proofs.Ytdimanoodfepiaa.fieldRows
open Go.ChangeShapes Go.WideShapes Go.ChangeAt Go.RowKit
set_option linter.unusedVariables false
open Gf

theorem own : ownKnob Try.prog.godebug = none := by kernel_rfl
theorem laidOut : laidOutB Try.prog = true := by kernel_rfl

def inc (x : E) : E := E.of (x.val + 1)
theorem inc_val (x : E) : IntKind.u8.wrap ((x.val : Int) + 1) = ((inc x).val : Int) := by
  rw [IntKind.wrap_u8]
  show _ = (((x.val + 1) % 256 : Nat) : Int)
  omega
theorem xor3_val (x : E) : bits .xor .u8 (x.val : Int) 3 = ((x + E.of 3).val : Int) := u8_xor_nat x.val 3 x.lt (by decide)
theorem sumL_le (a b : List E) : (sumL a b).length ≤ a.length := by
  unfold sumL; split
  · simp [addL]; omega
  · simp
/-- What the memory holds at a round's head: both rows lent, in blocks of their own. -/
structure Held (w wr : World) (gl cl gm cm : Nat) (a b : List E) : Prop where
  bel : Below w.heap.size w wr
  l : Own wr w.heap.size 5 (.slice (some ⟨gl, 0, none⟩) (a.length + 64) cl) (bs (a ++ marks 64))
  m : Own wr w.heap.size 5 (.slice (some ⟨gm, 0, none⟩) (b.length + 64) cm) (bs (b ++ marks 64))
theorem Held.ext {w wr wr' : World} {gl cl gm cm : Nat} {a b : List E} (h : Held w wr gl cl gm cm a b) (e : Ext wr wr') : Held w wr' gl cl gm cm a b :=
  ⟨h.bel.trans (e.below.mono h.bel.size), h.l.ext e, h.m.ext e⟩
theorem Held.rl {w wr : World} {gl cl gm cm : Nat} {a b : List E} (h : Held w wr gl cl gm cm a b) : Rd wr (some ⟨gl, 0, none⟩) (bs a) := by
  have := h.l.rd.take (bs a).length
  rwa [bs_append, List.take_left] at this
theorem Held.rm {w wr : World} {gl cl gm cm : Nat} {a b : List E} (h : Held w wr gl cl gm cm a b) : Rd wr (some ⟨gm, 0, none⟩) (bs b) := by
  have := h.m.rd.take (bs b).length
  rwa [bs_append, List.take_left] at this

theorem Held.setl {w wr : World} {gl cl gm cm : Nat} {a b : List E} {f : E → E} {k : Nat} (h : Held w wr gl cl gm cm (turned f a k) b) (hk : k < a.length) (hne : gl ≠ gm) :
    Held w (wr.setCell ⟨gl, k, none⟩ (.int .u8 ((f a[k]).val : Int))) gl cl gm cm (turned f a (k + 1)) b := by
  have hb := h.l.blk.1
  have h1 := h.l.set k (.int .u8 ((f a[k]).val : Int))
  rw [turned_set f a (marks 64) k hk, turned_length] at h1
  refine ⟨h.bel.setCell (p := ⟨gl, k, none⟩) hb _, by rw [turned_length]; exact h1, h.m.far (p := ⟨gl, k, none⟩) (by simpa [Value.ownBlock] using fun e => hne e.symm) _⟩
theorem Held.setm {w wr : World} {gl cl gm cm : Nat} {a b : List E} {f : E → E} {k : Nat} (h : Held w wr gl cl gm cm a (turned f b k)) (hk : k < b.length) (hne : gl ≠ gm) :
    Held w (wr.setCell ⟨gm, k, none⟩ (.int .u8 ((f b[k]).val : Int))) gl cl gm cm a (turned f b (k + 1)) := by
  have hb := h.m.blk.1
  have h1 := h.m.set k (.int .u8 ((f b[k]).val : Int))
  rw [turned_set f b (marks 64) k hk, turned_length] at h1
  refine ⟨h.bel.setCell (p := ⟨gm, k, none⟩) hb _, h.l.far (p := ⟨gm, k, none⟩) (by simpa [Value.ownBlock] using hne) _, by rw [turned_length]; exact h1⟩
theorem Held.getl {w wr : World} {gl cl gm cm : Nat} {a b : List E} {f : E → E} {k : Nat} (h : Held w wr gl cl gm cm (turned f a k) b) (hk : k < a.length) :
    wr.cell? ⟨gl, k, none⟩ = some (.int .u8 ((a[k]).val : Int)) := h.l.cell (turned_get f a (marks 64) k hk)
theorem Held.getm {w wr : World} {gl cl gm cm : Nat} {a b : List E} {f : E → E} {k : Nat} (h : Held w wr gl cl gm cm a (turned f b k)) (hk : k < b.length) :
    wr.cell? ⟨gm, k, none⟩ = some (.int .u8 ((b[k]).val : Int)) := h.m.cell (turned_get f b (marks 64) k hk)

set_option maxRecDepth 20000 in
set_option maxHeartbeats 4000000 in
theorem walk (w : World) (A0 : Option Addr) (c0 : Nat) (x0 : List E) (hr0 : Rd w A0 (bs x0)) (hl0 : x0.length ≤ c0) (hc0 : c0 ≤ 140737488351232) (A1 : Option Addr) (c1 : Nat) (x1 : List E) (hr1 : Rd w A1 (bs x1)) (hl1 : x1.length ≤ c1) (hc1 : c1 ≤ 140737488351232) (a2 : Int) (w2 : (Lit.int .u8 a2).wf = true) :
    Calls Try.prog 6 #[.slice A0 x0.length c0, .slice A1 x1.length c1, .int .u8 a2] w fun e w' => e = .returned (.bool true) ∧ Below w.heap.size w w' := by
  obtain ⟨c, rfl⟩ := toE w2
  have hcl := c.lt
  go_enter Try.func6, Try.ntmps6
  go_wp2_with fail
  refine (lent_any A0 x0 c0 _ hr0 (by omega)).mono ?_
  rintro e w1 ⟨vl, rfl, hol, hx1⟩
  go_wp2_with fail
  refine (lent_any A1 x1 c1 _ (hr1.ext hx1) (by omega)).mono ?_
  rintro e w2' ⟨vm, rfl, hom, hx2⟩
  have hne : ∀ l : List E, bs (l ++ marks 64) ≠ [] := fun l h => by
    have := congrArg List.length h
    simp [bs, marks_length] at this
  have hln : ∀ l : List E, (bs (l ++ marks 64)).length = l.length + 64 := fun l => by simp [bs, marks_length]
  obtain ⟨gl, cl, rfl, hgl, hgl2, hncl, hmcl⟩ := hol.some_ (hne _)
  obtain ⟨gm, cm, rfl, hgm, hgm2, hncm, hmcm⟩ := hom.some_ (hne _)
  rw [hln] at hol hncl hom hncm
  rw [hln, hln]
  have hgg : gl ≠ gm := by omega
  have HH : Held w w2' gl cl gm cm x0 x1 := ⟨hx1.below.trans (hx2.below.mono hx1.le), hol.ext hx2, hom.mono hx1.le⟩
  simp only [maxLen] at hmcl hmcm
  have hcl1 : x0.length ≤ cl := by omega
  have hcm1 : x1.length ≤ cm := by omega
  clear hol hom hx1 hx2 hne hln hr0 hr1 hgl hgl2 hgm hgm2
  go_wp2_with fail
  go_loopw [9] (fun i wr => ∃ (t : Nat) (a b : List E), t ≤ 2 ∧ i = .int .i64 t ∧ Hid (a.length = x0.length) ∧ Hid (b.length = x1.length) ∧ Held w wr gl cl gm cm a b)
    (fun i _ => 2 - (intOf i).toNat)
  case atStart => exact ⟨0, x0, x1, by omega, rfl, rfl, rfl, HH⟩
  case round =>
    obtain ⟨t, a, b, ht, rfl, ha, hb, hh⟩ := hrel
    clear HH
    by_cases htl : t < 2
    · have hra := hh.rl
      have hrb := hh.rm
      go_wp2_with (first
        | (at_builtin; refine wpList_app wr eltU8 rfl _ _ (by rfl) w.heap.size (.slice none 0 0) [] (by rfl) (Own.nil _ _ _) (some ⟨gl, 0, none⟩) x0.length cl (bs a) (by rfl) hra ((bs_length _).trans ha.out) (bs_ones _) (by simp; omega) hh.bel.size ?_; intro v3 w3 ho3 hmv; have hx3 : Ext wr w3 := hmv.below (Nat.le_refl _) (fun g hg => by simp [Value.ownBlock] at hg); clear hmv)
        | (at_builtin; refine wpList_app w3 eltU8 rfl _ _ (by rfl) w.heap.size (.slice none 0 0) [] (by rfl) (Own.nil _ _ _) (some ⟨gm, 0, none⟩) x1.length cm (bs b) (by rfl) (hrb.ext hx3) ((bs_length _).trans hb.out) (bs_ones _) (by simp; omega) (Nat.le_trans hh.bel.size hx3.le) ?_; intro v4 w4 ho4 hmv; have hx4 : Ext w3 w4 := hmv.below (Nat.le_refl _) (fun g hg => by simp [Value.ownBlock] at hg); clear hmv)
        | fail)
      rw [List.nil_append] at ho3 ho4
      obtain ⟨Ap, cp, rfl, -, hrp, -, -⟩ := ho3.bytes
      obtain ⟨Aq, cq, rfl, -, hrq, -, -⟩ := ho4.bytes
      rw [ha.out, hb.out]
      have hs1 := Lib.hid (sumL_le a b)
      have hdl := (dotL a b).lt
      have hrp4 := hrp.ext hx4
      have hh4 := hh.ext (hx3.trans hx4)
      clear ho3 ho4 hra hrb hh hrp
      refine (refScale_n Ap x0.length a _ c _ ha.out hrp4 (by omega)).mono ?_
      rintro e w5 ⟨v, rfl, ho5, hx5⟩
      obtain ⟨As, cs, rfl, -, hrs, -, -⟩ := ho5.bytes
      rw [List.length_map, ha.out]
      go_wp2_with fail
      refine (refSum_all Ap Aq x0.length x1.length a b _ _ _ ha.out hb.out (hrp4.ext hx5) (hrq.ext hx5) (by omega)).mono ?_
      rintro e w6 ⟨v, rfl, ho6, hx6⟩
      obtain ⟨At, ct, rfl, -, hrt, -, -⟩ := ho6.bytes
      have hx56 := hx5.trans hx6
      go_wp2_with fail
      refine (refDot_all Ap Aq x0.length x1.length a b _ _ _ ha.out hb.out (hrp4.ext hx56) (hrq.ext hx56) (by omega)).mono ?_
      rintro e w7 ⟨rfl, hx7⟩
      have hx57 := hx56.trans hx7
      have hh7 := hh4.ext hx57
      go_wp2_with fail
      refine (scale_n _ x0.length a _ c _ ha.out hh7.rl (by omega)).mono ?_
      rintro e w8 ⟨v, rfl, ho8, hx8⟩
      obtain ⟨Ax, cx, rfl, -, hrx, -, -⟩ := ho8.bytes
      rw [List.length_map, ha.out]
      have hh8 := hh7.ext hx8
      have hs8 := hrs.ext (hx6.trans (hx7.trans hx8))
      have ht8 := hrt.ext (hx7.trans hx8)
      have hp8 := hrp4.ext (hx57.trans hx8)
      have hq8 := hrq.ext (hx57.trans hx8)
      clear hh4 hh7 hrs hrt hrp4 hrq hx3 hx4 hx5 hx6 hx7 hx8 hx56 hx57 ho5 ho6 ho8
      go_wp2_with fail
      have K1 := Lib.hid (fun w9 (e : Ext w8 w9) => sum_all (some ⟨gl, 0, none⟩) (some ⟨gm, 0, none⟩) x0.length x1.length a b cl cm w9 ha.out hb.out (hh8.ext e).rl (hh8.ext e).rm (by omega))
      go_region_with (go_at_call 22; refine (K1.out w8.drew (Ext.refl _).drew).mono ?_; rintro e w9 ⟨v, rfl, ho9, hx9⟩)
      obtain ⟨Ay, cy, rfl, -, hry, -, -⟩ := ho9.bytes
      have hx9' : Ext w8 w9 := (Ext.refl _).drew.trans hx9
      have hh9 := hh8.ext hx9'
      clear K1 hh8
      have K2 := Lib.hid (fun w10 (e : Ext w9 w10) => dot_all (some ⟨gl, 0, none⟩) (some ⟨gm, 0, none⟩) x0.length x1.length a b cl cm w10 ha.out hb.out (hh9.ext e).rl (hh9.ext e).rm (by omega))
      go_wp2_with fail
      go_region_with (go_at_call 27; refine (K2.out w9.drew (Ext.refl _).drew).mono ?_; rintro e w10 ⟨rfl, hx10⟩)
      have hx10' : Ext w9 w10 := (Ext.refl _).drew.trans hx10
      have hh10 := hh9.ext hx10'
      have hx810 := hx9'.trans hx10'
      have hs10 := hs8.ext hx810
      have ht10 := ht8.ext hx810
      have hp10 := hp8.ext hx810
      have hq10 := hq8.ext hx810
      have hrx10 := hrx.ext hx810
      have hry10 := hry.ext hx10'
      clear K2 hh9 hs8 ht8 hp8 hq8 hrx hry ho9 hx9 hx10 hx9' hx10' hx810
      go_wp2_with fail
      refine (same_n Ax As x0.length x0.length (a.map (· * c)) _ _ _ ((List.length_map _).trans ha.out) ((List.length_map _).trans ha.out) hrx10 hs10 (by omega)).mono ?_
      rintro e w11 ⟨rfl, hx11⟩
      go_wp2_with fail
      refine (same_n Ay At (sumL a b).length (sumL a b).length (sumL a b) _ _ _ rfl rfl (hry10.ext hx11) (ht10.ext hx11) (by have := hs1.out; have := ha.out; omega)).mono ?_
      rintro e w12 ⟨rfl, hx12⟩
      have hx1012 := hx11.trans hx12
      have hh12 := hh10.ext hx1012
      have hll : Rd w12 (some ⟨gl, 0, none⟩) (bs (a ++ marks 64)) := hh12.l.rd
      have hmm : Rd w12 (some ⟨gm, 0, none⟩) (bs (b ++ marks 64)) := hh12.m.rd
      have hp12 := hp10.ext hx1012
      have hq12 := hq10.ext hx1012
      clear hx11 hx12 hx1012 hs10 ht10 hp10 hq10 hrx10 hry10 hh10
      go_wp2_with fail
      refine (returned_n _ Ap _ x0.length a _ _ _ (by rw [ha.out]) ha.out hll hp12 (by omega)).mono ?_
      rintro e w13 ⟨rfl, hx13⟩
      go_wp2_with fail
      refine (returned_n _ Aq _ x1.length b _ _ _ (by rw [hb.out]) hb.out (hmm.ext hx13) (hq12.ext hx13) (by omega)).mono ?_
      rintro e w14 ⟨rfl, hx14⟩
      have hh14 := hh12.ext (hx13.trans hx14)
      clear hll hmm hp12 hq12 hx13 hx14 hh12
      go_wp2_with fail
      go_loopw [22] (fun i wr => ∃ k : Nat, k ≤ x0.length ∧ i = .int .i64 k ∧ Held w wr gl cl gm cm (turned inc a k) b) (fun i _ => x0.length - (intOf i).toNat)
      case atStart => exact ⟨0, by omega, rfl, by rw [turned_zero]; exact hh14⟩
      case round =>
        obtain ⟨k, hk, rfl, hk1⟩ := hrel
        clear hh14
        by_cases hlt : k < x0.length
        · have hlt' : k < a.length := by rw [ha.out]; exact hlt
          have g1 := hk1.getl hlt'
          have g2 := hk1.l.frozen k
          have g3 := inc_val a[k]
          have hk2 := hk1.setl hlt' hgg
          have hi1 : (k : Int) < (x0.length : Int) + 64 := by omega
          go_wp2
          go_roundw
          case rel => exact ⟨k + 1, by omega, by go_num, hk2⟩
          case measure => simp [intOf]; omega
        · obtain rfl : k = x0.length := by omega
          have hk1' : Held w wr gl cl gm cm (a.map inc) b := by rw [← turned_all, ha.out]; exact hk1
          clear hk1 hlt hk
          go_wp2_with fail
          go_loopw [23] (fun i wr => ∃ k : Nat, k ≤ x1.length ∧ i = .int .i64 k ∧ Held w wr gl cl gm cm (a.map inc) (turned (· + E.of 3) b k)) (fun i _ => x1.length - (intOf i).toNat)
          case atStart => exact ⟨0, by omega, rfl, by rw [turned_zero]; exact hk1'⟩
          case round =>
            obtain ⟨k, hk, rfl, hk1⟩ := hrel
            clear hk1'
            by_cases hlt : k < x1.length
            · have hlt' : k < b.length := by rw [hb.out]; exact hlt
              have g1 := hk1.getm hlt'
              have g2 := hk1.m.frozen k
              have g3 := xor3_val b[k]
              have hk2 := hk1.setm hlt' hgg
              have hi1 : (k : Int) < (x1.length : Int) + 64 := by omega
              go_wp2
              go_roundw
              case rel => exact ⟨k + 1, by omega, by go_num, hk2⟩
              case measure => simp [intOf]; omega
            · obtain rfl : k = x1.length := by omega
              have hk1' : Held w wr gl cl gm cm (a.map inc) (b.map (· + E.of 3)) := by rw [← turned_all _ b, hb.out]; exact hk1
              clear hk1 hlt hk
              go_wp2
              go_roundw
              case rel => exact ⟨t + 1, _, _, by omega, by go_num, by simpa [Hid] using ha, by simpa [Hid] using hb, hk1'⟩
              case measure => simp [intOf]; omega
    · obtain rfl : t = 2 := by omega
      go_wp2
      go_ret
      exact ⟨rfl, hh.bel⟩

set_option maxRecDepth 100000 in
theorem lifted (os : Os) (started : os.Started) (H : Type) (enc : TypeId × Value → H) :
    ReturnsInHanded {} Try.checked os 6 .any (Rows.fieldRowsSpec.pre6 enc Try.prog Try.f6 Rows.fieldRowsRow.domain false) (Rows.fieldRowsSpec.post enc Try.prog Try.f6 false true false false) := by
  refine returnsInHanded_of_change_sized (C := Try.checked) own started (by kernel_rfl) Try.func6
    (ChangeSpec.witness6 (enc := enc) (C := Try.checked) false ⟨#[], #[.slice none 0 0, .slice none 0 0, .int .u8 0], []⟩ 8 (by kernel_rfl) (by kernel_rfl) (by kernel_rfl) (by kernel_rfl)) ?_
  intro W base args ds gs before hval0 hW hcnd hsz0 _
  have hval : ∀ (j : Nat) t v, Try.f6.params[j]? = some t → args[j]? = some v → Value.okWide Try.prog W .any base t v := hval0
  have hsz : (DataW.weightsEach Try.prog (Try.f6.params.toList ++ Rows.fieldRowsSpec.plain.varTypes Try.prog) (ds ++ gs)).all (· ≤ reachBytes) = true := hsz0
  have hW' := hW
  obtain ⟨p, q, hA0, hV, rfl, hfz, hnd⟩ := hW
  have hA : DataW.TrodAll enc Try.prog W 0 (fun _ => true) true Try.f6.params.toList args.toList ds p := hA0
  rw [Try.params6] at hA hval hsz
  obtain ⟨v0, vs0, d0, ds0, p0, q0, hargs, rfl, rfl, h0, r0⟩ := trodAll_cons hA
  obtain ⟨v1, vs1, d1, ds1, p1, q1, rfl, rfl, rfl, h1, r1⟩ := trodAll_cons r0
  obtain ⟨v2, vs2, d2, ds2, p2, q2, rfl, rfl, rfl, h2, r2⟩ := trodAll_cons r1
  obtain ⟨rfl, rfl, rfl⟩ := trodAll_nil r2
  obtain rfl : args = #[v0, v1, v2] := by cases args; simp_all
  obtain ⟨rfl, rfl⟩ := trodVars_none hV
  have k0 := h0
  have lt0 : ∀ x ∈ p0, x.block < W.heap.size := by obtain ⟨m, hm⟩ := k0; exact DataW.trod_lt m _ _ _ hm
  obtain ⟨A0, c0, x0, rfl, hr0, hl0, hc0⟩ : ∃ (A : Option Addr) (cap : Nat) (xs : List E), v0 = .slice A xs.length cap ∧ Rd W A (bs xs) ∧ xs.length ≤ cap ∧ cap ≤ 140737488351232 := by
    obtain ⟨a, n, c, hv⟩ := okWide_slice Try.underlying29 (hval 0 29 v0 rfl rfl)
    obtain ⟨fuel, hf⟩ := h0
    exact open_bytes Try.underlying29 Try.underlying5 (by kernel_rfl) (by kernel_rfl) ⟨a, n, c, hv⟩ hf (weights_at hsz 0 rfl rfl)
  have k1 := h1
  have lt1 : ∀ x ∈ p1, x.block < W.heap.size := by obtain ⟨m, hm⟩ := k1; exact DataW.trod_lt m _ _ _ hm
  obtain ⟨A1, c1, x1, rfl, hr1, hl1, hc1⟩ : ∃ (A : Option Addr) (cap : Nat) (xs : List E), v1 = .slice A xs.length cap ∧ Rd W A (bs xs) ∧ xs.length ≤ cap ∧ cap ≤ 140737488351232 := by
    obtain ⟨a, n, c, hv⟩ := okWide_slice Try.underlying29 (hval 1 29 v1 rfl rfl)
    obtain ⟨fuel, hf⟩ := h1
    exact open_bytes Try.underlying29 Try.underlying5 (by kernel_rfl) (by kernel_rfl) ⟨a, n, c, hv⟩ hf (weights_at hsz 1 rfl rfl)
  obtain ⟨a2, rfl, rfl, rfl, w2⟩ := open_int Try.underlying5 (hval 2 5 v2 rfl rfl) h2
  clear hA0 hval0
  refine (walk W A0 c0 x0 hr0 hl0 hc0 A1 c1 x1 hr1 hl1 hc1 a2 w2).mono fun e W' ⟨he, bel⟩ => ?_
  subst he
  exact ⟨_, rfl, _, _, _, [], _, [], hW', trodAll_mk1 (shut_bool Try.underlying4 _), (trodAll_cons_mk (Below.trod laidOut (by kernel_rfl) (of_decide_eq_true (by kernel_rfl)) k0 bel lt0) (trodAll_cons_mk (Below.trod laidOut (by kernel_rfl) (of_decide_eq_true (by kernel_rfl)) k1 bel lt1) (trodAll_cons_mk (shut_int Try.underlying5 w2) trodAll_mk0))), rfl, bel.frame _, fun h => by cases h⟩

theorem over : Rows.fieldRowsRow.holds Try.pinned (OpenSpec.ofChange Rows.fieldRowsSpec) :=
  OpenClaim.holds_of_wide 6 Try.f6 rfl rfl rfl rfl rfl rfl rfl ⟨rfl, rfl, rfl, rfl, rfl⟩ rfl rfl rfl rfl rfl (by kernel_rfl) Try.func6 (by kernel_rfl)
    (of_decide_eq_true (by kernel_rfl)) (by unfold Func.isWrapper; first | (rw [if_pos (by decide +kernel)]; kernel_rfl) | (rw [if_neg (by decide +kernel)]; exact ⟨rfl, rfl⟩))
    (fun os started H enc _ => lifted os started H enc)

theorem proved : Rows.FieldRowsSaid := over
#print axioms proved
end Go.Proofs.Ytdimanoodfepiaa.fieldRows
