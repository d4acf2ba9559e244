/-
  The law 'PolyThroughBack': for every input whose bulk is at most 1048576 it returns true and leaves its arguments as they were. The frame is after the kit's shell; the walk is ours. No further condition.
-/
import Derived.Test.YtemnlcfabaocbaaRows
import Derived.Test.YtemnlcfabaocbaaOpenU
import Derived.Test.YtemnlcfabaocbaaRootsMore
import Derived.Test.YtemnlcfabaocbaaApp2
import Derived.Test.YtemnlcfabaocbaaOpen
import Derived.WalkKit
import Derived.ProofKit
import Derived.OpenShut
import Derived.ShutString
import Derived.ChangeOld
import Derived.Below
namespace Go.Proofs.Ytemnlcfabaocbaa.polyThroughBack
open Go.ChangeShapes Go.WideShapes Go.ChangeAt Go.RowKit
set_option linter.unusedVariables false
open Gf

theorem own : ownKnob Try.prog.godebug = none := by kernel_rfl
theorem laidOut : laidOutB Try.prog = true := by kernel_rfl

theorem th_back {X p t : List E} {k : Int} (hn : X.Nodup) (hp : Trimmed p) (hl : p.length ≤ X.length) (h : ThAny X (X.map (evL p)) t k) : t = p ∧ k = 0 :=
  ThAny.uniq h (.inr (.inr ⟨by simp, hn, ⟨hp, hl, fun i hi hi' => by simp⟩, rfl⟩))
theorem th_any {X Y t : List E} {k : Int} (hn : X.Nodup) (hl : X.length = Y.length) (h : ThAny X Y t k) : k = 0 ∧ t.length ≤ X.length ∧ X.map (evL t) = Y := by
  rcases h with ⟨h0, _⟩ | ⟨_, h1, _⟩ | ⟨_, _, h2, rfl⟩
  · exact absurd hl h0
  · exact absurd hn h1
  · refine ⟨rfl, h2.len, List.ext_getElem (by simp [hl]) fun i hi hi' => ?_⟩
    rw [List.getElem_map]
    exact h2.at_ i (by simpa using hi) hi'
theorem th_odd {X Y t : List E} {k : Int} (hl : X.length ≠ Y.length) (h : ThAny X Y t k) : k = 2 := by
  rcases h with ⟨_, _, h⟩ | ⟨h0, _⟩ | ⟨h0, _⟩
  · exact h
  · exact absurd h0 hl
  · exact absurd h0 hl
theorem th_twice {X Y t : List E} {k : Int} (hl : X.length = Y.length) (hn : ¬ X.Nodup) (h : ThAny X Y t k) : k = 20 := by
  rcases h with ⟨h0, _⟩ | ⟨_, _, _, h⟩ | ⟨_, h1, _⟩
  · exact absurd hl h0
  · exact h
  · exact absurd h1 hn
theorem wpList_appAt {P : Program} {w : World} {t e : TypeId} {z : Value} {bytes : Nat} (E : Elt P t e z bytes) {ops : Array Oper} {rest : List Oper} {o : Oper} {a : Act} {Q : Exit → Act → World → Prop} (hgd : o.guard = none) (s x : Operand)
    (ho : o.op = .call { callee := .builtin .append, args := #[s, x], argTypes := #[t, t] })
    (B : Nat) (v : Value) (xs : List Value) (hs : a.eval s = v) (hown : Own w B e v xs)
    (A : Option Addr) (m c : Nat) (news : List Value) (hx : a.eval x = .slice A m c) (hr : Rd w A news) (hm : news.length = m) (h1 : ∀ u ∈ news, u.oneCell' = true)
    (hbytes : (xs.length + m) * bytes ≤ 140737488355328) (hB : B ≤ w.heap.size)
    (h : ∀ v' w', Own w' B e v' (xs ++ news) → Below B w w' → wpList P ops Q rest (a.put o.dst v') w') : wpList P ops Q (o :: rest) a w :=
  wpList_app w E hgd s x ho B v xs hs hown A m c news hx hr hm h1 hbytes hB fun v' w' h2 h3 => h v' w' h2 (h3.below hB fun g hg => (hown.lt g hg).1)
set_option maxRecDepth 20000 in
set_option maxHeartbeats 8000000 in
theorem walk (w : World) (A0 : Option Addr) (c0 : Nat) (x0 : List E) (hr0 : Rd w A0 (bs x0)) (hl0 : x0.length ≤ c0) (hc0 : c0 ≤ 1048576) (A1 : Option Addr) (c1 : Nat) (x1 : List E) (hr1 : Rd w A1 (bs x1)) (hl1 : x1.length ≤ c1) (hc1 : c1 ≤ 1048576) (A2 : Option Addr) (c2 : Nat) (x2 : List E) (hr2 : Rd w A2 (bs x2)) (hl2 : x2.length ≤ c2) (hc2 : c2 ≤ 1048576) :
    Calls Try.prog 12 #[.slice A0 x0.length c0, .slice A1 x1.length c1, .slice A2 x2.length c2] w fun e w' => e = .returned (.bool true) ∧ Below w.heap.size w w' := by
  obtain ⟨M, hM⟩ : ∃ M, (unl x1).length = M := ⟨_, rfl⟩
  have hM1 : M ≤ 1048576 := by rw [← hM]; exact Nat.le_trans (unl_le x1) (by omega)
  have HN := Lib.hid (unl_nodup x1)
  have HT0 := Lib.hid (trimmed_trim x0)
  obtain ⟨V, hV⟩ : ∃ V, x2.length = V := ⟨_, rfl⟩
  have hV1 : V ≤ 1048576 := by omega
  have HV := Lib.hid hV
  clear hV
  have hP1 : (trim x0).length ≤ 1048576 := by have := trim_le x0; omega
  go_enter Try.func12, Try.ntmps12
  go_wp2_with fail
  refine (awake_any _).mono ?_
  rintro e w1 ⟨rfl, y1⟩
  go_wp2_with fail
  refine (unlike_n A1 _ x1 c1 _ rfl (hr1.ext y1) (by omega)).mono ?_
  rintro e w2 ⟨v, rfl, ho, hx⟩
  obtain ⟨Ax, cx, rfl, hrx, hcx, hmx⟩ := ho.bytesN hM
  have hox := ho.lt
  have y2 := y1.trans hx
  clear ho hx
  go_wp2_with fail
  refine (elems_n A0 _ x0 c0 _ rfl (hr0.ext y2) (by omega)).mono ?_
  rintro e w3 ⟨v, rfl, ho, hx⟩
  obtain ⟨Ae, ce, rfl, hre, hce, hme⟩ := ho.bytesN rfl
  have y3 := y2.trans hx
  replace hrx := hrx.ext hx
  clear ho hx
  go_wp2_with fail
  refine (trim_n Ae _ x0 ce _ rfl hre (by omega) hce).mono ?_
  rintro e w4 ⟨v, rfl, ho, hx⟩
  obtain ⟨P0, hP0⟩ : ∃ P0, (trim x0).length = P0 := ⟨_, rfl⟩
  obtain ⟨Ap, cp, rfl, hrp, hcp, hmp⟩ := ho.bytesN hP0
  have y4 := y3.trans hx
  replace hrx := hrx.ext hx
  clear ho hx hre hox
  generalize unl x1 = X at hM HN hrx
  generalize trim x0 = p at hP0 HT0 hrp hP1
  have HM := Lib.hid hM
  have HR2 := Lib.hid hr2
  clear hM hr0 hr1 hr2 y1 y2 y3 hce hme
  by_cases hg : M < P0
  · have hl : (p.take M).length = M := by rw [List.length_take]; omega
    have hrc : Rd w4 Ap (bs (p.take M)) := by rw [bs_take]; exact hrp.take _
    have HT1 := Lib.hid (trimmed_trim (p.take M))
    have hQ1 := trim_le (p.take M)
    have hMc : M ≤ cp := by omega
    go_wp2_with fail
    refine (trim_n Ap M (p.take M) cp _ hl hrc (by omega) hMc).mono ?_
    rintro e w5 ⟨v, rfl, ho, hx⟩
    obtain ⟨Q, hQ⟩ : ∃ Q, (trim (p.take M)).length = Q := ⟨_, rfl⟩
    obtain ⟨Aq, cq, rfl, hrq, hcq, hmq⟩ := ho.bytesN hQ
    rw [hQ, hl] at hQ1
    generalize trim (p.take M) = q at hQ HT1 hrq
    have y5 := y4.trans hx
    replace hrx := hrx.ext hx
    have HQ := Lib.hid hQ
    clear ho hx hrp hrc hl hQ hg
    go_wp2_with fail
    refine (values_n Aq Ax _ _ q X cq cx _ HQ.out HM.out hrq hrx (by omega) (by omega)).mono ?_
    rintro e w6 ⟨v, rfl, ho, hx⟩
    obtain ⟨Av, cv, rfl, hrv, -, -⟩ := ho.bytesN (n := M) (by rw [List.length_map]; exact HM.out)
    have y6 := y5.trans hx
    replace hrx := hrx.ext hx
    have hrq6 := hrq.ext hx
    clear ho hx
    go_wp2_with fail
    refine (polyThrough_all Ax Av _ _ cx cv X (X.map (evL q)) _ HM.out (by rw [List.length_map]; exact HM.out) hrx hrv (by omega)).mono ?_
    rintro e w7 ⟨v, t, k, rfl, ht, ho, hx⟩
    obtain ⟨rfl, rfl⟩ := th_back HN.out HT1.out (by rw [HQ.out, HM.out]; exact hQ1) ht
    obtain ⟨At, ct, rfl, hrt, -, -⟩ := ho.bytesN HQ.out
    have y7 := y6.trans hx
    replace hrx := hrx.ext hx
    have hrq7 := hrq6.ext hx
    clear ho hx ht hrv hrq6
    go_wp2_with (go_at_call 46; with_reducible refine (num2_any _ rfl _).mono ?_; rintro e w' ⟨rfl, rfl⟩)
    refine (equal_n At Aq _ _ t ct cq _ HQ.out HQ.out hrt hrq7 (by omega)).mono ?_
    rintro e w8 ⟨rfl, hx⟩
    have y8 := y7.trans hx
    replace hrx := hrx.ext hx
    have HX8 := Lib.hid hrx
    clear hx hrt hrq7
    go_wp2_with fail
    refine (elems_n A2 _ x2 c2 _ rfl (HR2.out.ext y8) (by omega)).mono ?_
    rintro e w9 ⟨v, rfl, ho, hx⟩
    obtain ⟨Ay, cy, rfl, hry, hcy, hmy⟩ := ho.bytesN HV.out
    have y9 := y8.trans hx
    have y98 := hx
    replace hrx := hrx.ext hx
    clear hx hry
    simp only [maxLen] at hmy
    by_cases hh : M < V
    · have hoY := ho.take M (by omega)
      rw [← bs_take] at hoY
      have hNl : (x2.take M).length = M := by rw [List.length_take, HV.out]; omega
      have hNM : M ≤ M := Nat.le_refl _
      have hN : True := trivial
      have hMcy : M ≤ cy := by omega
      have hMcx : M ≤ cx := hcx
      generalize x2.take M = Y at hoY hNl
      have hXl : (X.take M).length = M := by rw [List.length_take, HM.out]; omega
      have HXN := Lib.hid (show (X.take M).Nodup from HN.out.sublist (List.take_sublist _ _))
      have hrX : Rd w9 Ax (bs (X.take M)) := by rw [bs_take]; exact hrx.take _
      have hrY := hoY.rd
      have hlt9 : ∀ g, (Value.slice Ay M cy).ownBlock = some g → w8.heap.size ≤ g ∧ g < w9.heap.size := hoY.lt
      have HYL := Lib.hid hNl
      have HXL := Lib.hid hXl
      generalize X.take M = X' at HXL HXN hrX hXl
      have hY8 := Lib.hid hoY
      have H98 := Lib.hid (hoY.lt)
      have hNb : M ≤ 1048576 := by omega
      have HXb := Lib.hid hrX
      clear hN hoY ho hrx hNl hXl
      go_wp2_with fail
      refine (polyThrough_all Ax Ay _ _ cx cy X' Y _ HXL.out HYL.out hrX hrY (by omega)).mono ?_
      rintro e w10 ⟨v, t, k, rfl, ht, ho, hx⟩
      obtain ⟨rfl, htl, htm⟩ := th_any HXN.out (HXL.out.trans HYL.out.symm) ht
      have htl' : t.length ≤ M := by rw [HXL.out] at htl; exact htl
      have htd : decide (M < t.length) = false := decide_eq_false (by omega)
      obtain ⟨At, ct, rfl, hrt, -, -⟩ := ho.bytesN rfl
      have z10 := hx
      replace hrX := hrX.ext hx
      replace hrY := hrY.ext hx
      clear ho hx ht htl
      go_wp2_with (go_at_call 46; with_reducible refine (num2_any _ rfl _).mono ?_; rintro e w' ⟨rfl, rfl⟩)
      refine (values_n At Ax _ _ t X' ct cx _ rfl HXL.out hrt hrX (by omega) (by omega)).mono ?_
      rintro e w11 ⟨v, rfl, ho, hx⟩
      rw [htm] at ho
      obtain ⟨Av, cv, rfl, hrv, -, -⟩ := ho.bytesN HYL.out
      have z11 := z10.trans hx
      replace hrX := hrX.ext hx
      replace hrY := hrY.ext hx
      clear ho hx hrt
      go_wp2_with fail
      refine (equal_n Av Ay _ _ Y cv cy _ HYL.out HYL.out hrv hrY (by omega)).mono ?_
      rintro e w12 ⟨rfl, hx⟩
      have z12 := z11.trans hx
      replace hrX := hrX.ext hx
      clear hx hrv hrY htm htd
      by_cases h0 : M = 0
      · have ht0 : t.length = 0 := by omega
        have h00 : ((M : Int) == 0) = true := by rw [beq_iff_eq]; omega
        rw [ht0]
        go_wp2
        go_ret
        exact ⟨rfl, y9.trans z12⟩
      · have h00 : ((M : Int) == 0) = false := by rw [beq_eq_false_iff_ne]; omega
        have hY12 := Lib.hid (hY8.out.ext z12)
        go_wp2_with fail
        refine (elems_n none 0 [] 0 _ rfl (Rd.nil _ _) (by omega)).mono ?_
        rintro e w13 ⟨v, rfl, ho, hx⟩
        have z13 := z12.trans hx
        replace hrX := hrX.ext hx
        have hY13 := Lib.hid (hY12.out.ext hx)
        have hl12 := hx.le
        have hXpos : 0 < X'.length := by rw [HXL.out]; omega
        obtain ⟨adx, hadx, hcX⟩ := hrX.byte hXpos
        have hax : ∀ ad, Ax = some ad → ad.block < w8.heap.size := fun ad e => by
          obtain ⟨ad', e', hlt⟩ := HX8.out.lt (by rw [bs_length, HM.out]; omega)
          rw [e] at e'
          injection e' with e'
          subst e'
          exact hlt
        obtain ⟨X0, hX0⟩ : ∃ (x : E), X'[0] = x := ⟨_, rfl⟩
        rw [hX0, add_zero'] at hcX
        have hXm : X0 ∈ X' := by rw [← hX0]; exact List.getElem_mem hXpos
        subst hadx
        have hbX := bs_ones X'
        have hlX : (bs X').length = M := (bs_length X').trans HXL.out
        have hb1 : ((bs ([] : List E)).length + M) * 1 ≤ 140737488355328 := by simp [bs]; omega
        have hb2 : ((bs ([] : List E) ++ bs X').length + 1) * 1 ≤ 140737488355328 := by rw [List.length_append, hlX]; simp [bs]; omega
        have hb3 : ((bs Y).length + 1) * 1 ≤ 140737488355328 := by rw [bs_length, HYL.out]; omega
        have hX0l := X0.lt
        have H89 := Lib.hid (show w9.heap.size ≤ w12.heap.size from z12.le)
        have H88 := Lib.hid (show w8.heap.size ≤ w9.heap.size from by have := y98.le; exact this)
        have HX13 := Lib.hid hrX
        have HXN2 := Lib.hid (show ¬ (X' ++ [X0]).Nodup by
          intro h
          rw [List.nodup_append] at h
          exact h.2.2 X0 hXm X0 (List.mem_singleton.2 rfl) rfl)
        have HL15 := Lib.hid (show (X' ++ [X0]).length = M + 1 by rw [List.length_append, HXL.out]; rfl)
        have HL16 := Lib.hid (show (Y ++ [(1 : E)]).length = M + 1 by rw [List.length_append, HYL.out]; rfl)
        have hnn1 : M + 1 ≤ 140737488355000 := by omega
        have hnp : 0 < M := by omega
        clear hX0 hXm hXpos h0
        go_wp2_with (first
          | (at_builtin; refine wpList_appAt eltEl rfl _ _ (by rfl) w12.heap.size v _ (by rfl) (by exact ho) (some adx) M cx (bs X') (by rfl) hrX hlX hbX hb1 hl12 ?_; intro v14 w14 ho14 hb14; have E14 : Ext w12 w14 := Below.trans hx hb14; have hc14 : w14.cell? adx = some (.int .u8 (X0.val : Int)) := (hb14.cell (Nat.lt_of_lt_of_le (hax adx rfl) (Nat.le_trans H88.out H89.out))).trans hcX; have hl14 := E14.le)
          | (at_builtin; refine wpList_push2 _ eltEl rfl _ _ (by rfl) w12.heap.size v14 _ (by rfl) (by exact ho14) (.int .u8 (X0.val : Int)) w14.heap.size rfl (by rfl) rfl hb2 hl14 ?_; intro v15 w15 ho15 _ hb15 _; have E15 : Ext w12 w15 := Below.trans E14 hb15; have hY15 := hY12.out.ext E15; have hl15 : w8.heap.size ≤ w15.heap.size := Nat.le_trans (Nat.le_trans H88.out H89.out) E15.le)
          | (at_builtin; refine wpList_push2 _ eltEl rfl _ _ (by rfl) w8.heap.size (.slice Ay M cy) _ (by rfl) (by exact hY15) (.int .u8 1) w15.heap.size rfl (by rfl) rfl hb3 hl15 ?_; intro v16 w16 ho16 hm16 hb16 hY16))
        have ho15' : Own w16 w12.heap.size 34 v15 (bs (X' ++ [X0])) := by
          have h := (ho15.alloc (.cells #[.int .u8 1] 34)).kept hm16.grown (.inr (fun e => by
            cases hg : v15.ownBlock with
            | none => rw [hg] at e; have h1 := (hY12.out.lt); cases hy : (Value.slice Ay M cy).ownBlock with
              | none => exact absurd (hY8.out.form) (by rintro (⟨hv, hn⟩ | ⟨g, cap, hv, _⟩) <;> first | (have := congrArg List.length hn; rw [bs_length, HYL.out] at this; simp at this; omega) | (rw [hv] at hy; cases hy))
              | some g => rw [hy] at e; cases e
            | some g =>
              have h1 := (ho15.lt g hg).1
              have h2 := (H98.out g (by rw [← e, hg])).2
              have := H89.out
              omega))
          rwa [bs_nil, List.nil_append, ← show bs (X' ++ [X0]) = bs X' ++ [.int .u8 (X0.val : Int)] from bs_append _ _] at h
        have ho16' : Own w16 w8.heap.size 34 v16 (bs (Y ++ [(1 : E)])) := by rw [bs_append]; exact ho16
        obtain ⟨A15, c15, rfl, hr15, -, -⟩ := ho15'.bytesN HL15.out
        obtain ⟨A16, c16, rfl, hr16, -, -⟩ := ho16'.bytesN HL16.out
        have Y16 : Below w.heap.size w w16 := Below.trans (y9.trans (z12.trans E15)) (hb16.mono y8.le)
        have hrX16 : Rd w16 (some adx) (bs X') := (HX13.out.belowB (hb14.mono (Nat.le_refl _)) (fun ad e => Nat.lt_of_lt_of_le (hax ad e) (Nat.le_trans H88.out H89.out))).belowB hb15 (fun ad e => Nat.lt_of_lt_of_le (hax ad e) (Nat.le_trans H88.out H89.out)) |>.belowB hb16 hax
        have hl16 : w8.heap.size ≤ w16.heap.size := Nat.le_trans hl15 hb16.size
        clear ho15 ho15' ho16 ho16' hm16 hb16 hb14 hb15 E14 hY15 ho14 ho hrX hcX hc14 hx
        refine (polyThrough_all A15 A16 _ _ c15 c16 (X' ++ [X0]) (Y ++ [(1 : E)]) _ HL15.out HL16.out hr15 hr16 hnn1).mono ?_
        rintro e w17 ⟨v, t', k, rfl, ht', -, hx⟩
        obtain rfl := th_twice (by rw [HL15.out, HL16.out]) HXN2.out ht'
        have hY17 := hY16.ext hx
        have hrX17 := hrX16.ext hx
        have Y17 : Ext w w17 := Ext.trans Y16 hx
        have hl17 : w8.heap.size ≤ w17.heap.size := Nat.le_trans hl16 hx.le
        clear ht' hr15 hr16
        go_wp2_with (at_builtin; refine wpList_push2 _ eltEl rfl _ _ (by rfl) w8.heap.size (.slice Ay M cy) _ (by rfl) (by exact hY17) (.int .u8 1) w17.heap.size rfl (by rfl) rfl hb3 hl17 ?_; intro v18 w18 ho18 hm18 hb18 _)
        have ho18' : Own w18 w8.heap.size 34 v18 (bs (Y ++ [(1 : E)])) := by rw [bs_append]; exact ho18
        obtain ⟨A18, c18, rfl, hr18, -, -⟩ := ho18'.bytesN HL16.out
        have Y18 : Below w.heap.size w w18 := Below.trans Y17 (hb18.mono y8.le)
        have hrX18 : Rd w18 (some adx) (bs X') := hrX17.belowB hb18 hax
        clear ho18 ho18' hm18 hb18
        refine (polyThrough_all (some adx) A18 _ _ cx c18 X' (Y ++ [(1 : E)]) _ HXL.out HL16.out hrX18 hr18 (by omega)).mono ?_
        rintro e w19 ⟨v, t'', k, rfl, ht', -, hx⟩
        obtain rfl := th_odd (by rw [HXL.out, HL16.out]; omega) ht'
        go_wp2_with (go_at_call 46; with_reducible refine (num2_any _ rfl _).mono ?_; rintro e w' ⟨rfl, rfl⟩)
        go_ret
        exact ⟨rfl, Ext.trans Y18 hx⟩
    · have hoY := ho
      have hN : True := trivial
      have hNM : V ≤ M := by omega
      have hNl : x2.length = V := HV.out
      have hNcx : V ≤ cx := by omega
      have hXl : (X.take V).length = V := by rw [List.length_take, HM.out]; omega
      have HXN := Lib.hid (show (X.take V).Nodup from HN.out.sublist (List.take_sublist _ _))
      have hrX : Rd w9 Ax (bs (X.take V)) := by rw [bs_take]; exact hrx.take _
      have hrY := hoY.rd
      have hlt9 : ∀ g, (Value.slice Ay V cy).ownBlock = some g → w8.heap.size ≤ g ∧ g < w9.heap.size := hoY.lt
      have HYL := Lib.hid hNl
      have HXL := Lib.hid hXl
      generalize X.take V = X' at HXL HXN hrX hXl
      have hY8 := Lib.hid hoY
      have H98 := Lib.hid (hoY.lt)
      have hNb : V ≤ 1048576 := by omega
      have HXb := Lib.hid hrX
      clear hN hoY ho hrx hNl hXl
      go_wp2_with fail
      refine (polyThrough_all Ax Ay _ _ cx cy X' x2 _ HXL.out HYL.out hrX hrY (by omega)).mono ?_
      rintro e w10 ⟨v, t, k, rfl, ht, ho, hx⟩
      obtain ⟨rfl, htl, htm⟩ := th_any HXN.out (HXL.out.trans HYL.out.symm) ht
      have htl' : t.length ≤ V := by rw [HXL.out] at htl; exact htl
      have htd : decide (V < t.length) = false := decide_eq_false (by omega)
      obtain ⟨At, ct, rfl, hrt, -, -⟩ := ho.bytesN rfl
      have z10 := hx
      replace hrX := hrX.ext hx
      replace hrY := hrY.ext hx
      clear ho hx ht htl
      go_wp2_with (go_at_call 46; with_reducible refine (num2_any _ rfl _).mono ?_; rintro e w' ⟨rfl, rfl⟩)
      refine (values_n At Ax _ _ t X' ct cx _ rfl HXL.out hrt hrX (by omega) (by omega)).mono ?_
      rintro e w11 ⟨v, rfl, ho, hx⟩
      rw [htm] at ho
      obtain ⟨Av, cv, rfl, hrv, -, -⟩ := ho.bytesN HYL.out
      have z11 := z10.trans hx
      replace hrX := hrX.ext hx
      replace hrY := hrY.ext hx
      clear ho hx hrt
      go_wp2_with fail
      refine (equal_n Av Ay _ _ x2 cv cy _ HYL.out HYL.out hrv hrY (by omega)).mono ?_
      rintro e w12 ⟨rfl, hx⟩
      have z12 := z11.trans hx
      replace hrX := hrX.ext hx
      clear hx hrv hrY htm htd
      by_cases h0 : V = 0
      · have ht0 : t.length = 0 := by omega
        have h00 : ((V : Int) == 0) = true := by rw [beq_iff_eq]; omega
        rw [ht0]
        go_wp2
        go_ret
        exact ⟨rfl, y9.trans z12⟩
      · have h00 : ((V : Int) == 0) = false := by rw [beq_eq_false_iff_ne]; omega
        have hY12 := Lib.hid (hY8.out.ext z12)
        go_wp2_with fail
        refine (elems_n none 0 [] 0 _ rfl (Rd.nil _ _) (by omega)).mono ?_
        rintro e w13 ⟨v, rfl, ho, hx⟩
        have z13 := z12.trans hx
        replace hrX := hrX.ext hx
        have hY13 := Lib.hid (hY12.out.ext hx)
        have hl12 := hx.le
        have hXpos : 0 < X'.length := by rw [HXL.out]; omega
        obtain ⟨adx, hadx, hcX⟩ := hrX.byte hXpos
        have hax : ∀ ad, Ax = some ad → ad.block < w8.heap.size := fun ad e => by
          obtain ⟨ad', e', hlt⟩ := HX8.out.lt (by rw [bs_length, HM.out]; omega)
          rw [e] at e'
          injection e' with e'
          subst e'
          exact hlt
        obtain ⟨X0, hX0⟩ : ∃ (x : E), X'[0] = x := ⟨_, rfl⟩
        rw [hX0, add_zero'] at hcX
        have hXm : X0 ∈ X' := by rw [← hX0]; exact List.getElem_mem hXpos
        subst hadx
        have hbX := bs_ones X'
        have hlX : (bs X').length = V := (bs_length X').trans HXL.out
        have hb1 : ((bs ([] : List E)).length + V) * 1 ≤ 140737488355328 := by simp [bs]; omega
        have hb2 : ((bs ([] : List E) ++ bs X').length + 1) * 1 ≤ 140737488355328 := by rw [List.length_append, hlX]; simp [bs]; omega
        have hb3 : ((bs x2).length + 1) * 1 ≤ 140737488355328 := by rw [bs_length, HYL.out]; omega
        have hX0l := X0.lt
        have H89 := Lib.hid (show w9.heap.size ≤ w12.heap.size from z12.le)
        have H88 := Lib.hid (show w8.heap.size ≤ w9.heap.size from by have := y98.le; exact this)
        have HX13 := Lib.hid hrX
        have HXN2 := Lib.hid (show ¬ (X' ++ [X0]).Nodup by
          intro h
          rw [List.nodup_append] at h
          exact h.2.2 X0 hXm X0 (List.mem_singleton.2 rfl) rfl)
        have HL15 := Lib.hid (show (X' ++ [X0]).length = V + 1 by rw [List.length_append, HXL.out]; rfl)
        have HL16 := Lib.hid (show (x2 ++ [(1 : E)]).length = V + 1 by rw [List.length_append, HYL.out]; rfl)
        have hnn1 : V + 1 ≤ 140737488355000 := by omega
        have hnp : 0 < V := by omega
        clear hX0 hXm hXpos h0
        go_wp2_with (first
          | (at_builtin; refine wpList_appAt eltEl rfl _ _ (by rfl) w12.heap.size v _ (by rfl) (by exact ho) (some adx) V cx (bs X') (by rfl) hrX hlX hbX hb1 hl12 ?_; intro v14 w14 ho14 hb14; have E14 : Ext w12 w14 := Below.trans hx hb14; have hc14 : w14.cell? adx = some (.int .u8 (X0.val : Int)) := (hb14.cell (Nat.lt_of_lt_of_le (hax adx rfl) (Nat.le_trans H88.out H89.out))).trans hcX; have hl14 := E14.le)
          | (at_builtin; refine wpList_push2 _ eltEl rfl _ _ (by rfl) w12.heap.size v14 _ (by rfl) (by exact ho14) (.int .u8 (X0.val : Int)) w14.heap.size rfl (by rfl) rfl hb2 hl14 ?_; intro v15 w15 ho15 _ hb15 _; have E15 : Ext w12 w15 := Below.trans E14 hb15; have hY15 := hY12.out.ext E15; have hl15 : w8.heap.size ≤ w15.heap.size := Nat.le_trans (Nat.le_trans H88.out H89.out) E15.le)
          | (at_builtin; refine wpList_push2 _ eltEl rfl _ _ (by rfl) w8.heap.size (.slice Ay V cy) _ (by rfl) (by exact hY15) (.int .u8 1) w15.heap.size rfl (by rfl) rfl hb3 hl15 ?_; intro v16 w16 ho16 hm16 hb16 hY16))
        have ho15' : Own w16 w12.heap.size 34 v15 (bs (X' ++ [X0])) := by
          have h := (ho15.alloc (.cells #[.int .u8 1] 34)).kept hm16.grown (.inr (fun e => by
            cases hg : v15.ownBlock with
            | none => rw [hg] at e; have h1 := (hY12.out.lt); cases hy : (Value.slice Ay V cy).ownBlock with
              | none => exact absurd (hY8.out.form) (by rintro (⟨hv, hn⟩ | ⟨g, cap, hv, _⟩) <;> first | (have := congrArg List.length hn; rw [bs_length, HYL.out] at this; simp at this; omega) | (rw [hv] at hy; cases hy))
              | some g => rw [hy] at e; cases e
            | some g =>
              have h1 := (ho15.lt g hg).1
              have h2 := (H98.out g (by rw [← e, hg])).2
              have := H89.out
              omega))
          rwa [bs_nil, List.nil_append, ← show bs (X' ++ [X0]) = bs X' ++ [.int .u8 (X0.val : Int)] from bs_append _ _] at h
        have ho16' : Own w16 w8.heap.size 34 v16 (bs (x2 ++ [(1 : E)])) := by rw [bs_append]; exact ho16
        obtain ⟨A15, c15, rfl, hr15, -, -⟩ := ho15'.bytesN HL15.out
        obtain ⟨A16, c16, rfl, hr16, -, -⟩ := ho16'.bytesN HL16.out
        have Y16 : Below w.heap.size w w16 := Below.trans (y9.trans (z12.trans E15)) (hb16.mono y8.le)
        have hrX16 : Rd w16 (some adx) (bs X') := (HX13.out.belowB (hb14.mono (Nat.le_refl _)) (fun ad e => Nat.lt_of_lt_of_le (hax ad e) (Nat.le_trans H88.out H89.out))).belowB hb15 (fun ad e => Nat.lt_of_lt_of_le (hax ad e) (Nat.le_trans H88.out H89.out)) |>.belowB hb16 hax
        have hl16 : w8.heap.size ≤ w16.heap.size := Nat.le_trans hl15 hb16.size
        clear ho15 ho15' ho16 ho16' hm16 hb16 hb14 hb15 E14 hY15 ho14 ho hrX hcX hc14 hx
        refine (polyThrough_all A15 A16 _ _ c15 c16 (X' ++ [X0]) (x2 ++ [(1 : E)]) _ HL15.out HL16.out hr15 hr16 hnn1).mono ?_
        rintro e w17 ⟨v, t', k, rfl, ht', -, hx⟩
        obtain rfl := th_twice (by rw [HL15.out, HL16.out]) HXN2.out ht'
        have hY17 := hY16.ext hx
        have hrX17 := hrX16.ext hx
        have Y17 : Ext w w17 := Ext.trans Y16 hx
        have hl17 : w8.heap.size ≤ w17.heap.size := Nat.le_trans hl16 hx.le
        clear ht' hr15 hr16
        go_wp2_with (at_builtin; refine wpList_push2 _ eltEl rfl _ _ (by rfl) w8.heap.size (.slice Ay V cy) _ (by rfl) (by exact hY17) (.int .u8 1) w17.heap.size rfl (by rfl) rfl hb3 hl17 ?_; intro v18 w18 ho18 hm18 hb18 _)
        have ho18' : Own w18 w8.heap.size 34 v18 (bs (x2 ++ [(1 : E)])) := by rw [bs_append]; exact ho18
        obtain ⟨A18, c18, rfl, hr18, -, -⟩ := ho18'.bytesN HL16.out
        have Y18 : Below w.heap.size w w18 := Below.trans Y17 (hb18.mono y8.le)
        have hrX18 : Rd w18 (some adx) (bs X') := hrX17.belowB hb18 hax
        clear ho18 ho18' hm18 hb18
        refine (polyThrough_all (some adx) A18 _ _ cx c18 X' (x2 ++ [(1 : E)]) _ HXL.out HL16.out hrX18 hr18 (by omega)).mono ?_
        rintro e w19 ⟨v, t'', k, rfl, ht', -, hx⟩
        obtain rfl := th_odd (by rw [HXL.out, HL16.out]; omega) ht'
        go_wp2_with (go_at_call 46; with_reducible refine (num2_any _ rfl _).mono ?_; rintro e w' ⟨rfl, rfl⟩)
        go_ret
        exact ⟨rfl, Ext.trans Y18 hx⟩
  · have hQ1 : P0 ≤ M := by omega
    have HQ := Lib.hid hP0
    have HT1 := HT0
    have y5 := y4
    go_wp2_with fail
    refine (values_n Ap Ax _ _ p X cp cx _ HQ.out HM.out hrp hrx (by omega) (by omega)).mono ?_
    rintro e w6 ⟨v, rfl, ho, hx⟩
    obtain ⟨Av, cv, rfl, hrv, -, -⟩ := ho.bytesN (n := M) (by rw [List.length_map]; exact HM.out)
    have y6 := y5.trans hx
    replace hrx := hrx.ext hx
    have hrq6 := hrp.ext hx
    clear ho hx
    go_wp2_with fail
    refine (polyThrough_all Ax Av _ _ cx cv X (X.map (evL p)) _ HM.out (by rw [List.length_map]; exact HM.out) hrx hrv (by omega)).mono ?_
    rintro e w7 ⟨v, t, k, rfl, ht, ho, hx⟩
    obtain ⟨rfl, rfl⟩ := th_back HN.out HT1.out (by rw [HQ.out, HM.out]; exact hQ1) ht
    obtain ⟨At, ct, rfl, hrt, -, -⟩ := ho.bytesN HQ.out
    have y7 := y6.trans hx
    replace hrx := hrx.ext hx
    have hrq7 := hrq6.ext hx
    clear ho hx ht hrv hrq6
    go_wp2_with (go_at_call 46; with_reducible refine (num2_any _ rfl _).mono ?_; rintro e w' ⟨rfl, rfl⟩)
    refine (equal_n At Ap _ _ t ct cp _ HQ.out HQ.out hrt hrq7 (by omega)).mono ?_
    rintro e w8 ⟨rfl, hx⟩
    have y8 := y7.trans hx
    replace hrx := hrx.ext hx
    have HX8 := Lib.hid hrx
    clear hx hrt hrq7
    go_wp2_with fail
    refine (elems_n A2 _ x2 c2 _ rfl (HR2.out.ext y8) (by omega)).mono ?_
    rintro e w9 ⟨v, rfl, ho, hx⟩
    obtain ⟨Ay, cy, rfl, hry, hcy, hmy⟩ := ho.bytesN HV.out
    have y9 := y8.trans hx
    have y98 := hx
    replace hrx := hrx.ext hx
    clear hx hry
    simp only [maxLen] at hmy
    by_cases hh : M < V
    · have hoY := ho.take M (by omega)
      rw [← bs_take] at hoY
      have hNl : (x2.take M).length = M := by rw [List.length_take, HV.out]; omega
      have hNM : M ≤ M := Nat.le_refl _
      have hN : True := trivial
      have hMcy : M ≤ cy := by omega
      have hMcx : M ≤ cx := hcx
      generalize x2.take M = Y at hoY hNl
      have hXl : (X.take M).length = M := by rw [List.length_take, HM.out]; omega
      have HXN := Lib.hid (show (X.take M).Nodup from HN.out.sublist (List.take_sublist _ _))
      have hrX : Rd w9 Ax (bs (X.take M)) := by rw [bs_take]; exact hrx.take _
      have hrY := hoY.rd
      have hlt9 : ∀ g, (Value.slice Ay M cy).ownBlock = some g → w8.heap.size ≤ g ∧ g < w9.heap.size := hoY.lt
      have HYL := Lib.hid hNl
      have HXL := Lib.hid hXl
      generalize X.take M = X' at HXL HXN hrX hXl
      have hY8 := Lib.hid hoY
      have H98 := Lib.hid (hoY.lt)
      have hNb : M ≤ 1048576 := by omega
      have HXb := Lib.hid hrX
      clear hN hoY ho hrx hNl hXl
      go_wp2_with fail
      refine (polyThrough_all Ax Ay _ _ cx cy X' Y _ HXL.out HYL.out hrX hrY (by omega)).mono ?_
      rintro e w10 ⟨v, t, k, rfl, ht, ho, hx⟩
      obtain ⟨rfl, htl, htm⟩ := th_any HXN.out (HXL.out.trans HYL.out.symm) ht
      have htl' : t.length ≤ M := by rw [HXL.out] at htl; exact htl
      have htd : decide (M < t.length) = false := decide_eq_false (by omega)
      obtain ⟨At, ct, rfl, hrt, -, -⟩ := ho.bytesN rfl
      have z10 := hx
      replace hrX := hrX.ext hx
      replace hrY := hrY.ext hx
      clear ho hx ht htl
      go_wp2_with (go_at_call 46; with_reducible refine (num2_any _ rfl _).mono ?_; rintro e w' ⟨rfl, rfl⟩)
      refine (values_n At Ax _ _ t X' ct cx _ rfl HXL.out hrt hrX (by omega) (by omega)).mono ?_
      rintro e w11 ⟨v, rfl, ho, hx⟩
      rw [htm] at ho
      obtain ⟨Av, cv, rfl, hrv, -, -⟩ := ho.bytesN HYL.out
      have z11 := z10.trans hx
      replace hrX := hrX.ext hx
      replace hrY := hrY.ext hx
      clear ho hx hrt
      go_wp2_with fail
      refine (equal_n Av Ay _ _ Y cv cy _ HYL.out HYL.out hrv hrY (by omega)).mono ?_
      rintro e w12 ⟨rfl, hx⟩
      have z12 := z11.trans hx
      replace hrX := hrX.ext hx
      clear hx hrv hrY htm htd
      by_cases h0 : M = 0
      · have ht0 : t.length = 0 := by omega
        have h00 : ((M : Int) == 0) = true := by rw [beq_iff_eq]; omega
        rw [ht0]
        go_wp2
        go_ret
        exact ⟨rfl, y9.trans z12⟩
      · have h00 : ((M : Int) == 0) = false := by rw [beq_eq_false_iff_ne]; omega
        have hY12 := Lib.hid (hY8.out.ext z12)
        go_wp2_with fail
        refine (elems_n none 0 [] 0 _ rfl (Rd.nil _ _) (by omega)).mono ?_
        rintro e w13 ⟨v, rfl, ho, hx⟩
        have z13 := z12.trans hx
        replace hrX := hrX.ext hx
        have hY13 := Lib.hid (hY12.out.ext hx)
        have hl12 := hx.le
        have hXpos : 0 < X'.length := by rw [HXL.out]; omega
        obtain ⟨adx, hadx, hcX⟩ := hrX.byte hXpos
        have hax : ∀ ad, Ax = some ad → ad.block < w8.heap.size := fun ad e => by
          obtain ⟨ad', e', hlt⟩ := HX8.out.lt (by rw [bs_length, HM.out]; omega)
          rw [e] at e'
          injection e' with e'
          subst e'
          exact hlt
        obtain ⟨X0, hX0⟩ : ∃ (x : E), X'[0] = x := ⟨_, rfl⟩
        rw [hX0, add_zero'] at hcX
        have hXm : X0 ∈ X' := by rw [← hX0]; exact List.getElem_mem hXpos
        subst hadx
        have hbX := bs_ones X'
        have hlX : (bs X').length = M := (bs_length X').trans HXL.out
        have hb1 : ((bs ([] : List E)).length + M) * 1 ≤ 140737488355328 := by simp [bs]; omega
        have hb2 : ((bs ([] : List E) ++ bs X').length + 1) * 1 ≤ 140737488355328 := by rw [List.length_append, hlX]; simp [bs]; omega
        have hb3 : ((bs Y).length + 1) * 1 ≤ 140737488355328 := by rw [bs_length, HYL.out]; omega
        have hX0l := X0.lt
        have H89 := Lib.hid (show w9.heap.size ≤ w12.heap.size from z12.le)
        have H88 := Lib.hid (show w8.heap.size ≤ w9.heap.size from by have := y98.le; exact this)
        have HX13 := Lib.hid hrX
        have HXN2 := Lib.hid (show ¬ (X' ++ [X0]).Nodup by
          intro h
          rw [List.nodup_append] at h
          exact h.2.2 X0 hXm X0 (List.mem_singleton.2 rfl) rfl)
        have HL15 := Lib.hid (show (X' ++ [X0]).length = M + 1 by rw [List.length_append, HXL.out]; rfl)
        have HL16 := Lib.hid (show (Y ++ [(1 : E)]).length = M + 1 by rw [List.length_append, HYL.out]; rfl)
        have hnn1 : M + 1 ≤ 140737488355000 := by omega
        have hnp : 0 < M := by omega
        clear hX0 hXm hXpos h0
        go_wp2_with (first
          | (at_builtin; refine wpList_appAt eltEl rfl _ _ (by rfl) w12.heap.size v _ (by rfl) (by exact ho) (some adx) M cx (bs X') (by rfl) hrX hlX hbX hb1 hl12 ?_; intro v14 w14 ho14 hb14; have E14 : Ext w12 w14 := Below.trans hx hb14; have hc14 : w14.cell? adx = some (.int .u8 (X0.val : Int)) := (hb14.cell (Nat.lt_of_lt_of_le (hax adx rfl) (Nat.le_trans H88.out H89.out))).trans hcX; have hl14 := E14.le)
          | (at_builtin; refine wpList_push2 _ eltEl rfl _ _ (by rfl) w12.heap.size v14 _ (by rfl) (by exact ho14) (.int .u8 (X0.val : Int)) w14.heap.size rfl (by rfl) rfl hb2 hl14 ?_; intro v15 w15 ho15 _ hb15 _; have E15 : Ext w12 w15 := Below.trans E14 hb15; have hY15 := hY12.out.ext E15; have hl15 : w8.heap.size ≤ w15.heap.size := Nat.le_trans (Nat.le_trans H88.out H89.out) E15.le)
          | (at_builtin; refine wpList_push2 _ eltEl rfl _ _ (by rfl) w8.heap.size (.slice Ay M cy) _ (by rfl) (by exact hY15) (.int .u8 1) w15.heap.size rfl (by rfl) rfl hb3 hl15 ?_; intro v16 w16 ho16 hm16 hb16 hY16))
        have ho15' : Own w16 w12.heap.size 34 v15 (bs (X' ++ [X0])) := by
          have h := (ho15.alloc (.cells #[.int .u8 1] 34)).kept hm16.grown (.inr (fun e => by
            cases hg : v15.ownBlock with
            | none => rw [hg] at e; have h1 := (hY12.out.lt); cases hy : (Value.slice Ay M cy).ownBlock with
              | none => exact absurd (hY8.out.form) (by rintro (⟨hv, hn⟩ | ⟨g, cap, hv, _⟩) <;> first | (have := congrArg List.length hn; rw [bs_length, HYL.out] at this; simp at this; omega) | (rw [hv] at hy; cases hy))
              | some g => rw [hy] at e; cases e
            | some g =>
              have h1 := (ho15.lt g hg).1
              have h2 := (H98.out g (by rw [← e, hg])).2
              have := H89.out
              omega))
          rwa [bs_nil, List.nil_append, ← show bs (X' ++ [X0]) = bs X' ++ [.int .u8 (X0.val : Int)] from bs_append _ _] at h
        have ho16' : Own w16 w8.heap.size 34 v16 (bs (Y ++ [(1 : E)])) := by rw [bs_append]; exact ho16
        obtain ⟨A15, c15, rfl, hr15, -, -⟩ := ho15'.bytesN HL15.out
        obtain ⟨A16, c16, rfl, hr16, -, -⟩ := ho16'.bytesN HL16.out
        have Y16 : Below w.heap.size w w16 := Below.trans (y9.trans (z12.trans E15)) (hb16.mono y8.le)
        have hrX16 : Rd w16 (some adx) (bs X') := (HX13.out.belowB (hb14.mono (Nat.le_refl _)) (fun ad e => Nat.lt_of_lt_of_le (hax ad e) (Nat.le_trans H88.out H89.out))).belowB hb15 (fun ad e => Nat.lt_of_lt_of_le (hax ad e) (Nat.le_trans H88.out H89.out)) |>.belowB hb16 hax
        have hl16 : w8.heap.size ≤ w16.heap.size := Nat.le_trans hl15 hb16.size
        clear ho15 ho15' ho16 ho16' hm16 hb16 hb14 hb15 E14 hY15 ho14 ho hrX hcX hc14 hx
        refine (polyThrough_all A15 A16 _ _ c15 c16 (X' ++ [X0]) (Y ++ [(1 : E)]) _ HL15.out HL16.out hr15 hr16 hnn1).mono ?_
        rintro e w17 ⟨v, t', k, rfl, ht', -, hx⟩
        obtain rfl := th_twice (by rw [HL15.out, HL16.out]) HXN2.out ht'
        have hY17 := hY16.ext hx
        have hrX17 := hrX16.ext hx
        have Y17 : Ext w w17 := Ext.trans Y16 hx
        have hl17 : w8.heap.size ≤ w17.heap.size := Nat.le_trans hl16 hx.le
        clear ht' hr15 hr16
        go_wp2_with (at_builtin; refine wpList_push2 _ eltEl rfl _ _ (by rfl) w8.heap.size (.slice Ay M cy) _ (by rfl) (by exact hY17) (.int .u8 1) w17.heap.size rfl (by rfl) rfl hb3 hl17 ?_; intro v18 w18 ho18 hm18 hb18 _)
        have ho18' : Own w18 w8.heap.size 34 v18 (bs (Y ++ [(1 : E)])) := by rw [bs_append]; exact ho18
        obtain ⟨A18, c18, rfl, hr18, -, -⟩ := ho18'.bytesN HL16.out
        have Y18 : Below w.heap.size w w18 := Below.trans Y17 (hb18.mono y8.le)
        have hrX18 : Rd w18 (some adx) (bs X') := hrX17.belowB hb18 hax
        clear ho18 ho18' hm18 hb18
        refine (polyThrough_all (some adx) A18 _ _ cx c18 X' (Y ++ [(1 : E)]) _ HXL.out HL16.out hrX18 hr18 (by omega)).mono ?_
        rintro e w19 ⟨v, t'', k, rfl, ht', -, hx⟩
        obtain rfl := th_odd (by rw [HXL.out, HL16.out]; omega) ht'
        go_wp2_with (go_at_call 46; with_reducible refine (num2_any _ rfl _).mono ?_; rintro e w' ⟨rfl, rfl⟩)
        go_ret
        exact ⟨rfl, Ext.trans Y18 hx⟩
    · have hoY := ho
      have hN : True := trivial
      have hNM : V ≤ M := by omega
      have hNl : x2.length = V := HV.out
      have hNcx : V ≤ cx := by omega
      have hXl : (X.take V).length = V := by rw [List.length_take, HM.out]; omega
      have HXN := Lib.hid (show (X.take V).Nodup from HN.out.sublist (List.take_sublist _ _))
      have hrX : Rd w9 Ax (bs (X.take V)) := by rw [bs_take]; exact hrx.take _
      have hrY := hoY.rd
      have hlt9 : ∀ g, (Value.slice Ay V cy).ownBlock = some g → w8.heap.size ≤ g ∧ g < w9.heap.size := hoY.lt
      have HYL := Lib.hid hNl
      have HXL := Lib.hid hXl
      generalize X.take V = X' at HXL HXN hrX hXl
      have hY8 := Lib.hid hoY
      have H98 := Lib.hid (hoY.lt)
      have hNb : V ≤ 1048576 := by omega
      have HXb := Lib.hid hrX
      clear hN hoY ho hrx hNl hXl
      go_wp2_with fail
      refine (polyThrough_all Ax Ay _ _ cx cy X' x2 _ HXL.out HYL.out hrX hrY (by omega)).mono ?_
      rintro e w10 ⟨v, t, k, rfl, ht, ho, hx⟩
      obtain ⟨rfl, htl, htm⟩ := th_any HXN.out (HXL.out.trans HYL.out.symm) ht
      have htl' : t.length ≤ V := by rw [HXL.out] at htl; exact htl
      have htd : decide (V < t.length) = false := decide_eq_false (by omega)
      obtain ⟨At, ct, rfl, hrt, -, -⟩ := ho.bytesN rfl
      have z10 := hx
      replace hrX := hrX.ext hx
      replace hrY := hrY.ext hx
      clear ho hx ht htl
      go_wp2_with (go_at_call 46; with_reducible refine (num2_any _ rfl _).mono ?_; rintro e w' ⟨rfl, rfl⟩)
      refine (values_n At Ax _ _ t X' ct cx _ rfl HXL.out hrt hrX (by omega) (by omega)).mono ?_
      rintro e w11 ⟨v, rfl, ho, hx⟩
      rw [htm] at ho
      obtain ⟨Av, cv, rfl, hrv, -, -⟩ := ho.bytesN HYL.out
      have z11 := z10.trans hx
      replace hrX := hrX.ext hx
      replace hrY := hrY.ext hx
      clear ho hx hrt
      go_wp2_with fail
      refine (equal_n Av Ay _ _ x2 cv cy _ HYL.out HYL.out hrv hrY (by omega)).mono ?_
      rintro e w12 ⟨rfl, hx⟩
      have z12 := z11.trans hx
      replace hrX := hrX.ext hx
      clear hx hrv hrY htm htd
      by_cases h0 : V = 0
      · have ht0 : t.length = 0 := by omega
        have h00 : ((V : Int) == 0) = true := by rw [beq_iff_eq]; omega
        rw [ht0]
        go_wp2
        go_ret
        exact ⟨rfl, y9.trans z12⟩
      · have h00 : ((V : Int) == 0) = false := by rw [beq_eq_false_iff_ne]; omega
        have hY12 := Lib.hid (hY8.out.ext z12)
        go_wp2_with fail
        refine (elems_n none 0 [] 0 _ rfl (Rd.nil _ _) (by omega)).mono ?_
        rintro e w13 ⟨v, rfl, ho, hx⟩
        have z13 := z12.trans hx
        replace hrX := hrX.ext hx
        have hY13 := Lib.hid (hY12.out.ext hx)
        have hl12 := hx.le
        have hXpos : 0 < X'.length := by rw [HXL.out]; omega
        obtain ⟨adx, hadx, hcX⟩ := hrX.byte hXpos
        have hax : ∀ ad, Ax = some ad → ad.block < w8.heap.size := fun ad e => by
          obtain ⟨ad', e', hlt⟩ := HX8.out.lt (by rw [bs_length, HM.out]; omega)
          rw [e] at e'
          injection e' with e'
          subst e'
          exact hlt
        obtain ⟨X0, hX0⟩ : ∃ (x : E), X'[0] = x := ⟨_, rfl⟩
        rw [hX0, add_zero'] at hcX
        have hXm : X0 ∈ X' := by rw [← hX0]; exact List.getElem_mem hXpos
        subst hadx
        have hbX := bs_ones X'
        have hlX : (bs X').length = V := (bs_length X').trans HXL.out
        have hb1 : ((bs ([] : List E)).length + V) * 1 ≤ 140737488355328 := by simp [bs]; omega
        have hb2 : ((bs ([] : List E) ++ bs X').length + 1) * 1 ≤ 140737488355328 := by rw [List.length_append, hlX]; simp [bs]; omega
        have hb3 : ((bs x2).length + 1) * 1 ≤ 140737488355328 := by rw [bs_length, HYL.out]; omega
        have hX0l := X0.lt
        have H89 := Lib.hid (show w9.heap.size ≤ w12.heap.size from z12.le)
        have H88 := Lib.hid (show w8.heap.size ≤ w9.heap.size from by have := y98.le; exact this)
        have HX13 := Lib.hid hrX
        have HXN2 := Lib.hid (show ¬ (X' ++ [X0]).Nodup by
          intro h
          rw [List.nodup_append] at h
          exact h.2.2 X0 hXm X0 (List.mem_singleton.2 rfl) rfl)
        have HL15 := Lib.hid (show (X' ++ [X0]).length = V + 1 by rw [List.length_append, HXL.out]; rfl)
        have HL16 := Lib.hid (show (x2 ++ [(1 : E)]).length = V + 1 by rw [List.length_append, HYL.out]; rfl)
        have hnn1 : V + 1 ≤ 140737488355000 := by omega
        have hnp : 0 < V := by omega
        clear hX0 hXm hXpos h0
        go_wp2_with (first
          | (at_builtin; refine wpList_appAt eltEl rfl _ _ (by rfl) w12.heap.size v _ (by rfl) (by exact ho) (some adx) V cx (bs X') (by rfl) hrX hlX hbX hb1 hl12 ?_; intro v14 w14 ho14 hb14; have E14 : Ext w12 w14 := Below.trans hx hb14; have hc14 : w14.cell? adx = some (.int .u8 (X0.val : Int)) := (hb14.cell (Nat.lt_of_lt_of_le (hax adx rfl) (Nat.le_trans H88.out H89.out))).trans hcX; have hl14 := E14.le)
          | (at_builtin; refine wpList_push2 _ eltEl rfl _ _ (by rfl) w12.heap.size v14 _ (by rfl) (by exact ho14) (.int .u8 (X0.val : Int)) w14.heap.size rfl (by rfl) rfl hb2 hl14 ?_; intro v15 w15 ho15 _ hb15 _; have E15 : Ext w12 w15 := Below.trans E14 hb15; have hY15 := hY12.out.ext E15; have hl15 : w8.heap.size ≤ w15.heap.size := Nat.le_trans (Nat.le_trans H88.out H89.out) E15.le)
          | (at_builtin; refine wpList_push2 _ eltEl rfl _ _ (by rfl) w8.heap.size (.slice Ay V cy) _ (by rfl) (by exact hY15) (.int .u8 1) w15.heap.size rfl (by rfl) rfl hb3 hl15 ?_; intro v16 w16 ho16 hm16 hb16 hY16))
        have ho15' : Own w16 w12.heap.size 34 v15 (bs (X' ++ [X0])) := by
          have h := (ho15.alloc (.cells #[.int .u8 1] 34)).kept hm16.grown (.inr (fun e => by
            cases hg : v15.ownBlock with
            | none => rw [hg] at e; have h1 := (hY12.out.lt); cases hy : (Value.slice Ay V cy).ownBlock with
              | none => exact absurd (hY8.out.form) (by rintro (⟨hv, hn⟩ | ⟨g, cap, hv, _⟩) <;> first | (have := congrArg List.length hn; rw [bs_length, HYL.out] at this; simp at this; omega) | (rw [hv] at hy; cases hy))
              | some g => rw [hy] at e; cases e
            | some g =>
              have h1 := (ho15.lt g hg).1
              have h2 := (H98.out g (by rw [← e, hg])).2
              have := H89.out
              omega))
          rwa [bs_nil, List.nil_append, ← show bs (X' ++ [X0]) = bs X' ++ [.int .u8 (X0.val : Int)] from bs_append _ _] at h
        have ho16' : Own w16 w8.heap.size 34 v16 (bs (x2 ++ [(1 : E)])) := by rw [bs_append]; exact ho16
        obtain ⟨A15, c15, rfl, hr15, -, -⟩ := ho15'.bytesN HL15.out
        obtain ⟨A16, c16, rfl, hr16, -, -⟩ := ho16'.bytesN HL16.out
        have Y16 : Below w.heap.size w w16 := Below.trans (y9.trans (z12.trans E15)) (hb16.mono y8.le)
        have hrX16 : Rd w16 (some adx) (bs X') := (HX13.out.belowB (hb14.mono (Nat.le_refl _)) (fun ad e => Nat.lt_of_lt_of_le (hax ad e) (Nat.le_trans H88.out H89.out))).belowB hb15 (fun ad e => Nat.lt_of_lt_of_le (hax ad e) (Nat.le_trans H88.out H89.out)) |>.belowB hb16 hax
        have hl16 : w8.heap.size ≤ w16.heap.size := Nat.le_trans hl15 hb16.size
        clear ho15 ho15' ho16 ho16' hm16 hb16 hb14 hb15 E14 hY15 ho14 ho hrX hcX hc14 hx
        refine (polyThrough_all A15 A16 _ _ c15 c16 (X' ++ [X0]) (x2 ++ [(1 : E)]) _ HL15.out HL16.out hr15 hr16 hnn1).mono ?_
        rintro e w17 ⟨v, t', k, rfl, ht', -, hx⟩
        obtain rfl := th_twice (by rw [HL15.out, HL16.out]) HXN2.out ht'
        have hY17 := hY16.ext hx
        have hrX17 := hrX16.ext hx
        have Y17 : Ext w w17 := Ext.trans Y16 hx
        have hl17 : w8.heap.size ≤ w17.heap.size := Nat.le_trans hl16 hx.le
        clear ht' hr15 hr16
        go_wp2_with (at_builtin; refine wpList_push2 _ eltEl rfl _ _ (by rfl) w8.heap.size (.slice Ay V cy) _ (by rfl) (by exact hY17) (.int .u8 1) w17.heap.size rfl (by rfl) rfl hb3 hl17 ?_; intro v18 w18 ho18 hm18 hb18 _)
        have ho18' : Own w18 w8.heap.size 34 v18 (bs (x2 ++ [(1 : E)])) := by rw [bs_append]; exact ho18
        obtain ⟨A18, c18, rfl, hr18, -, -⟩ := ho18'.bytesN HL16.out
        have Y18 : Below w.heap.size w w18 := Below.trans Y17 (hb18.mono y8.le)
        have hrX18 : Rd w18 (some adx) (bs X') := hrX17.belowB hb18 hax
        clear ho18 ho18' hm18 hb18
        refine (polyThrough_all (some adx) A18 _ _ cx c18 X' (x2 ++ [(1 : E)]) _ HXL.out HL16.out hrX18 hr18 (by omega)).mono ?_
        rintro e w19 ⟨v, t'', k, rfl, ht', -, hx⟩
        obtain rfl := th_odd (by rw [HXL.out, HL16.out]; omega) ht'
        go_wp2_with (go_at_call 46; with_reducible refine (num2_any _ rfl _).mono ?_; rintro e w' ⟨rfl, rfl⟩)
        go_ret
        exact ⟨rfl, Ext.trans Y18 hx⟩

set_option maxRecDepth 100000 in
theorem lifted (os : Os) (started : os.Started) (H : Type) (enc : TypeId × Value → H) (F : Stop.Interp) :
    ReturnsInHanded {} Try.checked os 12 .any ((Rows.OpenSpec.upto Rows.polyThroughBackSpec).pre6 enc Try.prog Try.f12 Rows.polyThroughBackUptoRow.domain false) (((Rows.OpenSpec.upto Rows.polyThroughBackSpec).at F).post enc Try.prog Try.f12 false true false false) := by
  refine returnsInHanded_of_cond_sized (C := Try.checked) (s := Rows.OpenSpec.upto Rows.polyThroughBackSpec) (k := Rows.uptoSmall) rfl own started (by kernel_rfl) Try.func12
    (OpenSpec.witness (enc := enc) (C := Try.checked) (s := Rows.OpenSpec.upto Rows.polyThroughBackSpec) (k := Rows.uptoSmall) rfl false ⟨#[], #[.slice none 0 0, .slice none 0 0, .slice none 0 0], []⟩ 8 (by kernel_rfl) (by kernel_rfl) (by kernel_rfl)
      (x := ([.nil, .nil, .nil], [], [])) (by kernel_rfl) rfl (by kernel_rfl)) ?_
  intro W base args ds gs before hval0 hW hcnd hk hsz0 _
  have hval : ∀ (j : Nat) t v, Try.f12.params[j]? = some t → args[j]? = some v → Value.okWide Try.prog W .any base t v := hval0
  have hsz : (DataW.weightsEach Try.prog (Try.f12.params.toList ++ Rows.polyThroughBackSpec.plain.varTypes Try.prog) (ds ++ gs)).all (· ≤ reachBytes) = true := hsz0
  have hW' := hW
  obtain ⟨p, q, hA0, hV, rfl, hfz, hnd⟩ := hW
  have hA : DataW.TrodAll enc Try.prog W 0 (fun _ => true) true Try.f12.params.toList args.toList ds p := hA0
  rw [Try.params12] at hA hval hsz
  obtain ⟨v0, vs0, d0, ds0, p0, q0, hargs, rfl, rfl, h0, r0⟩ := trodAll_cons hA
  obtain ⟨v1, vs1, d1, ds1, p1, q1, rfl, rfl, rfl, h1, r1⟩ := trodAll_cons r0
  obtain ⟨v2, vs2, d2, ds2, p2, q2, rfl, rfl, rfl, h2, r2⟩ := trodAll_cons r1
  obtain ⟨rfl, rfl, rfl⟩ := trodAll_nil r2
  obtain rfl : args = #[v0, v1, v2] := by cases args; simp_all
  obtain ⟨rfl, rfl⟩ := trodVars_none hV
  have k0 := h0
  have lt0 : ∀ x ∈ p0, x.block < W.heap.size := by obtain ⟨m, hm⟩ := k0; exact DataW.trod_lt m _ _ _ hm
  obtain ⟨A0, c0, x0, rfl, hr0, hl0, hc0⟩ : ∃ (A : Option Addr) (cap : Nat) (xs : List E), v0 = .slice A xs.length cap ∧ Rd W A (bs xs) ∧ xs.length ≤ cap ∧ cap ≤ 1048576 := by
    obtain ⟨a, n, c, hv⟩ := okWide_slice Try.underlying24 (hval 0 24 v0 rfl rfl)
    obtain ⟨fuel, hf⟩ := h0
    subst hv
    obtain ⟨A, cap, xs, e, h1, h2, h3⟩ := open_bytes_u Try.underlying24 Try.underlying5 (by kernel_rfl) hf (bulk_bound hk (by simp))
    simp [Value.cells] at e
    obtain ⟨rfl, rfl, rfl⟩ := e
    exact ⟨_, _, _, rfl, h1, h2, h3⟩
  have k1 := h1
  have lt1 : ∀ x ∈ p1, x.block < W.heap.size := by obtain ⟨m, hm⟩ := k1; exact DataW.trod_lt m _ _ _ hm
  obtain ⟨A1, c1, x1, rfl, hr1, hl1, hc1⟩ : ∃ (A : Option Addr) (cap : Nat) (xs : List E), v1 = .slice A xs.length cap ∧ Rd W A (bs xs) ∧ xs.length ≤ cap ∧ cap ≤ 1048576 := by
    obtain ⟨a, n, c, hv⟩ := okWide_slice Try.underlying24 (hval 1 24 v1 rfl rfl)
    obtain ⟨fuel, hf⟩ := h1
    subst hv
    obtain ⟨A, cap, xs, e, h1, h2, h3⟩ := open_bytes_u Try.underlying24 Try.underlying5 (by kernel_rfl) hf (bulk_bound hk (by simp))
    simp [Value.cells] at e
    obtain ⟨rfl, rfl, rfl⟩ := e
    exact ⟨_, _, _, rfl, h1, h2, h3⟩
  have k2 := h2
  have lt2 : ∀ x ∈ p2, x.block < W.heap.size := by obtain ⟨m, hm⟩ := k2; exact DataW.trod_lt m _ _ _ hm
  obtain ⟨A2, c2, x2, rfl, hr2, hl2, hc2⟩ : ∃ (A : Option Addr) (cap : Nat) (xs : List E), v2 = .slice A xs.length cap ∧ Rd W A (bs xs) ∧ xs.length ≤ cap ∧ cap ≤ 1048576 := by
    obtain ⟨a, n, c, hv⟩ := okWide_slice Try.underlying24 (hval 2 24 v2 rfl rfl)
    obtain ⟨fuel, hf⟩ := h2
    subst hv
    obtain ⟨A, cap, xs, e, h1, h2, h3⟩ := open_bytes_u Try.underlying24 Try.underlying5 (by kernel_rfl) hf (bulk_bound hk (by simp))
    simp [Value.cells] at e
    obtain ⟨rfl, rfl, rfl⟩ := e
    exact ⟨_, _, _, rfl, h1, h2, h3⟩
  clear hA0 hval0
  refine (walk W A0 c0 x0 hr0 hl0 hc0 A1 c1 x1 hr1 hl1 hc1 A2 c2 x2 hr2 hl2 hc2).mono fun e W' ⟨he, bel⟩ => ?_
  subst he
  exact ⟨_, rfl, _, _, _, [], _, [], hW', trodAll_mk1 (shut_bool Try.underlying4 _), (trodAll_cons_mk (Below.trod laidOut (by kernel_rfl) (of_decide_eq_true (by kernel_rfl)) k0 bel lt0) (trodAll_cons_mk (Below.trod laidOut (by kernel_rfl) (of_decide_eq_true (by kernel_rfl)) k1 bel lt1) (trodAll_cons_mk (Below.trod laidOut (by kernel_rfl) (of_decide_eq_true (by kernel_rfl)) k2 bel lt2) trodAll_mk0))), rfl, bel.frame _, fun h => by cases h⟩

theorem proved : Rows.PolyThroughBackUptoSaid :=
  OpenClaim.holds_of_cond 12 Try.f12 rfl rfl rfl rfl rfl rfl rfl ⟨rfl, rfl, rfl, rfl, rfl⟩ rfl rfl rfl rfl rfl (by kernel_rfl) Try.func12 (by kernel_rfl)
    (of_decide_eq_true (by kernel_rfl)) (by unfold Func.isWrapper; first | (rw [if_pos (by decide +kernel)]; kernel_rfl) | (rw [if_neg (by decide +kernel)]; exact ⟨rfl, rfl⟩))
    (fun os started H enc _ F => lifted os started H enc F)
#print axioms proved
end Go.Proofs.Ytemnlcfabaocbaa.polyThroughBack
