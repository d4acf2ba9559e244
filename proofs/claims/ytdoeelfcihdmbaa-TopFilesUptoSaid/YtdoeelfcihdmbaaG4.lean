/-
  Texts of mine, merged: MixG Turn Copy CrcP FormP StripeP GaussP Str CrcW Cut CodV CodW.
-/
import Derived.Test.YtdoeelfcihdmbaaG1
import Derived.Test.YtdoeelfcihdmbaaG2
import Derived.Test.YtdoeelfcihdmbaaG3
import Derived.Lib.SliceRun
import Derived.Defers
import Derived.Recover
/-
  Regions that draw their order, with operations under a guard that is met: as wp_region_mix.
-/
namespace Go.Proofs.Ytdoeelfcihdmbaa
namespace Grd
open Go.RowKit
set_option linter.unusedVariables false
section
variable {P : Program} {ops : Array Oper} {C : World → Prop} {L : Nat → Nat} {Q : Act → World → Prop}
def mOp (P : Program) (ops : Array Oper) (C : World → Prop) (L : Nat → Nat) (i : Nat) (K : Act → World → Prop) (a : Act) (w : World) : Prop :=
  ∃ o, ops[i]? = some o ∧ Region.wanted o (yielded ops a.tmps) = true ∧ ((isQ (L i) ∧ ∃ v, still P (cls C (L i)) o a v ∧ K (a.put o.dst v) w) ∨ (¬ isQ (L i) ∧ loudly P o a w (fun u w' => (L i = 1 → C w') ∧ K (a.put o.dst u) w')))
def wpM (P : Program) (ops : Array Oper) (C : World → Prop) (L : Nat → Nat) (Q : Act → World → Prop) : Nat → Array Bool → Act → World → Prop
  | 0, listed, a, w => Region.ready .any ops listed = [] ∧ Q a w
  | fuel + 1, listed, a, w => (Region.ready .any ops listed = [] → Q a w) ∧ ∀ i ∈ Region.ready .any ops listed, mOp P ops C L i (wpM P ops C L Q fuel (listed.setIfInBounds i true)) a w
structure Ordered (ops : Array Oper) (L : Nat → Nat) : Prop where
  last : ∀ (j : Nat), j < ops.size → ¬ isQ (L j) → L j ≠ 1 → ∀ i, i < ops.size → L i = 0 → reach ops ops.size j i = true
  prev : ∀ (j : Nat) (o : Oper), ops[j]? = some o → ¬ isQ (L j) → ∀ i, i < j → ¬ isQ (L i) → ∃ e ∈ o.after, Region.binds .any e = true ∧ i ≤ e.on ∧ e.on < j ∧ ¬ isQ (L e.on)
  sel : ∀ (j : Nat) (o : Oper) (cs : Array SelectCase) (b : Bool), ops[j]? = some o → o.op ≠ .select cs b

theorem first_still {i : Nat} {oi : Oper} {v : Value} (hO : Ordered ops L) (hi : ops[i]? = some oi) (hL : isQ (L i)) :
    ∀ (fuel : Nat) (listed : Array Bool) (a : Act) (w : World), listed.size = ops.size → Closed ops listed → (qleft ops L listed → C w) →
      (∀ j oj, ops[j]? = some oj → j ≠ i → listed.getD j true = false → (∀ e ∈ oj.after, Region.binds .any e = true → e.on ≠ i) → oi.apart ops oj = true) →
      i ∈ Region.ready .any ops listed → Region.wanted oi (yielded ops a.tmps) = true → still P (cls C (L i)) oi a v →
      wpM P ops C L Q fuel (listed.setIfInBounds i true) (a.put oi.dst v) w → wpM P ops C L Q (fuel + 1) listed a w := by
  have his : i < ops.size := (Array.getElem?_eq_some_iff.1 hi).1
  intro fuel
  induction fuel with
  | zero =>
    intro listed a w hz hcl hC hfree hr hwi hy H
    refine ⟨fun h => (by rw [h] at hr; cases hr), fun j hj => ?_⟩
    by_cases hji : j = i
    · subst hji; exact ⟨oi, hi, hwi, .inl ⟨hL, v, hy, H⟩⟩
    · have := ready_mono hj hji
      rw [H.1] at this
      cases this
  | succ fuel ih =>
    intro listed a w hz hcl hC hfree hr hwi hy H
    refine ⟨fun h => (by rw [h] at hr; cases hr), fun j hj => ?_⟩
    by_cases hji : j = i
    · subst hji; exact ⟨oi, hi, hwi, .inl ⟨hL, v, hy, H⟩⟩
    · obtain ⟨oj, hoj, hgj, hcase⟩ := H.2 j (ready_mono hj hji)
      have hun := (mem_ready.1 hr).1
      have hjun := (mem_ready.1 hj).1
      have hnot : ∀ e ∈ oj.after, Region.binds .any e = true → e.on ≠ i := fun e he hb heq => not_ready hoj ⟨e, he, hb, heq⟩ his hz hun hj
      obtain ⟨h1, h2, h3⟩ := Oper.apart_spec (hfree j oj hoj hji hjun hnot)
      have hsi := hO.sel i oi
      have hsj := hO.sel j oj
      have keep : ∀ u, still P (cls C (L i)) oi (a.put oj.dst u) v := fun u w hw => by rw [execOp_put oi (fun cs b => hsi cs b hi) a oj.dst u h3]; exact hy w hw
      have eqj : execOp a.eval oj = execOp (a.put oi.dst v).eval oj := (execOp_put oj (fun cs b => hsj cs b hoj) a oi.dst v h1).symm
      have hgj' : Region.wanted oj (yielded ops a.tmps) = true := by rw [← wanted_put oj a oi.dst v h1]; exact hgj
      have hwi' : ∀ u, Region.wanted oi (yielded ops (a.put oj.dst u).tmps) = true := fun u => by rw [wanted_put oi a oj.dst u h3]; exact hwi
      have hfree' : ∀ k ok, ops[k]? = some ok → k ≠ i → (listed.setIfInBounds j true).getD k true = false → (∀ e ∈ ok.after, Region.binds .any e = true → e.on ≠ i) → oi.apart ops ok = true := fun k ok hk hki hunk hno => by
        refine hfree k ok hk hki ?_ hno
        by_cases hjk : j = k
        · subst hjk; exact hjun
        · rwa [getD_set_ne true hjk] at hunk
      have hz' : (listed.setIfInBounds j true).size = ops.size := by simpa using hz
      have hr' := ready_mono hr (Ne.symm hji)
      rcases hcase with ⟨hl, u, hu, hn⟩ | ⟨hl, hn⟩
      · refine ⟨oj, hoj, hgj', .inl ⟨hl, u, fun w' hw' => by rw [eqj]; exact hu w' hw', ?_⟩⟩
        refine ih (listed.setIfInBounds j true) (a.put oj.dst u) w hz' (hcl.set hj) (fun h => hC (qleft_set h)) hfree' hr' (hwi' u) (keep u) ?_
        rw [Array.setIfInBounds_comm _ _ hji, ← Act.put_comm a v u h2]
        exact hn
      · have hjs : j < ops.size := (Array.getElem?_eq_some_iff.1 hoj).1
        refine ⟨oj, hoj, hgj', .inr ⟨hl, (loudly.of_same hn eqj).mono fun u w' ⟨hc, hn⟩ => ⟨hc, ?_⟩⟩⟩
        refine ih (listed.setIfInBounds j true) (a.put oj.dst u) w' hz' (hcl.set hj) (fun hq => ?_) hfree' hr' (hwi' u) (keep u) ?_
        · by_cases hl1 : L j = 1
          · exact hc hl1
          · obtain ⟨q, hq1, hq2, hq3⟩ := qleft_set hq
            exact (listed_both (by omega) (hcl.ready hj (hO.last j hjs hl hl1 q hq1 hq3)) hq2).elim
        · rw [Array.setIfInBounds_comm _ _ hji, ← Act.put_comm a v u h2]
          exact hn

theorem first_loud {i : Nat} {oi : Oper} (hO : Ordered ops L) (hi : ops[i]? = some oi) (hL : ¬ isQ (L i)) :
    ∀ (fuel : Nat) (listed : Array Bool) (a : Act) (w : World), listed.size = ops.size → Closed ops listed → (qleft ops L listed → C w) →
      (∀ j oj, ops[j]? = some oj → j ≠ i → listed.getD j true = false → (∀ e ∈ oj.after, Region.binds .any e = true → e.on ≠ i) → oi.apart ops oj = true) →
      (∀ j, j < i → ¬ isQ (L j) → listed.getD j true = true) → (∀ j, i ≤ j → j < ops.size → ¬ isQ (L j) → listed.getD j true = false) →
      i ∈ Region.ready .any ops listed →
      mOp P ops C L i (wpM P ops C L Q fuel (listed.setIfInBounds i true)) a w → wpM P ops C L Q (fuel + 1) listed a w := by
  have his : i < ops.size := (Array.getElem?_eq_some_iff.1 hi).1
  have quiet : ∀ (listed : Array Bool) (j : Nat), listed.size = ops.size → (∀ j, j < i → ¬ isQ (L j) → listed.getD j true = true) → (∀ j, i ≤ j → j < ops.size → ¬ isQ (L j) → listed.getD j true = false) →
      j ∈ Region.ready .any ops listed → j ≠ i → isQ (L j) := by
    intro listed j hz hlo hhi hj hji
    by_cases hz0 : isQ (L j)
    · exact hz0
    · exfalso
      obtain ⟨hun, oj, hoj, _⟩ := mem_ready.1 hj
      rcases Nat.lt_or_ge j i with h | h
      · rw [hlo j h hz0] at hun; cases hun
      · obtain ⟨e, he, hb, h1, h2, h3⟩ := hO.prev j oj hoj hz0 i (by omega) hL
        have hjs : j < ops.size := (Array.getElem?_eq_some_iff.1 hoj).1
        exact not_ready hoj ⟨e, he, hb, rfl⟩ (by omega) hz (hhi e.on h1 (by omega) h3) hj
  intro fuel
  induction fuel with
  | zero =>
    intro listed a w hz hcl hC hfree hlo hhi hr H
    refine ⟨fun h => (by rw [h] at hr; cases hr), fun j hj => ?_⟩
    by_cases hji : j = i
    · subst hji; exact H
    · have h1 := ready_mono hj hji
      obtain ⟨o, ho, hg, ⟨hl, _⟩ | ⟨hl, hn⟩⟩ := H
      · exact absurd hl hL
      · obtain ⟨u, w', _, hk⟩ := hn.some
        rw [hk.1] at h1
        cases h1
  | succ fuel ih =>
    intro listed a w hz hcl hC hfree hlo hhi hr H
    refine ⟨fun h => (by rw [h] at hr; cases hr), fun j hj => ?_⟩
    by_cases hji : j = i
    · subst hji; exact H
    · have hq := quiet listed j hz hlo hhi hj hji
      obtain ⟨hjun, oj, hoj, _⟩ := mem_ready.1 hj
      have hun := (mem_ready.1 hr).1
      have hjs : j < ops.size := (Array.getElem?_eq_some_iff.1 hoj).1
      have hCw : cls C (L j) w := fun h0 => hC ⟨j, hjs, hjun, h0⟩
      have hnot : ∀ e ∈ oj.after, Region.binds .any e = true → e.on ≠ i := fun e he hb heq => not_ready hoj ⟨e, he, hb, heq⟩ his hz hun hj
      obtain ⟨h1, h2, h3⟩ := Oper.apart_spec (hfree j oj hoj hji hjun hnot)
      have hsi := hO.sel i oi
      have hsj := hO.sel j oj
      have eqj : ∀ u, execOp (a.put oi.dst u).eval oj = execOp a.eval oj := fun u => execOp_put oj (fun cs b => hsj cs b hoj) a oi.dst u h1
      have eqi : ∀ u, execOp (a.put oj.dst u).eval oi = execOp a.eval oi := fun u => execOp_put oi (fun cs b => hsi cs b hi) a oj.dst u h3
      have hjr : j ∈ Region.ready .any ops (listed.setIfInBounds i true) := ready_mono hj hji
      obtain ⟨o, ho, hg, ⟨hl, _⟩ | ⟨hl, hn⟩⟩ := H
      · exact absurd hl hL
      · rw [hi] at ho
        injection ho with ho
        subst ho
        -- what j reads, whatever i came to
        have pick : ∀ u w', wpM P ops C L Q (fuel + 1) (listed.setIfInBounds i true) (a.put oi.dst u) w' → ∃ v, Region.wanted oj (yielded ops a.tmps) = true ∧ still P (cls C (L j)) oj a v ∧ wpM P ops C L Q fuel ((listed.setIfInBounds i true).setIfInBounds j true) ((a.put oi.dst u).put oj.dst v) w' := fun u w' hk => by
          obtain ⟨o', ho', hw', ⟨_, v, hv, hk'⟩ | ⟨hl', _⟩⟩ := hk.2 j hjr
          · rw [hoj] at ho'
            injection ho' with ho'
            subst ho'
            exact ⟨v, by rw [← wanted_put oj a oi.dst u h1]; exact hw', fun w'' hw'' => by rw [← eqj u]; exact hv w'' hw'', hk'⟩
          · exact absurd hq hl'
        obtain ⟨u1, w1, _, hk1⟩ := hn.some
        obtain ⟨v, hwj, hv, _⟩ := pick u1 w1 hk1
        refine ⟨oj, hoj, hwj, .inl ⟨hq, v, hv, ?_⟩⟩
        have hz' : (listed.setIfInBounds j true).size = ops.size := by simpa using hz
        refine ih (listed.setIfInBounds j true) (a.put oj.dst v) w hz' (hcl.set hj) (fun h => hC (qleft_set h)) ?_ ?_ ?_ (ready_mono hr (Ne.symm hji)) ⟨oi, hi, by rw [wanted_put oi a oj.dst v h3]; exact hg, .inr ⟨hl, ?_⟩⟩
        · intro k ok hk hki hunk hno
          refine hfree k ok hk hki ?_ hno
          by_cases hjk : j = k
          · subst hjk; exact hjun
          · rwa [getD_set_ne true hjk] at hunk
        · intro k hk hlk
          have hjk : j ≠ k := fun e => by subst e; exact hlk hq
          rw [getD_set_ne true hjk]
          exact hlo k hk hlk
        · intro k hk hks hlk
          have hjk : j ≠ k := fun e => by subst e; exact hlk hq
          rw [getD_set_ne true hjk]
          exact hhi k hk hks hlk
        · refine (loudly.of_same hn (eqi v)).mono fun u w' ⟨hc, hk⟩ => ⟨hc, ?_⟩
          obtain ⟨v', _, hv', hk'⟩ := pick u w' hk
          have e : v' = v := by
            have e1 := hv w hCw
            rw [hv' w hCw] at e1
            injection e1 with e1
            injection e1
          subst e
          rw [Array.setIfInBounds_comm _ _ hji, ← Act.put_comm a u v' (fun d hd => h2 d hd)]
          exact hk'

def orderedB (ops : Array Oper) (L : Nat → Nat) : Bool :=
  Region.noSelect ops &&
  (List.range ops.size).all (fun j => match ops[j]? with
    | none => true
    | some o => (decide (isQ (L j)) || decide (L j = 1) || (List.range ops.size).all (fun i => decide (L i ≠ 0) || reach ops ops.size j i)) &&
      (decide (isQ (L j)) || (List.range j).all (fun i => decide (isQ (L i)) || o.after.any (fun e => Region.binds .any e && decide (i ≤ e.on) && decide (e.on < j) && decide (¬ isQ (L e.on))))))
theorem ordered_of (h : orderedB ops L = true) : Ordered ops L := by
  simp only [orderedB, Bool.and_eq_true, List.all_eq_true, List.mem_range] at h
  obtain ⟨hs, hj⟩ := h
  have at_ : ∀ (j : Nat) (o : Oper), ops[j]? = some o → j < ops.size := fun j o ho => (Array.getElem?_eq_some_iff.1 ho).1
  refine ⟨fun j hjs hl hl1 i hi hli => ?_, fun j o ho hl i hi hli => ?_, fun j o cs b ho => Region.noSelect_spec hs j o cs b ho⟩
  · have := hj j hjs
    rw [Array.getElem?_eq_getElem hjs] at this
    simp only [Bool.and_eq_true, Bool.or_eq_true, decide_eq_true_eq, List.all_eq_true, List.mem_range] at this
    rcases this.1 with (h1 | h1) | h1
    · exact absurd h1 hl
    · exact absurd h1 hl1
    · rcases h1 i hi with h2 | h2
      · exact absurd hli h2
      · exact h2
  · have := hj j (at_ j o ho)
    rw [ho] at this
    simp only [Bool.and_eq_true, Bool.or_eq_true, decide_eq_true_eq, List.all_eq_true, List.mem_range] at this
    rcases this.2 with h1 | h1
    · exact absurd h1 hl
    · rcases h1 i hi with h2 | h2
      · exact absurd h2 hli
      · obtain ⟨e, he, hb⟩ := Array.any_eq_true'.1 h2
        simp only [Bool.and_eq_true, decide_eq_true_eq] at hb
        exact ⟨e, he, hb.1.1.1, hb.1.1.2, hb.1.2, hb.2⟩
/-- The walk of the text's order. -/
def wpMix (P : Program) (ops : Array Oper) (C : World → Prop) (L : Nat → Nat) (Q : Act → World → Prop) : Nat → List Oper → Act → World → Prop
  | _, [], a, w => Q a w
  | k, o :: rest, a, w => Region.wanted o (yielded ops a.tmps) = true ∧ ((isQ (L k) ∧ ∃ v, still P (cls C (L k)) o a v ∧ wpMix P ops C L Q (k + 1) rest (a.put o.dst v) w) ∨
      (¬ isQ (L k) ∧ loudly P o a w (fun u w' => (L k = 1 → C w') ∧ wpMix P ops C L Q (k + 1) rest (a.put o.dst u) w')))
theorem no_qleft (hO : Ordered ops L) {listed : Array Bool} {k : Nat} (hz : listed.size = ops.size) (hcl : Closed ops listed) (hr : k ∈ Region.ready .any ops listed) (hk : ¬ isQ (L k)) (hk1 : L k ≠ 1) : ¬ qleft ops L listed := by
  rintro ⟨j, hj, hun, hq⟩
  obtain ⟨_, o, ho, _⟩ := mem_ready.1 hr
  exact listed_both (by omega) (hcl.ready hr (hO.last k (Array.getElem?_eq_some_iff.1 ho).1 hk hk1 j hj hq)) hun
theorem wpM_lex (hO : Ordered ops L) : ∀ (l : List Oper) (k : Nat) (listed : Array Bool) (a : Act) (w : World), (∀ j, l[j]? = ops[k + j]?) → Region.lexFrom .any ops l.length k listed = true → listed.size = ops.size → Closed ops listed →
    (∀ j, j < k → j < ops.size → listed.getD j true = true) → (∀ j, k ≤ j → j < ops.size → listed.getD j true = false) → (qleft ops L listed → C w) →
    wpMix P ops C L Q k l a w → wpM P ops C L Q l.length listed a w
  | [], _, _, _, _, _, hB, _, _, _, _, _, h => ⟨by simpa [Region.lexFrom] using hB, h⟩
  | o :: l, k, listed, a, w, hl, hB, hz, hcl, hlo, hhi, hC, h => by
    have h0 : ops[k]? = some o := by simpa using (hl 0).symm
    have hks : k < ops.size := (Array.getElem?_eq_some_iff.1 h0).1
    simp only [List.length_cons, Region.lexFrom, Bool.and_eq_true] at hB
    obtain ⟨⟨hr, hf⟩, hB'⟩ := hB
    have hr : k ∈ Region.ready .any ops listed := by simpa using hr
    have hfree := Region.free_spec h0 hf
    have hl' : ∀ j, l[j]? = ops[k + 1 + j]? := fun j => by have := hl (j + 1); simpa [Nat.add_assoc, Nat.add_comm 1 j] using this
    have hz' : (listed.setIfInBounds k true).size = ops.size := by simpa using hz
    have hlo' : ∀ j, j < k + 1 → j < ops.size → (listed.setIfInBounds k true).getD j true = true := fun j hj hjs => by
      by_cases e : k = j
      · subst e; simp [Array.getD, hz, hks]
      · rw [getD_set_ne true e]; exact hlo j (by omega) hjs
    have hhi' : ∀ j, k + 1 ≤ j → j < ops.size → (listed.setIfInBounds k true).getD j true = false := fun j hj hjs => by
      rw [getD_set_ne true (by omega)]; exact hhi j (by omega) hjs
    obtain ⟨hw, h⟩ := h
    rcases h with ⟨hL, v, hv, hn⟩ | ⟨hL, hn⟩
    · exact first_still hO h0 hL l.length listed a w hz hcl hC hfree hr hw hv (wpM_lex hO l (k + 1) _ _ w hl' hB' hz' (hcl.set hr) hlo' hhi' (fun h => hC (qleft_set h)) hn)
    · refine first_loud hO h0 hL l.length listed a w hz hcl hC hfree (fun j hj _ => ?_) (fun j hj hjs _ => hhi j hj hjs) hr ⟨o, h0, hw, .inr ⟨hL, hn.mono fun u w' ⟨hc, hn'⟩ => ⟨hc, ?_⟩⟩⟩
      · exact hlo j hj (by omega)
      · refine wpM_lex hO l (k + 1) _ _ w' hl' hB' hz' (hcl.set hr) hlo' hhi' (fun h => ?_) hn'
        by_cases h2 : L k = 1
        · exact hc h2
        · exact absurd (qleft_set h) (no_qleft hO hz hcl hr hL h2)
theorem any_of_M (hO : Ordered ops L) {Q' : Exit → Act → World → Prop} (hQ : ∀ a w, Q a w → Q' .normal a w) : ∀ (fuel : Nat) (listed : Array Bool) (a : Act) (w : World), listed.size = ops.size → Closed ops listed → (qleft ops L listed → C w) →
    wpM P ops C L Q fuel listed a w → wpAny P .any ops Q' fuel listed a w
  | 0, _, _, _, _, _, _, h => ⟨h.1, hQ _ _ h.2⟩
  | fuel + 1, listed, a, w, hz, hcl, hC, h => by
    refine ⟨fun h0 => hQ _ _ (h.1 h0), fun i hi => ?_⟩
    obtain ⟨o, ho, hg, hcase⟩ := h.2 i hi
    unfold wpOp
    simp only [ho, hg, if_true]
    have hz' : (listed.setIfInBounds i true).size = ops.size := by simpa using hz
    rcases hcase with ⟨hL, v, hv, hn⟩ | ⟨hL, hn⟩
    · have his : i < ops.size := (Array.getElem?_eq_some_iff.1 ho).1
      have hun := (mem_ready.1 hi).1
      refine .inl ?_
      unfold Oper.wp
      rw [hv w (fun h0 => hC ⟨i, his, hun, h0⟩)]
      exact any_of_M hO hQ fuel _ _ w hz' (hcl.set hi) (fun h => hC (qleft_set h)) hn
    · refine .inl ((hn.mono fun u w' ⟨hc, hn'⟩ => ?_ : loudly P o a w (fun u w' => wpAny P .any ops Q' fuel (listed.setIfInBounds i true) (a.put o.dst u) w')).wp)
      refine any_of_M hO hQ fuel _ _ w' hz' (hcl.set hi) (fun h => ?_) hn'
      by_cases h2 : L i = 1
      · exact hc h2
      · exact absurd (qleft_set h) (no_qleft hO hz hcl hi hL h2)
/-- THE REGION. -/
theorem wp_region_mix {id : Nat} {Q' : Exit → Act → World → Prop} {a : Act} {w : World} {l : List Oper} (L : Nat → Nat) (C : World → Prop) (hm : P.follows .mixedOrders = true) (hB : Region.lexB .any l.toArray = true) (hO : orderedB l.toArray L = true) (hC : C w.drew)
    (h : wpMix P l.toArray C L (fun a w => Q' .normal a w) 0 l a w.drew) : (Code.region id l.toArray true).wp P Q' a w := by
  simp only [Region.lexB, Bool.and_eq_true] at hB
  have hcl0 : Closed l.toArray (Array.replicate l.toArray.size false) := fun j o ho hj => by
    simp [Array.getD] at hj
  refine wp_region_any hm (any_of_M (ordered_of hO) (C := C) (Q := fun a w => Q' .normal a w) (fun _ _ h => h) _ _ _ _ (by simp) hcl0 (fun _ => hC) ?_)
  have := wpM_lex (ops := l.toArray) (P := P) (C := C) (Q := fun a w => Q' .normal a w) (ordered_of hO) l 0 (Array.replicate l.toArray.size false) a w.drew (by simp) (by simpa using hB.2) (by simp) hcl0 (by intro j hj; omega)
    (by intro j _ hj; simp at hj; simp [Array.getD, hj]) (fun _ => hC) h
  simpa using this
theorem mix_nil {k : Nat} {a : Act} {w : World} (h : Q a w) : wpMix P ops C L Q k [] a w := h
theorem mix_still {k : Nat} {o : Oper} {rest : List Oper} {a : Act} {w : World} (v : Value) (hL : L k = 0) (hg : Region.wanted o (yielded ops a.tmps) = true) (hv : ∀ w, C w → (execOp a.eval o).run P w = .ok (.value v) w) (h : wpMix P ops C L Q (k + 1) rest (a.put o.dst v) w) :
    wpMix P ops C L Q k (o :: rest) a w := ⟨hg, .inl ⟨.inl hL, v, fun w hw => hv w (hw hL), h⟩⟩
theorem mix_pure {k : Nat} {o : Oper} {rest : List Oper} {a : Act} {w : World} (v : Value) (hL : L k = 3) (hg : Region.wanted o (yielded ops a.tmps) = true) (hv : ∀ w, (execOp a.eval o).run P w = .ok (.value v) w) (h : wpMix P ops C L Q (k + 1) rest (a.put o.dst v) w) :
    wpMix P ops C L Q k (o :: rest) a w := ⟨hg, .inl ⟨.inr hL, v, fun w _ => hv w, h⟩⟩
theorem mix_call {k : Nat} {o : Oper} {rest : List Oper} {a : Act} {w : World} (f : FuncId) (args : Array Value) (hL : L k = 1) (hg : Region.wanted o (yielded ops a.tmps) = true) (hr : (execOp a.eval o).run P w = .ok (.enter f args) w)
    (h : Calls P f args w fun e w' => ∃ u, e = .returned u ∧ C w' ∧ wpMix P ops C L Q (k + 1) rest (a.put o.dst u) w') : wpMix P ops C L Q k (o :: rest) a w :=
  ⟨hg, .inr ⟨by unfold isQ; omega, .inr (.inr ⟨f, args, w, hr, h.mono fun e w' ⟨u, he, hc, hn⟩ => ⟨u, he, fun _ => hc, hn⟩⟩)⟩⟩
end
end Grd
end Go.Proofs.Ytdoeelfcihdmbaa
/-
  A list of the call's own whose elements are turned one by one in their place.
-/
namespace Go.Proofs.Ytdoeelfcihdmbaa
open Go.RowKit Gf
set_option linter.unusedVariables false

section
variable {w0 w : World} {B : Nat} {T : TypeId} {v : Value} {f : Value → Value} {xs : List Value} {k : Nat}
end
end Go.Proofs.Ytdoeelfcihdmbaa
/-
  Layer 5: the walk of the laws' copied; groups of rows that lie between two sizes of the world.
-/
namespace Go.Proofs.Ytdoeelfcihdmbaa
open Go.RowKit Gf
set_option maxRecDepth 20000
set_option linter.unusedVariables false

section
variable {w w' : World} {lo hi : Nat} {v : Value} {V : List Value} {rs : List (List E)}
end
end Go.Proofs.Ytdoeelfcihdmbaa
/-
  Layer 6, plain: the sum of bytes, bit by bit and by halves of a byte; numbers as bytes, the lowest first.
-/
namespace Go.Proofs.Ytdoeelfcihdmbaa
open Go.RowKit Gf
set_option linter.unusedVariables false

/-- One bit. -/
def cstep (r : Nat) : Nat := if r.testBit 0 then (r >>> 1) ^^^ 2197175160 else r >>> 1
def cstepN : Nat → Nat → Nat
  | 0, r => r
  | k + 1, r => cstepN k (cstep r)
theorem cstep_lt {r : Nat} (h : r < 2 ^ 32) : cstep r < 2 ^ 32 := by
  have h1 : r >>> 1 < 2 ^ 32 := by rw [Nat.shiftRight_eq_div_pow]; omega
  unfold cstep
  split
  · exact Nat.xor_lt_two_pow h1 (by decide)
  · exact h1
theorem cstepN_lt : ∀ (k : Nat) {r : Nat}, r < 2 ^ 32 → cstepN k r < 2 ^ 32
  | 0, _, h => h
  | k + 1, _, h => cstepN_lt k (cstep_lt h)
theorem cstep_xor (a b : Nat) : cstep (a ^^^ b) = cstep a ^^^ cstep b := by
  unfold cstep
  rw [Nat.testBit_xor, Nat.shiftRight_xor_distrib]
  cases ha : a.testBit 0 <;> cases hb : b.testBit 0 <;> simp
  · rw [Nat.xor_assoc]
  · rw [Nat.xor_assoc, Nat.xor_comm (b >>> 1), ← Nat.xor_assoc]
  · rw [Nat.xor_assoc (a >>> 1), Nat.xor_comm (b >>> 1), ← Nat.xor_assoc 2197175160, Nat.xor_self, Nat.zero_xor]
theorem cstepN_xor : ∀ (k a b : Nat), cstepN k (a ^^^ b) = cstepN k a ^^^ cstepN k b
  | 0, _, _ => rfl
  | k + 1, a, b => by rw [cstepN, cstep_xor, cstepN_xor k]; rfl
theorem cstep_double (q : Nat) : cstep (q <<< 1) = q := by
  unfold cstep
  rw [Nat.testBit_shiftLeft]
  simp [Nat.shiftLeft_shiftRight]
theorem cstepN_shift : ∀ (k q : Nat), cstepN k (q <<< k) = q
  | 0, q => by simp [cstepN]
  | k + 1, q => by
    rw [cstepN, Nat.shiftLeft_add, cstep_double, cstepN_shift k]
theorem split4 (r : Nat) : r = ((r >>> 4) <<< 4) ^^^ (r % 16) := by
  apply Nat.eq_of_testBit_eq
  intro i
  rw [Nat.testBit_xor, Nat.testBit_shiftLeft, Nat.testBit_shiftRight, show (16 : Nat) = 2 ^ 4 from rfl, Nat.testBit_mod_two_pow]
  by_cases h : 4 ≤ i
  · simp [h, show ¬ i < 4 by omega, show 4 + (i - 4) = i by omega]
  · simp [h, show i < 4 by omega]
/-- Four bits at once. -/
theorem step4 (r : Nat) : cstepN 4 r = (r >>> 4) ^^^ cstepN 4 (r % 16) := by
  conv => lhs; rw [split4 r, cstepN_xor, cstepN_shift]
theorem cstepN_add : ∀ (j k r : Nat), cstepN (j + k) r = cstepN k (cstepN j r)
  | 0, k, r => by rw [Nat.zero_add]; rfl
  | j + 1, k, r => by rw [Nat.succ_add]; exact cstepN_add j k (cstep r)
def cbyte (r : Nat) (x : E) : Nat := cstepN 8 (r ^^^ x.val)
theorem cbyte_halves (r : Nat) (x : E) : cbyte r x = cstepN 4 (cstepN 4 (r ^^^ x.val)) := cstepN_add 4 4 _
def creg (r : Nat) (xs : List E) : Nat := xs.foldl cbyte r
theorem creg_snoc (r : Nat) (xs : List E) (x : E) : creg r (xs ++ [x]) = cbyte (creg r xs) x := by simp [creg]
theorem creg_append (r : Nat) (xs ys : List E) : creg r (xs ++ ys) = creg (creg r xs) ys := by simp [creg]
theorem cbyte_lt {r : Nat} (h : r < 2 ^ 32) (x : E) : cbyte r x < 2 ^ 32 := cstepN_lt 8 (Nat.xor_lt_two_pow h (by have := x.lt; omega))
theorem creg_lt : ∀ (xs : List E) {r : Nat}, r < 2 ^ 32 → creg r xs < 2 ^ 32
  | [], _, h => h
  | x :: xs, _, h => creg_lt xs (cbyte_lt h x)
def full32 : Nat := 4294967295
/-- The sum of what comes behind bytes whose sum is known. -/
def crcM (s : Nat) (xs : List E) : Nat := creg (s ^^^ full32) xs ^^^ full32
def crcS (xs : List E) : Nat := crcM 0 xs
theorem crcM_lt {s : Nat} (h : s < 2 ^ 32) (xs : List E) : crcM s xs < 2 ^ 32 := Nat.xor_lt_two_pow (creg_lt xs (Nat.xor_lt_two_pow h (by decide))) (by decide)
theorem crcS_lt (xs : List E) : crcS xs < 2 ^ 32 := crcM_lt (by decide) xs
theorem crcM_append (s : Nat) (xs ys : List E) : crcM (crcM s xs) ys = crcM s (xs ++ ys) := by
  unfold crcM
  rw [Nat.xor_assoc, Nat.xor_self, Nat.xor_zero, creg_append]
theorem crcM_crcS (xs ys : List E) : crcM (crcS xs) ys = crcS (xs ++ ys) := crcM_append 0 xs ys

/-- A number as n bytes, the lowest first. -/
def le : Nat → Nat → List E
  | 0, _ => []
  | n + 1, v => E.of (v % 256) :: le n (v / 256)
def num : List E → Nat
  | [] => 0
  | x :: xs => x.val + 256 * num xs
theorem le_length : ∀ (n v : Nat), (le n v).length = n
  | 0, _ => rfl
  | n + 1, v => by rw [le, List.length_cons, le_length n]
theorem num_le : ∀ (n v : Nat), num (le n v) = v % 256 ^ n
  | 0, v => by simp [le, num, Nat.mod_one]
  | n + 1, v => by
    rw [le, num, num_le n, E.val_of (Nat.mod_lt _ (by decide)), Nat.pow_succ, Nat.mul_comm (256 ^ n), Nat.mod_mul]
theorem le_num : ∀ (xs : List E), le xs.length (num xs) = xs
  | [] => rfl
  | x :: xs => by
    have h := x.lt
    rw [List.length_cons, le, num]
    have h1 : (x.val + 256 * num xs) % 256 = x.val := by omega
    have h2 : (x.val + 256 * num xs) / 256 = num xs := by omega
    rw [h1, h2, le_num xs]
    congr 1
    exact E.ext (E.val_of h)
theorem num_lt : ∀ (xs : List E), num xs < 256 ^ xs.length
  | [] => by decide
  | x :: xs => by
    have h := x.lt
    have h2 := num_lt xs
    rw [num, List.length_cons, Nat.pow_succ]
    omega
theorem le_get : ∀ (n v i : Nat), i < n → (le n v)[i]? = some (E.of (v / 256 ^ i % 256))
  | 0, _, _, h => absurd h (Nat.not_lt_zero _)
  | n + 1, v, 0, _ => by simp [le]
  | n + 1, v, i + 1, h => by
    rw [le, List.getElem?_cons_succ, le_get n (v / 256) i (by omega), Nat.div_div_eq_div_mul, Nat.pow_succ, Nat.mul_comm]
theorem le_snoc (n v : Nat) : le (n + 1) v = le n v ++ [E.of (v / 256 ^ n % 256)] := by
  apply List.ext_getElem?
  intro i
  rcases Nat.lt_trichotomy i n with h | h | h
  · rw [le_get _ _ _ (by omega), List.getElem?_append_left (by rw [le_length]; exact h), le_get _ _ _ h]
  · subst h
    rw [le_get _ _ _ (by omega), List.getElem?_append_right (by rw [le_length]; exact Nat.le_refl _), le_length]; simp
  · rw [List.getElem?_eq_none (by rw [le_length]; omega), List.getElem?_eq_none (by rw [List.length_append, le_length]; simp; omega)]
end Go.Proofs.Ytdoeelfcihdmbaa
/-
  Layer 8, plain: the bytes of a shard, and what is read out of bytes.
-/
namespace Go.Proofs.Ytdoeelfcihdmbaa
open Go.RowKit Gf
set_option linter.unusedVariables false

structure HeadP where
  store : List E
  k : Nat
  m : Nat
  blk : Nat
  key : List E
  size : Nat
  idx : Nat
  epoch : Nat
  count : Nat
def magicP : List E := [E.of 67, E.of 82, E.of 78, E.of 2]
def fixedP (h : HeadP) : List E := magicP ++ (h.store ++ (le 1 h.k ++ (le 1 h.m ++ (le 4 h.blk ++ (le 4 h.size ++ (le 1 h.idx ++ (le 4 h.epoch ++ (le 4 h.count ++ le 1 h.key.length))))))))
def sumP (h : HeadP) : Nat := crcS (fixedP h ++ h.key)
def headBytesP (h : HeadP) : List E := fixedP h ++ (le 4 (crcS (fixedP h)) ++ (h.key ++ le 4 (sumP h)))
def stripesP (k blk size : Nat) : Nat := (size + k * blk - 1) / (k * blk)
def sizesP (k blk size : Nat) : List Nat := (List.range (stripesP k blk size)).map fun i => if i + 1 = stripesP k blk size ∧ 0 < size % (k * blk) then (size % (k * blk) + k - 1) / k else blk
def okShape (k m blk : Nat) : Prop := 1 ≤ m ∧ m ≤ k ∧ k + m ≤ 255 ∧ 1 ≤ blk ∧ blk ≤ 65536
instance (k m blk : Nat) : Decidable (okShape k m blk) := by unfold okShape; infer_instance
def okHead (h : HeadP) : Prop := okShape h.k h.m h.blk ∧ 1 ≤ h.key.length ∧ h.key.length ≤ 255 ∧ h.size ≤ 1048576 ∧ stripesP h.k h.blk h.size ≤ 4096 ∧ h.idx < h.k + h.m ∧ 1 ≤ h.epoch ∧ h.epoch ≤ 4294967295 ∧ 1 ≤ h.count ∧ h.count ≤ 4294967295
instance (h : HeadP) : Decidable (okHead h) := by unfold okHead; infer_instance
/-- A frame: a block and its sum. -/
def frameSum (sum j : Nat) (block : List E) : Nat := crcS (le 4 sum ++ (le 4 j ++ block))
def framesF (sum : Nat) : Nat → List (List E) → List E
  | _, [] => []
  | j, x :: xs => x ++ (le 4 (frameSum sum j x) ++ framesF sum (j + 1) xs)
def formP (h : HeadP) (blocks : List (List E)) : List E := headBytesP h ++ framesF (sumP h) 0 blocks
/-- A number of n bytes at a place. -/
def fld (b : List E) (at_ n : Nat) : Nat := num ((b.drop at_).take n)
def headOfP (b : List E) : HeadP :=
  { store := (b.drop 4).take 8, k := fld b 12 1, m := fld b 13 1, blk := fld b 14 4, key := (b.drop 36).take (fld b 31 1), size := fld b 18 4, idx := fld b 22 1, epoch := fld b 23 4, count := fld b 27 4 }
def parseHeadP (b : List E) : Option HeadP :=
  if b.length < 36 then none
  else if b.take 4 ≠ magicP then none
  else if fld b 32 4 ≠ crcS (b.take 32) then none
  else if b.length < 40 + fld b 31 1 then none
  else if fld b (36 + fld b 31 1) 4 ≠ crcS (b.take 32 ++ (b.drop 36).take (fld b 31 1)) then none
  else if okHead (headOfP b) then some (headOfP b) else none
def framesP (sum : Nat) : Nat → List Nat → List E → Option (List (List E))
  | _, [], b => if b.length = 0 then some [] else none
  | j, n :: ns, b => if b.length < n + 4 then none else if fld b n 4 ≠ frameSum sum j (b.take n) then none else (framesP sum (j + 1) ns (b.drop (n + 4))).map (b.take n :: ·)
def parseP (b : List E) : Option (HeadP × List (List E)) :=
  (parseHeadP b).bind fun h => (framesP (crcS (b.take 32 ++ h.key)) 0 (sizesP h.k h.blk h.size) (b.drop (40 + h.key.length))).map fun l => (h, l)

theorem fld_mid (a c : List E) (n v : Nat) (at_ : Nat) (ha : a.length = at_) : fld (a ++ (le n v ++ c)) at_ n = v % 256 ^ n := by
  subst ha
  rw [fld, List.drop_left, List.take_append_of_le_length (by rw [le_length]; exact Nat.le_refl _), List.take_of_length_le (by rw [le_length]; exact Nat.le_refl _), num_le]
theorem fixedP_length {h : HeadP} (hs : h.store.length = 8) : (fixedP h).length = 32 := by
  simp only [fixedP, List.length_append, le_length, hs]; rfl
theorem sumP_lt (h : HeadP) : sumP h < 2 ^ 32 := crcS_lt _
theorem take_app {α : Type} (a c : List α) (n : Nat) (h : a.length = n) : (a ++ c).take n = a := by subst h; exact List.take_left
theorem drop_app {α : Type} (a c : List α) (n : Nat) (h : a.length = n) : (a ++ c).drop n = c := by subst h; exact List.drop_left
theorem fields_of (h : HeadP) (c : List E) (hs : h.store.length = 8) (hk : h.k < 256) (hm : h.m < 256) (hb : h.blk < 4294967296) (hz : h.size < 4294967296) (hi : h.idx < 256) (he : h.epoch < 4294967296) (hc : h.count < 4294967296) (hl : h.key.length < 256) :
    ((fixedP h ++ c).drop 4).take 8 = h.store ∧ fld (fixedP h ++ c) 12 1 = h.k ∧ fld (fixedP h ++ c) 13 1 = h.m ∧ fld (fixedP h ++ c) 14 4 = h.blk ∧ fld (fixedP h ++ c) 18 4 = h.size ∧ fld (fixedP h ++ c) 22 1 = h.idx ∧
    fld (fixedP h ++ c) 23 4 = h.epoch ∧ fld (fixedP h ++ c) 27 4 = h.count ∧ fld (fixedP h ++ c) 31 1 = h.key.length := by
  have hmg : magicP.length = 4 := rfl
  have key : ∀ (a : List E) (n v at_ : Nat) (d : List E), fixedP h ++ c = a ++ (le n v ++ d) → a.length = at_ → v < 256 ^ n → fld (fixedP h ++ c) at_ n = v := fun a n v at_ d e ha hv => by
    rw [e, fld_mid a d n v at_ ha, Nat.mod_eq_of_lt hv]
  refine ⟨?_, ?_, ?_, ?_, ?_, ?_, ?_, ?_, ?_⟩
  · rw [fixedP, List.append_assoc, drop_app _ _ 4 hmg, List.append_assoc, take_app _ _ 8 hs]
  · exact key (magicP ++ h.store) 1 h.k 12 _ (by simp only [fixedP, List.append_assoc]; rfl) (by simp [hmg, hs]) (by omega)
  · exact key (magicP ++ (h.store ++ le 1 h.k)) 1 h.m 13 _ (by simp only [fixedP, List.append_assoc]; rfl) (by simp [hmg, hs, le_length]) (by omega)
  · exact key (magicP ++ (h.store ++ (le 1 h.k ++ le 1 h.m))) 4 h.blk 14 _ (by simp only [fixedP, List.append_assoc]; rfl) (by simp [hmg, hs, le_length]) (by omega)
  · exact key (magicP ++ (h.store ++ (le 1 h.k ++ (le 1 h.m ++ le 4 h.blk)))) 4 h.size 18 _ (by simp only [fixedP, List.append_assoc]; rfl) (by simp [hmg, hs, le_length]) (by omega)
  · exact key (magicP ++ (h.store ++ (le 1 h.k ++ (le 1 h.m ++ (le 4 h.blk ++ le 4 h.size))))) 1 h.idx 22 _ (by simp only [fixedP, List.append_assoc]; rfl) (by simp [hmg, hs, le_length]) (by omega)
  · exact key (magicP ++ (h.store ++ (le 1 h.k ++ (le 1 h.m ++ (le 4 h.blk ++ (le 4 h.size ++ le 1 h.idx)))))) 4 h.epoch 23 _ (by simp only [fixedP, List.append_assoc]; rfl) (by simp [hmg, hs, le_length]) (by omega)
  · exact key (magicP ++ (h.store ++ (le 1 h.k ++ (le 1 h.m ++ (le 4 h.blk ++ (le 4 h.size ++ (le 1 h.idx ++ le 4 h.epoch))))))) 4 h.count 27 _ (by simp only [fixedP, List.append_assoc]; rfl) (by simp [hmg, hs, le_length]) (by omega)
  · exact key (magicP ++ (h.store ++ (le 1 h.k ++ (le 1 h.m ++ (le 4 h.blk ++ (le 4 h.size ++ (le 1 h.idx ++ (le 4 h.epoch ++ le 4 h.count)))))))) 1 h.key.length 31 _ (by simp only [fixedP, List.append_assoc]; rfl) (by simp [hmg, hs, le_length]) (by omega)
theorem framesF_length (sum : Nat) : ∀ (j : Nat) (l : List (List E)), (framesF sum j l).length = (l.map fun x => x.length + 4).sum
  | _, [] => rfl
  | j, x :: xs => by rw [framesF, List.length_append, List.length_append, le_length, framesF_length sum (j + 1) xs, List.map_cons, List.sum_cons]; omega
theorem framesP_F (sum : Nat) : ∀ (j : Nat) (l : List (List E)) (ns : List Nat), l.map List.length = ns → framesP sum j ns (framesF sum j l) = some l
  | j, [], ns, h => by
    subst h; rfl
  | j, x :: xs, ns, h => by
    subst h
    rw [List.map_cons, framesP, framesF]
    have h1 : ¬ (x ++ (le 4 (frameSum sum j x) ++ framesF sum (j + 1) xs)).length < x.length + 4 := by rw [List.length_append, List.length_append, le_length]; omega
    rw [if_neg h1, fld_mid _ _ 4 _ _ rfl, List.take_left]
    have h2 : frameSum sum j x % 256 ^ 4 = frameSum sum j x := Nat.mod_eq_of_lt (crcS_lt _)
    rw [h2, if_neg (by simp)]
    have h3 : (x ++ (le 4 (frameSum sum j x) ++ framesF sum (j + 1) xs)).drop (x.length + 4) = framesF sum (j + 1) xs := by
      rw [← List.append_assoc]
      exact drop_app _ _ _ (by rw [List.length_append, le_length])
    rw [h3, framesP_F sum (j + 1) xs _ rfl]; rfl
theorem okHead.small {h : HeadP} (ho : okHead h) : h.k < 256 ∧ h.m < 256 ∧ h.blk < 4294967296 ∧ h.size < 4294967296 ∧ h.idx < 256 ∧ h.epoch < 4294967296 ∧ h.count < 4294967296 ∧ h.key.length < 256 := by
  obtain ⟨⟨a1, a2, a3, a4, a5⟩, a6, a7, a8, a9, b1, b2, b3, b4, b5⟩ := ho
  refine ⟨by omega, by omega, by omega, by omega, by omega, by omega, by omega, by omega⟩
/-- What was written is read. -/
theorem parse_form {h : HeadP} {l : List (List E)} (ho : okHead h) (hs : h.store.length = 8) (hl : l.map List.length = sizesP h.k h.blk h.size) : parseP (formP h l) = some (h, l) := by
  obtain ⟨c1, c2, c3, c4, c5, c6, c7, c8⟩ := ho.small
  have hf := fixedP_length hs
  obtain ⟨b, hb⟩ : ∃ b, b = formP h l := ⟨_, rfl⟩
  have e1 : b = fixedP h ++ (le 4 (crcS (fixedP h)) ++ (h.key ++ (le 4 (sumP h) ++ framesF (sumP h) 0 l))) := by rw [hb, formP, headBytesP]; simp only [List.append_assoc]
  obtain ⟨f1, f2, f3, f4, f5, f6, f7, f8, f9⟩ := fields_of h (le 4 (crcS (fixedP h)) ++ (h.key ++ (le 4 (sumP h) ++ framesF (sumP h) 0 l))) hs c1 c2 c3 c4 c5 c6 c7 c8
  rw [← e1] at f1 f2 f3 f4 f5 f6 f7 f8 f9
  have hlen : b.length = 40 + h.key.length + (framesF (sumP h) 0 l).length := by rw [e1]; simp only [List.length_append, le_length, hf]; omega
  have g1 : b.take 32 = fixedP h := by rw [e1]; exact take_app _ _ 32 hf
  have g2 : b.take 4 = magicP := by
    rw [e1, fixedP, List.append_assoc]; exact take_app _ _ 4 rfl
  have g3 : fld b 32 4 = crcS (fixedP h) := by
    rw [e1, fld_mid _ _ 4 _ 32 hf]; exact Nat.mod_eq_of_lt (crcS_lt _)
  have g4 : (b.drop 36).take h.key.length = h.key := by
    rw [e1, ← List.append_assoc, drop_app _ _ 36 (by rw [List.length_append, hf, le_length])]
    exact take_app _ _ _ rfl
  have g5 : fld b (36 + h.key.length) 4 = sumP h := by
    rw [e1, ← List.append_assoc, ← List.append_assoc, fld_mid _ _ 4 _ _ (by simp only [List.length_append, hf, le_length])]
    exact Nat.mod_eq_of_lt (sumP_lt _)
  have g6 : b.drop (40 + h.key.length) = framesF (sumP h) 0 l := by
    rw [e1, ← List.append_assoc, ← List.append_assoc, ← List.append_assoc]
    exact drop_app _ _ _ (by simp only [List.length_append, hf, le_length]; omega)
  have g7 : headOfP b = h := by
    rw [headOfP, f1, f2, f3, f4, f5, f6, f7, f8, f9, g4]
  have hp : parseHeadP b = some h := by
    rw [parseHeadP, if_neg (by omega), if_neg (by rw [g2]; simp), g1, g3, if_neg (by simp), f9, if_neg (by omega), g4, g5, if_neg (by simp [sumP]), g7, if_pos ho]
  rw [← hb, parseP, hp, Option.bind_some, g1, g6]
  show (framesP (sumP h) 0 _ _).map _ = _
  rw [framesP_F _ _ _ _ hl]; rfl
end Go.Proofs.Ytdoeelfcihdmbaa
/-
  Layer 10, plain: an object as rows, the rows as blocks, and back.
-/
namespace Go.Proofs.Ytdoeelfcihdmbaa
open Go.RowKit Gf
set_option linter.unusedVariables false

/-- Row i of the data, stripe by stripe. -/
def rowP (k : Nat) : List Nat → List E → Nat → List E
  | [], _, _ => []
  | n :: ns, data, i => padR n (data.drop (i * n)) ++ rowP k ns (data.drop (k * n)) i
theorem rowP_length (k : Nat) : ∀ (ns : List Nat) (data : List E) (i : Nat), (rowP k ns data i).length = ns.sum
  | [], _, _ => rfl
  | n :: ns, data, i => by rw [rowP, List.length_append, padR_length, rowP_length k ns, List.sum_cons]
def rowsP (k : Nat) (ns : List Nat) (data : List E) : List (List E) := (List.range k).map (rowP k ns data)
theorem rowsP_length (k : Nat) (ns : List Nat) (data : List E) : (rowsP k ns data).length = k := by simp [rowsP]
/-- A row cut into blocks. -/
def cutP : List Nat → List E → List (List E)
  | [], _ => []
  | n :: ns, w => w.take n :: cutP ns (w.drop n)
theorem cutP_flatten : ∀ (ns : List Nat) (w : List E), w.length = ns.sum → (cutP ns w).flatten = w
  | [], w, h => by
    have : w = [] := List.eq_nil_of_length_eq_zero (by simpa using h)
    subst this; rfl
  | n :: ns, w, h => by
    rw [cutP, List.flatten_cons, cutP_flatten ns (w.drop n) (by rw [List.length_drop, h, List.sum_cons]; omega), List.take_append_drop]
theorem cutP_lengths : ∀ (ns : List Nat) (w : List E), w.length = ns.sum → (cutP ns w).map List.length = ns
  | [], w, h => rfl
  | n :: ns, w, h => by
    rw [cutP, List.map_cons, cutP_lengths ns (w.drop n) (by rw [List.length_drop, h, List.sum_cons]; omega), List.length_take, h, List.sum_cons, Nat.min_eq_left (by omega)]
theorem cutP_length : ∀ (ns : List Nat) (w : List E), (cutP ns w).length = ns.length
  | [], _ => rfl
  | n :: ns, w => by rw [cutP, List.length_cons, cutP_length ns, List.length_cons]
/-- What is put behind what was joined: the next piece of the data. -/
theorem piece_join {n i : Nat} {data : List E} : (padR n (data.drop (i * n))).take (min n (data.drop (i * n)).length) = (data.drop (i * n)).take n := by
  rw [padR]
  rcases Nat.le_total n (data.drop (i * n)).length with h | h
  · rw [Nat.min_eq_left h, List.take_append_of_le_length (by rw [List.length_take]; omega), List.take_take, Nat.min_self]
  · rw [Nat.min_eq_right h, List.take_append_of_le_length (by rw [List.length_take]; omega), List.take_take, Nat.min_eq_left h, List.take_of_length_le h, List.take_of_length_le (Nat.le_refl _)]
theorem sizesP_sum {k blk size : Nat} (hk : 0 < k) (hb : 0 < blk) : size ≤ k * (sizesP k blk size).sum := by
  have hst : 0 < k * blk := Nat.mul_pos hk hb
  obtain ⟨st, hst2⟩ : ∃ s, s = k * blk := ⟨_, rfl⟩
  rw [← hst2] at hst
  have key : ∀ q, q ≤ stripesP k blk size → k * (((List.range q).map fun i => if i + 1 = stripesP k blk size ∧ 0 < size % (k * blk) then (size % (k * blk) + k - 1) / k else blk).sum) ≥ min size (q * st) := by
    intro q
    induction q with
    | zero => intro _; simp
    | succ q ih =>
      intro hq
      have h1 := ih (by omega)
      rw [List.range_succ, List.map_append, List.sum_append, Nat.mul_add]
      simp only [List.map_cons, List.map_nil, List.sum_cons, List.sum_nil, Nat.add_zero]
      rw [Nat.succ_mul]
      split
      · rename_i hc
        have h2 : q * st + size % st = size := by
          have h3 : stripesP k blk size = q + 1 := hc.1.symm
          rw [stripesP, ← hst2] at h3
          have h4 := Nat.div_add_mod size st
          have h5 : 0 < size % st := by rw [hst2]; exact hc.2
          have h6 := Nat.mod_lt size hst
          have h7 : (size + st - 1) / st = size / st + 1 := by
            rw [show size + st - 1 = (size % st - 1 + st * (size / st)) + st by omega, Nat.add_div_right _ hst, Nat.add_mul_div_left _ _ hst, Nat.div_eq_of_lt (by omega)]; omega
          have h8 : size / st = q := by omega
          rw [← h8, Nat.mul_comm]; exact h4
        have h9 : size % st ≤ k * ((size % (k * blk) + k - 1) / k) := by
          rw [← hst2]
          have := Nat.div_add_mod (size % st + k - 1) k
          have := Nat.mod_lt (size % st + k - 1) hk
          omega
        omega
      · omega
  have h := key (stripesP k blk size) (Nat.le_refl _)
  have h2 : size ≤ stripesP k blk size * st := by
    rw [stripesP, ← hst2]
    have := Nat.div_add_mod (size + st - 1) st
    have := Nat.mod_lt (size + st - 1) hst
    rw [Nat.mul_comm]
    omega
  rw [sizesP]
  omega
theorem sizesP_pos {k blk size : Nat} (hk : 0 < k) (hb : 0 < blk) : ∀ n ∈ sizesP k blk size, 1 ≤ n := fun n hn => by
  obtain ⟨i, -, rfl⟩ := List.mem_map.1 hn
  split
  · rename_i h
    exact Nat.div_pos (by omega) hk
  · exact hb
theorem sizesP_le {k blk size : Nat} (hk : 0 < k) : ∀ n ∈ sizesP k blk size, n ≤ blk := fun n hn => by
  obtain ⟨i, -, rfl⟩ := List.mem_map.1 hn
  split
  · rename_i h
    have h1 : size % (k * blk) < k * blk := Nat.mod_lt _ (by
      rcases Nat.eq_zero_or_pos (k * blk) with h0 | h0
      · rcases Nat.mul_eq_zero.1 h0 with h2 | h2
        · omega
        · have := h.2; exact Nat.pos_of_ne_zero fun e => by have := h.1; simp [stripesP, e] at this
      · exact h0)
    have h3 : (size % (k * blk) + k - 1) < (blk + 1) * k := by rw [Nat.add_mul, Nat.mul_comm blk]; omega
    have := (Nat.div_lt_iff_lt_mul hk).2 h3
    omega
  · exact Nat.le_refl _
end Go.Proofs.Ytdoeelfcihdmbaa
/-
  Layer 3, plain: a square matrix is turned round by bringing its columns to unit columns, one by one.
-/
namespace Go.Proofs.Ytdoeelfcihdmbaa
open Go.RowKit Gf
set_option linter.unusedVariables false

/-- What is known of the rows while the first c columns are unit columns: the left half is what the right half makes of A; the left half still takes nothing but nothing to nothing. -/
structure GInv (k : Nat) (A : Nat → Nat → E) (c : Nat) (M : Nat → Nat → E) : Prop where
  rel : ∀ i j, i < k → j < k → M i j = sumN k fun t => M i (k + t) * A t j
  unit : ∀ i j, i < k → j < c → M i j = if i = j then 1 else 0
  inj : ∀ v : Nat → E, (∀ i, i < k → sumN k (fun j => M i j * v j) = 0) → ∀ j, j < k → v j = 0
section
variable {k c : Nat} {A M : Nat → Nat → E}
def besideM (k : Nat) (A : Nat → Nat → E) (i j : Nat) : E := if j < k then A i j else if j - k = i then 1 else 0
theorem GInv.start (h : ∀ v : Nat → E, (∀ i, i < k → sumN k (fun j => A i j * v j) = 0) → ∀ j, j < k → v j = 0) : GInv k A 0 (besideM k A) := by
  refine ⟨fun i j hi hj => ?_, fun i j _ hj => by omega, fun v hv => h v fun i hi => ?_⟩
  · rw [sumN_one (a := i) hi fun t ht hne => ?_]
    · rw [besideM, if_pos hj, besideM, if_neg (by omega), if_pos (by omega), E.one_mul]
    · rw [besideM, if_neg (by omega), if_neg (by omega), E.zero_mul]
  · rw [← hv i hi]
    exact sumN_congr fun j hj => by rw [besideM, if_pos hj]
theorem GInv.pivot (h : GInv k A c M) (hc : c < k) : ∃ r, c ≤ r ∧ r < k ∧ M r c ≠ 0 := by
  apply Classical.byContradiction
  intro hn
  have hz : ∀ r, c ≤ r → r < k → M r c = 0 := fun r h1 h2 => Classical.byContradiction fun h3 => hn ⟨r, h1, h2, h3⟩
  have hv := h.inj (fun j => if j < c then M j c else if j = c then 1 else 0) (fun i hi => ?_) c hc
  · simp at hv
    exact E.one_ne_zero hv
  · by_cases hic : i < c
    · rw [sumN_two (a := i) (b := c) hi hc (by omega) fun j hj h1 h2 => ?_]
      · rw [if_pos hic, h.unit i i hi hic, if_pos rfl, E.one_mul, if_neg (by omega), if_pos rfl, E.mul_one]
        exact E.add_self _
      · by_cases hjc : j < c
        · rw [h.unit i j hi hjc, if_neg (by omega), E.zero_mul]
        · rw [if_neg hjc, if_neg h2, E.mul_zero]
    · rw [sumN_one (a := c) hc fun j hj h1 => ?_]
      · rw [if_neg (by omega), if_pos rfl, E.mul_one, hz i (by omega) hi]
      · by_cases hjc : j < c
        · rw [h.unit i j hi hjc, if_neg (by omega), E.zero_mul]
        · rw [if_neg hjc, if_neg h1, E.mul_zero]
def swapM (M : Nat → Nat → E) (c r : Nat) : Nat → Nat → E := fun i => if i = c then M r else if i = r then M c else M i
def scaleM (M : Nat → Nat → E) (c : Nat) (x : E) : Nat → Nat → E := fun i j => if i = c then M i j * x else M i j
def clearM (M : Nat → Nat → E) (c : Nat) : Nat → Nat → E := fun i j => if i = c then M i j else M i j + M c j * M i c
def stepM (M : Nat → Nat → E) (c r : Nat) : Nat → Nat → E := clearM (scaleM (swapM M c r) c (E.inv (M r c))) c
theorem GInv.step (h : GInv k A c M) {r : Nat} (hc : c < k) (hr : c ≤ r) (hrk : r < k) (hp : M r c ≠ 0) : GInv k A (c + 1) (stepM M c r) := by
  have e1 : ∀ i, i < k → ∃ i', i' < k ∧ swapM M c r i = M i' := fun i hi => by
    unfold swapM
    split
    · exact ⟨r, hrk, rfl⟩
    · split
      · exact ⟨c, hc, rfl⟩
      · exact ⟨i, hi, rfl⟩
  have u1 : ∀ i j, i < k → j < c → swapM M c r i j = if i = j then 1 else 0 := fun i j hi hj => by
    unfold swapM
    split
    · subst_vars; rw [h.unit r j hrk hj, if_neg (by omega), if_neg (by omega)]
    · split
      · subst_vars; rw [h.unit c j hc hj, if_neg (by omega), if_neg (by omega)]
      · exact h.unit i j hi hj
  have i1 : ∀ v : Nat → E, (∀ i, i < k → sumN k (fun j => swapM M c r i j * v j) = 0) → ∀ i, i < k → sumN k (fun j => M i j * v j) = 0 := fun v hv i hi => by
    by_cases h1 : i = r
    · have := hv c hc
      unfold swapM at this
      rw [h1]
      simpa using this
    · by_cases h2 : i = c
      · have := hv r hrk
        unfold swapM at this
        by_cases h3 : r = c
        · exact absurd (h2.trans h3.symm) h1
        · rw [h2]; simpa [h3] using this
      · have := hv i hi
        unfold swapM at this
        simpa [h1, h2] using this
  obtain ⟨M1, hM1⟩ : ∃ M1, M1 = swapM M c r := ⟨_, rfl⟩
  have hcc : M1 c c = M r c := by rw [hM1, swapM, if_pos rfl]
  rw [stepM, ← hM1]
  rw [← hM1] at e1 u1 i1
  have r1 : ∀ i j, i < k → j < k → M1 i j = sumN k fun t => M1 i (k + t) * A t j := fun i j hi hj => by
    obtain ⟨i', h1, h2⟩ := e1 i hi
    rw [h2]; exact h.rel i' j h1 hj
  obtain ⟨x, hx⟩ : ∃ x, x = E.inv (M r c) := ⟨_, rfl⟩
  have hxc : M1 c c * x = 1 := by rw [hcc, hx]; exact E.mul_inv hp
  have hx0 : x ≠ 0 := by rw [hx]; exact E.inv_ne_zero hp
  rw [← hx]
  obtain ⟨M2, hM2⟩ : ∃ M2, M2 = scaleM M1 c x := ⟨_, rfl⟩
  have h2c : ∀ j, M2 c j = M1 c j * x := fun j => by rw [hM2, scaleM, if_pos rfl]
  have h2i : ∀ i j, i ≠ c → M2 i j = M1 i j := fun i j hi => by rw [hM2, scaleM, if_neg hi]
  rw [← hM2]
  have r2 : ∀ i j, i < k → j < k → M2 i j = sumN k fun t => M2 i (k + t) * A t j := fun i j hi hj => by
    by_cases hic : i = c
    · subst hic
      rw [h2c, r1 i j hi hj, E.mul_comm, ← sumN_smul]
      exact sumN_congr fun t ht => by rw [h2c, ← E.mul_assoc, E.mul_comm x]
    · rw [h2i i j hic, r1 i j hi hj]
      exact sumN_congr fun t ht => by rw [h2i i _ hic]
  have u2 : ∀ i j, i < k → j < c → M2 i j = if i = j then 1 else 0 := fun i j hi hj => by
    by_cases hic : i = c
    · subst hic
      rw [h2c, u1 i j hi hj, if_neg (by omega), E.zero_mul]
    · rw [h2i i j hic]; exact u1 i j hi hj
  have i2 : ∀ v : Nat → E, (∀ i, i < k → sumN k (fun j => M2 i j * v j) = 0) → ∀ i, i < k → sumN k (fun j => M1 i j * v j) = 0 := fun v hv i hi => by
    by_cases hic : i = c
    · subst hic
      have h1 := hv i hi
      have h2 : sumN k (fun j => M2 i j * v j) = x * sumN k (fun j => M1 i j * v j) := by
        rw [← sumN_smul]
        exact sumN_congr fun j hj => by rw [h2c, ← E.mul_assoc, E.mul_comm x]
      rw [h2] at h1
      rcases E.mul_eq_zero.1 h1 with h3 | h3
      · exact absurd h3 hx0
      · exact h3
    · rw [← hv i hi]
      exact sumN_congr fun j hj => by rw [h2i i j hic]
  have h3c : ∀ j, clearM M2 c c j = M2 c j := fun j => by rw [clearM, if_pos rfl]
  have h3i : ∀ i j, i ≠ c → clearM M2 c i j = M2 i j + M2 c j * M2 i c := fun i j hi => by rw [clearM, if_neg hi]
  refine ⟨fun i j hi hj => ?_, fun i j hi hj => ?_, fun v hv => h.inj v (i1 v (i2 v fun i hi => ?_))⟩
  · by_cases hic : i = c
    · subst hic
      rw [h3c, r2 i j hi hj]
      exact sumN_congr fun t ht => by rw [h3c]
    · rw [h3i i j hic, r2 i j hi hj, r2 c j hc hj, E.mul_comm _ (M2 i c), ← sumN_smul, ← sumN_add]
      exact sumN_congr fun t ht => by rw [h3i i _ hic, E.add_mul, ← E.mul_assoc, E.mul_comm (M2 i c)]
  · by_cases hjc : j = c
    · subst hjc
      by_cases hij : i = j
      · subst hij
        rw [h3c, h2c, hxc, if_pos rfl]
      · rw [h3i i j hij, h2c, hxc, E.one_mul, if_neg hij]
        exact E.add_self _
    · have hj' : j < c := by omega
      by_cases hic : i = c
      · subst hic; rw [h3c]; exact u2 i j hi hj'
      · rw [h3i i j hic, u2 c j hc hj', if_neg (by omega), E.zero_mul, E.add_zero]; exact u2 i j hi hj'
  · by_cases hic : i = c
    · subst hic
      rw [← hv i hi]
      exact sumN_congr fun j hj => by rw [h3c]
    · have h1 := hv i hi
      have h2 := hv c hc
      have h3 : sumN k (fun j => clearM M2 c i j * v j) = sumN k (fun j => M2 i j * v j) + M2 i c * sumN k (fun j => clearM M2 c c j * v j) := by
        rw [← sumN_smul, ← sumN_add]
        exact sumN_congr fun j hj => by rw [h3i i j hic, h3c, E.add_mul, ← E.mul_assoc, E.mul_comm (M2 i c)]
      rw [h3, h2, E.mul_zero, E.add_zero] at h1
      exact h1
/-- At the end the right half turns A round. -/
theorem GInv.fin (h : GInv k A k M) : ∀ i j, i < k → j < k → (sumN k fun t => M i (k + t) * A t j) = if i = j then 1 else 0 := fun i j hi hj => by
  rw [← h.rel i j hi hj]; exact h.unit i j hi hj
end
end Go.Proofs.Ytdoeelfcihdmbaa
/-
  A value of several cells is loaded from, or stored at, any place of a block.
-/
namespace Go.Proofs.Ytdoeelfcihdmbaa
open Go.RowKit Gf
set_option linter.unusedVariables false

/-- The cells with these from o on. -/
def seg (cur : Array Value) (o : Nat) (vs : List Value) : Array Value := (cur.toList.take o ++ vs ++ cur.toList.drop (o + vs.length)).toArray
theorem seg_size (cur : Array Value) (o : Nat) (vs : List Value) (h : o + vs.length ≤ cur.size) : (seg cur o vs).size = cur.size := by
  simp only [seg, List.size_toArray, List.length_append, List.length_take, List.length_drop, Array.length_toList]; omega
theorem Touch.put {w w' : World} {g : Nat} (h : Touch (fun b => b = g) w w') (j : Nat) (u : Value) : Touch (fun b => b = g) w (w'.setCell ⟨g, j, none⟩ u) := h.trans (touch_set (S := fun b => b = g) w' ⟨g, j, none⟩ u rfl)
theorem Blk.set_eq {w : World} {g : Nat} {t : TypeId} {cs cs' : Array Value} (h : Blk w g t cs) (i : Nat) (u : Value) (e : cs.setIfInBounds i u = cs') : Blk (w.setCell ⟨g, i, none⟩ u) g t cs' := e ▸ h.set_ i u
/-- Memory of the call's own was written. -/
theorem Touch.extNew {a w w' : World} {g : Nat} (hx : Ext a w) (h : Touch (fun b => b = g) w w') (hg : a.heap.size ≤ g) : Ext a w' := hx.below.trans (h.below (fun k _ e => by rw [e]; exact hg) hx.le)
section
variable {P : Program}
theorem run_loadVar_at (w : World) (a : Addr) (ty : TypeId) (cs : Array Value) (d : TypeDesc) (hc : ∀ j v, cs[j]? = some v → w.cell? (a.add j) = some v)
    (hu : P.underlying ty = some d) (hd : (match d with | .struct _ | .array _ _ => true | _ => false) = true) (hi : (P.info? ty).map (·.size) = some cs.size) :
    (loadVar ty a).run P w = .ok (.agg cs) w := by
  have hl : (loadCells a cs.toList.length).run P w = .ok cs.toList.toArray w :=
    run_loadCells_list (P := P) w a cs.toList (fun j v hv => hc j v (by simpa using hv))
  cases hq : P.info? ty with
  | none => simp [hq] at hi
  | some i =>
    have hs : i.size = cs.size := by simpa [hq] using hi
    have hagg : (isAgg ty).run P w = .ok true w := by
      unfold isAgg
      rw [Sem.run_bind, run_underlying hu w]
      cases d <;> simp_all
    simp only [Array.length_toList, Array.toArray_toList] at hl
    simp [loadVar, Sem.run_bind, hagg, sizeOf, typeInfo, hq, hs, hl]
theorem wp_load_at {o : Oper} {a : Act} {w : World} {K : Act → World → Prop} {Q : Exit → Act → World → Prop} (ty : TypeId) (x : Operand) (ho : o.op = .load ty x)
    (ad : Addr) (hx : a.eval x = .pointer (some ad)) (cs : Array Value) (d : TypeDesc) (hc : ∀ j v, cs[j]? = some v → w.cell? (ad.add j) = some v)
    (hu : P.underlying ty = some d) (hd : (match d with | .struct _ | .array _ _ => true | _ => false) = true) (hi : (P.info? ty).map (·.size) = some cs.size)
    (h : K (a.put o.dst (.agg cs)) w) : o.wp P a w K Q := by
  unfold Oper.wp execOp
  simp only [ho, hx, Instr.loadAt, Instr.sureAddr, Sem.run_bind, Sem.run_pure, Result.andThen_ok, run_loadVar_at w ad ty cs d hc hu hd hi]
  exact h
theorem wpList_load_at {ops : Array Oper} {rest : List Oper} {o : Oper} {a : Act} {w : World} {Q : Exit → Act → World → Prop} (hgd : o.guard = none) (ty : TypeId) (x : Operand) (ho : o.op = .load ty x)
    (ad : Addr) (hx : a.eval x = .pointer (some ad)) (cs : Array Value) (d : TypeDesc) (hc : ∀ j v, cs[j]? = some v → w.cell? (ad.add j) = some v)
    (hu : P.underlying ty = some d) (hd : (match d with | .struct _ | .array _ _ => true | _ => false) = true) (hi : (P.info? ty).map (·.size) = some cs.size)
    (h : wpList P ops Q rest (a.put o.dst (.agg cs)) w) : wpList P ops Q (o :: rest) a w :=
  wpList_plain hgd fun _ hK => wp_load_at ty x ho ad hx cs d hc hu hd hi (hK _ _ h)
theorem run_storeVar_at (w : World) (g o : Nat) (t ty : TypeId) (cur cells : Array Value) (hg : w.heap[g]? = some (.cells cur t (0, 0))) (hi : (P.info? ty).map (·.size) = some cells.size)
    (ho : o + cells.size ≤ cur.size) (h1 : cells.all (·.oneCell') = true) :
    (storeVar ty ⟨g, o, none⟩ (.agg cells)).run P w = .ok () (w.setRow g (seg cur o cells.toList)) := by
  have := run_storeCells_at P g o t cells.toList 0 cur w hg (by simp; omega) (fun v hv => (Array.all_eq_true_iff_forall_mem.1 h1) v (by simpa using hv))
  simp only [Nat.add_zero] at this
  cases hq : P.info? ty with
  | none => simp [hq] at hi
  | some i =>
    have hs : cells.size = i.size := by simp [hq] at hi; omega
    simp [storeVar, sizeOf, typeInfo, hq, Value.cells, hs, this, seg]
theorem setRow_blk (w : World) (g : Nat) (t : TypeId) (cur cs : Array Value) (hb : Blk w g t cur) : Blk (w.setRow g cs) g t cs := setRow_heap w g cur cs t (0, 0) hb
theorem setRow_touch (w : World) (g : Nat) (cs : Array Value) : Touch (fun b => b = g) w (w.setRow g cs) :=
  ⟨rfl, rfl, rfl, by simp, fun k _ hk => setRow_other w g k cs hk⟩
theorem wp_store_at {o : Oper} {a : Act} {w : World} {K : Act → World → Prop} {Q : Exit → Act → World → Prop} (ty : TypeId) (x y : Operand) (ho : o.op = .store ty x y)
    (g off : Nat) (cells : Array Value) (hx : a.eval x = .pointer (some ⟨g, off, none⟩)) (hy : a.eval y = .agg cells)
    (t : TypeId) (cur : Array Value) (hg : Blk w g t cur) (hi : (P.info? ty).map (·.size) = some cells.size)
    (hold : off + cells.size ≤ cur.size) (h1 : cells.all (·.oneCell') = true)
    (h : ∀ w', Blk w' g t (seg cur off cells.toList) → Touch (fun b => b = g) w w' → K (a.put o.dst undef) w') : o.wp P a w K Q := by
  unfold Oper.wp execOp
  simp only [ho, hx, hy, Instr.storeAt, Instr.sureAddr, Sem.run_bind, Sem.run_pure, Result.andThen_ok, run_storeVar_at w g off t ty cur cells hg hi hold h1]
  exact h _ (setRow_blk w g t cur _ hg) (setRow_touch w g _)
theorem wpList_store_at {ops : Array Oper} {rest : List Oper} {o : Oper} {a : Act} {w : World} {Q : Exit → Act → World → Prop} (hgd : o.guard = none) (ty : TypeId) (x y : Operand) (ho : o.op = .store ty x y)
    (g off : Nat) (cells : Array Value) (hx : a.eval x = .pointer (some ⟨g, off, none⟩)) (hy : a.eval y = .agg cells)
    (t : TypeId) (cur : Array Value) (hg : Blk w g t cur) (hi : (P.info? ty).map (·.size) = some cells.size)
    (hold : off + cells.size ≤ cur.size) (h1 : cells.all (·.oneCell') = true)
    (h : ∀ w', Blk w' g t (seg cur off cells.toList) → Touch (fun b => b = g) w w' → wpList P ops Q rest (a.put o.dst undef) w') : wpList P ops Q (o :: rest) a w :=
  wpList_plain hgd fun _ hK => wp_store_at ty x y ho g off cells hx hy t cur hg hi hold h1 fun w' h2 h3 => hK _ _ (h w' h2 h3)
theorem Blk.cells {w : World} {g : Nat} {t : TypeId} {cs : Array Value} (h : Blk w g t cs) : ∀ j v, cs[j]? = some v → w.cell? ((⟨g, 0, none⟩ : Addr).add j) = some v := fun j v hv => by
  rw [add_plain, h.cell]; exact hv
theorem Blk.sub {w : World} {g : Nat} {t : TypeId} {cs : Array Value} (h : Blk w g t cs) (o : Nat) (ds : Array Value) (hd : ∀ j v, ds[j]? = some v → cs[o + j]? = some v) : ∀ j v, ds[j]? = some v → w.cell? ((⟨g, o, none⟩ : Addr).add j) = some v := fun j v hv => by
  have : (⟨g, o, none⟩ : Addr).add j = ⟨g, o + j, none⟩ := by unfold Addr.add; split <;> simp_all
  rw [this, h.cell]; exact hd j v hv
end
end Go.Proofs.Ytdoeelfcihdmbaa
/-
  Layer 6: the walks of the sums of bytes. Each computes what the plain sum says, whatever the bytes.
-/
namespace Go.Proofs.Ytdoeelfcihdmbaa
open Go.RowKit Gf
set_option maxRecDepth 20000
set_option linter.unusedVariables false

theorem bits_u32_xor (a b : Nat) (ha : a < 2 ^ 32) (hb : b < 2 ^ 32) : bits .xor .u32 (a : Int) (b : Int) = ((a ^^^ b : Nat) : Int) := by
  have ha' : a % 2 ^ 32 = a := Nat.mod_eq_of_lt ha
  have hb' : b % 2 ^ 32 = b := Nat.mod_eq_of_lt hb
  have e : IntKind.bits .u32 = 32 := rfl
  have hx : a ^^^ b < 2 ^ 32 := Nat.xor_lt_two_pow ha hb
  simp only [bits, e, BitVec.ofInt_natCast, BitVec.toNat_xor, BitVec.toNat_ofNat, ha', hb']
  rw [IntKind.wrap_u32]
  omega
theorem bits_u32_and1 (a : Nat) (ha : a < 2 ^ 32) : bits .and .u32 (a : Int) 1 = ((a % 2 : Nat) : Int) := by
  have h := (bits_nat .u32 32 (by decide) (fun n h0 h1 => by rw [IntKind.wrap_u32]; omega) a 1 ha (by decide)).1
  rw [Nat.and_one_is_mod] at h
  exact h
theorem bits_u32_and15 (a : Nat) (ha : a < 2 ^ 32) : bits .and .u32 (a : Int) 15 = ((a % 16 : Nat) : Int) := by
  have h := (bits_nat .u32 32 (by decide) (fun n h0 h1 => by rw [IntKind.wrap_u32]; omega) a 15 ha (by decide)).1
  rw [show (15 : Nat) = 2 ^ 4 - 1 from rfl, Nat.and_two_pow_sub_one_eq_mod] at h
  exact h
theorem step_n (r : Nat) (h : r < 2 ^ 32) (w : World) : Calls Try.prog 198 #[.int .u32 (r : Int)] w fun e w' => e = .returned (.int .u32 (cstep r : Int)) ∧ w = w' := by
  have e1 := bits_u32_and1 r h
  have e2 : (r : Int) / 2 = ((r / 2 : Nat) : Int) := by omega
  have e3 := bits_u32_xor (r / 2) 2197175160 (by omega) (by decide)
  have e4 : r >>> 1 = r / 2 := by rw [Nat.shiftRight_eq_div_pow]
  by_cases hb : r % 2 = 1
  · have ht : r.testBit 0 = true := by rw [Nat.testBit_zero]; simp [hb]
    have ec : cstep r = (r / 2) ^^^ 2197175160 := by rw [cstep, if_pos ht, e4]
    have g1 : bits .and .u32 (r : Int) 1 = 1 := by rw [e1, hb]; rfl
    have g2 : bits .xor .u32 ((r : Int) / 2) 2197175160 = ((cstep r : Nat) : Int) := by rw [e2, ec]; exact e3
    clear e1 e2 e3 e4 ec ht hb
    go_enter Try.func198, Try.ntmps198
    go_wp2
    go_ret
    exact ⟨rfl, rfl⟩
  · have ht : r.testBit 0 = false := by rw [Nat.testBit_zero]; simp [hb]
    have ec : cstep r = r / 2 := by rw [cstep, if_neg (by rw [ht]; simp), e4]
    have g1 : bits .and .u32 (r : Int) 1 = 0 := by rw [e1]; omega
    have H := Lib.hid (show ((cstep r : Nat) : Int) = (r : Int) / 2 by rw [ec, e2])
    clear e1 e2 e3 e4 ec ht hb
    go_enter Try.func198, Try.ntmps198
    go_wp2
    go_ret
    exact ⟨by rw [H.out]; rfl, rfl⟩
/-- What four steps make of the halves of a byte. -/
def halvesA : Array Value := ((List.range 16).map fun i => Value.int .u32 (cstepN 4 i : Int)).toArray
theorem halvesA_size : halvesA.size = 16 := by simp [halvesA]
theorem halvesA_get {i : Nat} (h : i < 16) : halvesA[i]? = some (.int .u32 (cstepN 4 i : Int)) := by
  simp [halvesA, h]
theorem seg_all (cur : Array Value) (cs : Array Value) (h : cur.size = cs.size) : seg cur 0 cs.toList = cs := by
  simp only [seg, List.take_zero, List.nil_append, Nat.zero_add]
  rw [List.drop_of_length_le (by simp [h]), List.append_nil, Array.toArray_toList]
def zero16 : Array Value := #[.int .u32 0, .int .u32 0, .int .u32 0, .int .u32 0, .int .u32 0, .int .u32 0, .int .u32 0, .int .u32 0, .int .u32 0, .int .u32 0, .int .u32 0, .int .u32 0, .int .u32 0, .int .u32 0, .int .u32 0, .int .u32 0]
structure Halves (wr : World) (g j : Nat) : Prop where
  blk : ∃ cs, Blk wr g 237 cs ∧ cs.size = 16 ∧ ∀ b, b < j → cs[b]? = some (.int .u32 (cstepN 4 b : Int))
theorem Halves.step {wr : World} {g j : Nat} (h : Halves wr g j) (hj : j < 16) : Halves (wr.setCell ⟨g, j, none⟩ (.int .u32 (cstepN 4 j : Int))) g (j + 1) := by
  obtain ⟨cs, h1, h2, h3⟩ := h.blk
  refine ⟨_, h1.set_ j _, by simpa using h2, fun b hb => ?_⟩
  rw [Array.getElem?_setIfInBounds]
  by_cases e : j = b
  · subst e; simp [h2, hj]
  · simp [e, h3 b (by omega)]
theorem Halves.some_ {wr : World} {g j i : Nat} (h : Halves wr g j) (hi : i < 16) : wr.frozen? ⟨g, i, none⟩ = false ∧ ∃ u, wr.cell? ⟨g, i, none⟩ = some u := by
  obtain ⟨cs, h1, h2, h3⟩ := h.blk
  exact ⟨h1.frozen i, cs[i], by rw [h1.cell i]; exact Array.getElem?_eq_getElem (by omega)⟩
theorem Halves.all {wr : World} {g : Nat} (h : Halves wr g 16) : Blk wr g 237 halvesA := by
  obtain ⟨cs, h1, h2, h3⟩ := h.blk
  have : cs = halvesA := by
    apply Array.ext
    · rw [h2, halvesA_size]
    · intro i hi1 hi2
      have := h3 i (by omega)
      rw [Array.getElem?_eq_getElem hi1] at this
      have h4 := halvesA_get (i := i) (by omega)
      rw [Array.getElem?_eq_getElem hi2] at h4
      exact Option.some.inj (this.trans h4.symm)
  rw [← this]; exact h1
theorem Halves.start (w : World) : Halves (w.alloc (.cells zero16 237)) w.heap.size 0 := ⟨_, Blk.new _ _ _, rfl, fun b h => by omega⟩
set_option maxHeartbeats 2000000 in
theorem halves_n (w : World) : Calls Try.prog 180 #[] w fun e w' => e = .returned (.agg halvesA) ∧ Ext w w' := by
  go_enter Try.func180, Try.ntmps180
  go_wp2_with fail
  obtain ⟨W0, hW0⟩ : ∃ W0, W0 = w.alloc (.cells zero16 237) := ⟨_, rfl⟩
  have hz : W0.heap.size = w.heap.size + 1 := by rw [hW0]; simp
  have hb0 : Blk W0 w.heap.size 237 zero16 := by rw [hW0]; exact Blk.new _ _ _
  have H1 : Hid (Ext w (W0.alloc (.cells zero16 237)) ∧ Blk (W0.alloc (.cells zero16 237)) w.heap.size 237 zero16 ∧ Halves (W0.alloc (.cells zero16 237)) (w.heap.size + 1) 0) := Lib.hid ⟨by
    rw [hW0]; exact ((Ext.refl w).alloc _).alloc _, hb0.alloc _, by rw [← hz]; exact Halves.start W0⟩
  rw [hW0] at H1
  clear hW0 hz hb0
  go_loopw [3] (fun i wr => ∃ j : Nat, j ≤ 16 ∧ i = .int .i64 j ∧ Ext w wr ∧ Blk wr w.heap.size 237 zero16 ∧ Halves wr (w.heap.size + 1) j) (fun i _ => 16 - (intOf i).toNat)
  case atStart => exact ⟨0, by omega, rfl, H1.out.1, H1.out.2.1, H1.out.2.2⟩
  case round =>
    clear H1
    obtain ⟨W, rfl⟩ : ∃ W, W = wr := ⟨_, rfl⟩
    obtain ⟨j, hj, rfl, hx, hb, hh⟩ := hrel
    by_cases hlt : j < 16
    · obtain ⟨f1, u1, c1⟩ := hh.some_ hlt
      have hst := hh.step hlt
      have hx2 := hx.new (p := ⟨w.heap.size + 1, j, none⟩) (Nat.le_succ _) (.int .u32 (cstepN 4 j : Int))
      have hb2 := hb.far (p := ⟨w.heap.size + 1, j, none⟩) (show w.heap.size ≠ w.heap.size + 1 by omega) (.int .u32 (cstepN 4 j : Int))
      have HP := Lib.hid (And.intro hx2 (And.intro hb2 hst))
      have l0 : j < 2 ^ 32 := by omega
      have l1 := cstep_lt l0
      have l2 := cstep_lt l1
      have l3 := cstep_lt l2
      have l4 := cstep_lt l3
      clear hx hb hh hst hx2 hb2
      go_wp2_with (go_at_call 198; with_reducible refine (step_n _ (by assumption) _).mono ?_; rintro e w' ⟨rfl, rfl⟩)
      go_roundw
      case rel => exact ⟨j + 1, by omega, by go_num, HP.out.1, HP.out.2.1, HP.out.2.2⟩
      case measure => simp [intOf]; omega
    · obtain rfl : j = 16 := by omega
      have HB := Lib.hid hh.all
      have HB0 := Lib.hid hb
      have HX := Lib.hid hx
      clear hb hh hx
      go_wp2_with (first | (refine wpList_load_row rfl 237 _ rfl (w.heap.size + 1) rfl 237 halvesA _ _ (HB.out) Try.underlying237 rfl (by kernel_rfl) ?_) | (refine wpList_store_at rfl 237 _ _ rfl w.heap.size 0 halvesA rfl rfl 237 zero16 (HB0.out) (by kernel_rfl) (by decide) (by decide +kernel) ?_; intro W2 k1 k2))
      have hk := seg_all zero16 halvesA (by decide +kernel)
      rw [hk] at k1
      have hx2 : Ext w W2 := HX.out.below.trans (k2.below (fun k _ e => by omega) HX.out.le)
      exact bodyPost_ret (results_cell_row Try.results180 _ W2 w.heap.size 237 halvesA _ _ rfl k1 Try.underlying237 rfl (by kernel_rfl)) rfl ⟨rfl, hx2⟩
/-- One half of a byte. -/
theorem nibble_step (q : Nat) (hq : q < 2 ^ 32) : bits .xor .u32 ((q : Int) / 16) (cstepN 4 (q % 16) : Int) = ((cstepN 4 q : Nat) : Int) := by
  have h1 : (q : Int) / 16 = ((q / 16 : Nat) : Int) := by omega
  rw [h1, bits_u32_xor _ _ (by omega) (cstepN_lt 4 (by omega)), step4 q, Nat.shiftRight_eq_div_pow]
set_option maxHeartbeats 2000000 in
theorem over_n (r : Nat) (A : Option Addr) (n c : Nat) (xs : List E) (w : World) (hr : r < 2 ^ 32) (hn : xs.length = n) (hA : Rd w A (bs xs)) (hlen : n ≤ 9000000000000000000) :
    Calls Try.prog 157 #[.int .u32 (r : Int), .slice A n c] w fun e w' => e = .returned (.int .u32 (creg r xs : Int)) ∧ Ext w w' := by
  have HN := Lib.hid hn
  have HA := Lib.hid hA
  clear hn hA
  go_enter Try.func157, Try.ntmps157
  go_wp2_with fail
  refine (halves_n _).mono ?_
  rintro e w1 ⟨rfl, hx1⟩
  have HX1 := Lib.hid hx1
  clear hx1
  go_wp2_with (refine wpList_store_at rfl 237 _ _ rfl w1.heap.size 0 halvesA rfl rfl 237 zero16 (Blk.new _ _ _) (by kernel_rfl) (by decide) (by decide +kernel) ?_; intro W2 k1 k2)
  have hk := seg_all zero16 halvesA (by decide +kernel)
  rw [hk] at k1
  have hx2 : Ext w W2 := (HX1.out.alloc _).below.trans (k2.below (fun k _ e => by have := HX1.out.le; omega) (by simpa using Nat.le_succ_of_le HX1.out.le))
  have HB := Lib.hid k1
  have HX2 := Lib.hid hx2
  obtain ⟨g, hg⟩ : ∃ g, g = w1.heap.size := ⟨_, rfl⟩
  rw [← hg] at HB ⊢
  clear k1 k2 hx2 hk hg HX1
  go_loop [0, 11] (fun rv i => ∃ k : Nat, k ≤ n ∧ i = .int .i64 k ∧ rv = .int .u32 (creg r (xs.take k) : Int)) (fun _ i => n - (intOf i).toNat)
  case atStart => exact ⟨0, by omega, rfl, rfl⟩
  case round =>
    obtain ⟨k, hk, rfl, rfl⟩ := hrel
    by_cases hlt : k < n
    · have hkx : k < xs.length := by rw [HN.out]; exact hlt
      obtain ⟨ad, rfl, hc⟩ := (HA.out.ext HX2.out).byte hkx
      obtain ⟨R, hR⟩ : ∃ R, R = creg r (xs.take k) := ⟨_, rfl⟩
      have hRl : R < 2 ^ 32 := by rw [hR]; exact creg_lt _ hr
      obtain ⟨x, hx⟩ : ∃ x, x = xs[k] := ⟨_, rfl⟩
      rw [← hx] at hc
      have hxl := x.lt
      obtain ⟨r1, h1⟩ : ∃ r1, r1 = R ^^^ x.val := ⟨_, rfl⟩
      have hl1 : r1 < 2 ^ 32 := by rw [h1]; exact Nat.xor_lt_two_pow hRl (by omega)
      have e1 : bits .xor .u32 (R : Int) (x.val : Int) = (r1 : Int) := by rw [h1]; exact bits_u32_xor _ _ hRl (by omega)
      obtain ⟨m1, hm1⟩ : ∃ m1, m1 = r1 % 16 := ⟨_, rfl⟩
      have e2 : bits .and .u32 (r1 : Int) 15 = (m1 : Int) := by rw [hm1]; exact bits_u32_and15 _ hl1
      have hml1 : m1 < 16 := by omega
      obtain ⟨t1, ht1⟩ : ∃ t1, t1 = cstepN 4 m1 := ⟨_, rfl⟩
      obtain ⟨r2, h2⟩ : ∃ r2, r2 = cstepN 4 r1 := ⟨_, rfl⟩
      have hl2 : r2 < 2 ^ 32 := by rw [h2]; exact cstepN_lt 4 hl1
      have e3 : bits .xor .u32 ((r1 : Int) / 16) (t1 : Int) = (r2 : Int) := by rw [ht1, hm1, h2]; exact nibble_step _ hl1
      obtain ⟨m2, hm2⟩ : ∃ m2, m2 = r2 % 16 := ⟨_, rfl⟩
      have e4 : bits .and .u32 (r2 : Int) 15 = (m2 : Int) := by rw [hm2]; exact bits_u32_and15 _ hl2
      have hml2 : m2 < 16 := by omega
      obtain ⟨t2, ht2⟩ : ∃ t2, t2 = cstepN 4 m2 := ⟨_, rfl⟩
      obtain ⟨r3, h3⟩ : ∃ r3, r3 = cstepN 4 r2 := ⟨_, rfl⟩
      have e5 : bits .xor .u32 ((r2 : Int) / 16) (t2 : Int) = (r3 : Int) := by rw [ht2, hm2, h3]; exact nibble_step _ hl2
      have c1 : W2.cell? ⟨g, m1, none⟩ = some (.int .u32 (t1 : Int)) := by rw [HB.out.cell, halvesA_get hml1, ht1]
      have c2 : W2.cell? ⟨g, m2, none⟩ = some (.int .u32 (t2 : Int)) := by rw [HB.out.cell, halvesA_get hml2, ht2]
      have HC : Hid (creg r (xs.take (k + 1)) = r3) := Lib.hid (by rw [take_snoc' _ k hkx, creg_snoc, ← hR, ← hx, cbyte_halves, ← h1, ← h2, ← h3])
      rw [← hR]
      clear hR hx h1 hm1 ht1 h2 hm2 ht2 h3
      go_wp2_with fail
      go_round
      case rel => exact ⟨k + 1, by omega, by go_num, by rw [HC.out]⟩
      case measure => simp [intOf]; omega
    · obtain rfl : n = k := by omega
      have HC : Hid (creg r (xs.take n) = creg r xs) := Lib.hid (by rw [List.take_of_length_le (by rw [HN.out]; exact Nat.le_refl _)])
      rw [HC.out]
      go_wp2_with fail
      go_ret
      exact ⟨rfl, HX2.out⟩
theorem max_u32 : IntKind.u32.max = 4294967295 := by decide
theorem not_u32 (s : Nat) (hs : s < 2 ^ 32) : bits .xor .u32 IntKind.u32.max (s : Int) = ((s ^^^ full32 : Nat) : Int) := by
  have := bits_u32_xor full32 s (by decide) hs
  rw [Nat.xor_comm] at this
  rw [← this, max_u32]; rfl
theorem more_lit (z : Int) (s : Nat) (A : Option Addr) (n c : Nat) (xs : List E) (w : World) (hz : z = (s : Int)) (hs : s < 2 ^ 32) (hn : xs.length = n) (hA : Rd w A (bs xs)) (hlen : n ≤ 9000000000000000000) :
    Calls Try.prog 103 #[.int .u32 z, .slice A n c] w fun e w' => e = .returned (.int .u32 (crcM s xs : Int)) ∧ Ext w w' := by
  subst hz
  have HN := Lib.hid hn
  have HA := Lib.hid hA
  have e1 := not_u32 s hs
  obtain ⟨s1, h1⟩ : ∃ s1, s1 = s ^^^ full32 := ⟨_, rfl⟩
  have hl1 : s1 < 2 ^ 32 := by rw [h1]; exact Nat.xor_lt_two_pow hs (by decide)
  rw [← h1] at e1
  obtain ⟨s2, h2⟩ : ∃ s2, s2 = creg s1 xs := ⟨_, rfl⟩
  have e2 := not_u32 s2 (by rw [h2]; exact creg_lt _ hl1)
  have HC : Hid (crcM s xs = s2 ^^^ full32) := Lib.hid (by rw [h2, h1]; rfl)
  obtain ⟨s3, h3⟩ : ∃ s3, s3 = s2 ^^^ full32 := ⟨_, rfl⟩
  rw [← h3] at e2 HC
  have H2 := Lib.hid h2
  clear hn hA h1 h2 h3
  go_enter Try.func103, Try.ntmps103
  go_wp2_with fail
  refine (over_n s1 A n c xs _ hl1 HN.out HA.out hlen).mono ?_
  rw [← H2.out]
  rintro e w' ⟨rfl, hx⟩
  have HX := Lib.hid hx
  clear hx
  go_wp2_with fail
  go_ret
  exact ⟨by rw [HC.out]; rfl, HX.out⟩
theorem more_n (s : Nat) (A : Option Addr) (n c : Nat) (xs : List E) (w : World) (hs : s < 2 ^ 32) (hn : xs.length = n) (hA : Rd w A (bs xs)) (hlen : n ≤ 9000000000000000000) :
    Calls Try.prog 103 #[.int .u32 (s : Int), .slice A n c] w fun e w' => e = .returned (.int .u32 (crcM s xs : Int)) ∧ Ext w w' := more_lit _ s A n c xs w rfl hs hn hA hlen
theorem sum_n (A : Option Addr) (n c : Nat) (xs : List E) (w : World) (hn : xs.length = n) (hA : Rd w A (bs xs)) (hlen : n ≤ 9000000000000000000) :
    Calls Try.prog 102 #[.slice A n c] w fun e w' => e = .returned (.int .u32 (crcS xs : Int)) ∧ Ext w w' := by
  have HN := Lib.hid hn
  have HA := Lib.hid hA
  clear hn hA
  go_enter Try.func102, Try.ntmps102
  go_wp2_with fail
  refine (more_lit 0 0 A n c xs _ rfl (by decide) HN.out HA.out hlen).mono ?_
  rintro e w' ⟨rfl, hx⟩
  have HX := Lib.hid hx
  clear hx
  go_wp2_with fail
  go_ret
  exact ⟨rfl, HX.out⟩
/-- A stream: what it has summed. -/
def StreamAt (w : World) (g s : Nat) : Prop := ∃ c : Int, Blk w g 216 #[.int .u32 (s : Int), .int .u64 c]
theorem write_n (g s : Nat) (A : Option Addr) (n c : Nat) (xs : List E) (w : World) (hS : StreamAt w g s) (hs : s < 2 ^ 32) (hn : xs.length = n) (hA : Rd w A (bs xs)) (hlen : n ≤ 9000000000000000000) :
    Calls Try.prog 159 #[.pointer (some ⟨g, 0, none⟩), .slice A n c] w fun e w' => e = .returned (.tuple #[]) ∧ StreamAt w' g (crcM s xs) ∧ Touch (fun b => b = g) w w' := by
  obtain ⟨c0, hb⟩ := hS
  have HN := Lib.hid hn
  have HA := Lib.hid hA
  have HB := Lib.hid hb
  have f0 := hb.frozen 0
  have c1 := hb.cell 0
  simp at c1
  clear hn hA hb
  go_enter Try.func159, Try.ntmps159
  go_wp2_with fail
  refine (more_n s A n c xs _ hs HN.out HA.out hlen).mono ?_
  rintro e w1 ⟨rfl, hx⟩
  have hb1 := HB.out.below hx HB.out.lt
  have f1 := hb1.frozen 0
  have c2 := hb1.cell 0
  simp at c2
  have c3 := hb1.cell 1
  simp at c3
  have HX := Lib.hid hx
  have HB1 := Lib.hid hb1
  obtain ⟨s2, h2⟩ : ∃ s2, s2 = crcM s xs := ⟨_, rfl⟩
  have f2 := hb1.frozen 1
  have H2 := Lib.hid h2
  rw [← h2]
  clear hx hb1 f0 c1 h2
  go_wp2_with fail
  refine bodyPost_end (results_none rfl _ _ _) rfl ?_
  have k := (HB1.out.set_ 0 (.int .u32 (s2 : Int))).set_ 1
  rw [← H2.out]
  exact ⟨rfl, ⟨_, by simpa using k _⟩, (HX.out.touch.put 0 _).put 1 _⟩
theorem sumS_n (g s : Nat) (w : World) (hS : StreamAt w g s) : Calls Try.prog 160 #[.pointer (some ⟨g, 0, none⟩)] w fun e w' => e = .returned (.int .u32 (s : Int)) ∧ w = w' := by
  obtain ⟨c0, hb⟩ := hS
  have c1 := hb.cell 0
  simp at c1
  clear hb
  go_enter Try.func160, Try.ntmps160
  go_wp2_with fail
  go_ret
  exact ⟨rfl, rfl⟩
end Go.Proofs.Ytdoeelfcihdmbaa
/-
  Slices of slices of bytes, and of lists of them: where they begin stays behind a name.
-/
namespace Go.Proofs.Ytdoeelfcihdmbaa
open Go.RowKit Gf
set_option maxRecDepth 20000
set_option linter.unusedVariables false

/-- Where s[l:] begins. -/
def cutA (A : Option Addr) (c l : Nat) : Option Addr := if c = l then A else A.map (·.add l)
theorem cutA_zero (A : Option Addr) (c : Nat) : cutA A c 0 = A := by
  unfold cutA
  split
  · rfl
  · cases A with
    | none => rfl
    | some a => simp [add_zero']
theorem cutA_block {A : Option Addr} {c l : Nat} {ad : Addr} (h : cutA A c l = some ad) : ∃ a0, A = some a0 ∧ a0.block = ad.block := by
  unfold cutA at h
  split at h
  · exact ⟨ad, h, rfl⟩
  · cases A with
    | none => cases h
    | some a => simp only [Option.map_some, Option.some.injEq] at h; exact ⟨a, rfl, by rw [← h, block_of_add]⟩
theorem Rd.cutA {w : World} {A : Option Addr} {xs : List Value} {c l : Nat} (h : Rd w A xs) (hl : l ≤ xs.length) (hc : xs.length ≤ c) : Rd w (cutA A c l) (xs.drop l) := h.cut hl hc
theorem Rd.piece {w : World} {A : Option Addr} {xs : List Value} {c l k : Nat} (h : Rd w A xs) (hl : l ≤ xs.length) (hc : xs.length ≤ c) : Rd w (Go.Proofs.Ytdoeelfcihdmbaa.cutA A c l) ((xs.drop l).take k) := (h.cutA hl hc).take k
section
variable {P : Program} {t : TypeId}
theorem slice_lh (ht : P.underlying t = some (.slice (P.elem t))) (hi : ∃ i, P.info? (P.elem t) = some i ∧ i.size = 1) (A : Option Addr) (n c l h : Nat) (kl kh : IntKind) (zl zh : Int) (el : zl = (l : Int)) (eh : zh = (h : Int)) (hl : l ≤ h) (hc : h ≤ c) (w : World) :
    (Instr.sliceAt t (.slice A n c) (some (.int kl zl)) (some (.int kh zh)) none).run P w = .ok (.slice (cutA A c l) (h - l) (c - l)) w := by
  obtain ⟨i, h1, h2⟩ := hi
  subst el eh
  rw [run_sliceAt_slice _ _ _ _ _ _ ht, run_slice_lh _ _ _ _ _ ht _ _ _ _ (by omega) (by omega) (by omega)]
  simp [sizeOf, typeInfo, h1, h2, sliced, cutA]
theorem slice_h (ht : P.underlying t = some (.slice (P.elem t))) (hi : ∃ i, P.info? (P.elem t) = some i ∧ i.size = 1) (A : Option Addr) (n c h : Nat) (kh : IntKind) (zh : Int) (eh : zh = (h : Int)) (hc : h ≤ c) (w : World) :
    (Instr.sliceAt t (.slice A n c) none (some (.int kh zh)) none).run P w = .ok (.slice A h c) w := by
  obtain ⟨i, h1, h2⟩ := hi
  subst eh
  rw [run_sliceAt_slice _ _ _ _ _ _ ht, run_slice_h _ _ _ _ _ ht _ _ (by omega) (by omega)]
  have := cutA_zero A c
  unfold cutA at this
  simp [sizeOf, typeInfo, h1, h2, sliced]
  simpa using this
theorem slice_l (ht : P.underlying t = some (.slice (P.elem t))) (hi : ∃ i, P.info? (P.elem t) = some i ∧ i.size = 1) (A : Option Addr) (n c l : Nat) (kl : IntKind) (zl : Int) (el : zl = (l : Int)) (hl : l ≤ n) (hc : n ≤ c) (w : World) :
    (Instr.sliceAt t (.slice A n c) (some (.int kl zl)) none none).run P w = .ok (.slice (cutA A c l) (n - l) (c - l)) w := by
  obtain ⟨i, h1, h2⟩ := hi
  subst el
  rw [run_sliceAt_slice _ _ _ _ _ _ ht, run_slice_l _ _ _ _ _ ht _ _ (by omega) (by omega)]
  simp [sizeOf, typeInfo, h1, h2, sliced, cutA]
end
theorem tyU8 : Try.prog.underlying 24 = some (.slice (Try.prog.elem 24)) := by kernel_rfl
theorem oneU8 : ∃ i, Try.prog.info? (Try.prog.elem 24) = some i ∧ i.size = 1 := by
  obtain ⟨i, h1, h2, h3, h4⟩ := eltU8.info
  refine ⟨i, ?_, h3⟩
  have : Try.prog.elem 24 = 5 := by kernel_rfl
  rw [this]; exact h1
theorem tyRows : Try.prog.underlying 32 = some (.slice (Try.prog.elem 32)) := by kernel_rfl
theorem oneRows : ∃ i, Try.prog.info? (Try.prog.elem 32) = some i ∧ i.size = 1 := by
  obtain ⟨i, h1, h2, h3, h4⟩ := eltRowU8.info
  refine ⟨i, ?_, h3⟩
  have : Try.prog.elem 32 = 24 := by kernel_rfl
  rw [this]; exact h1
end Go.Proofs.Ytdoeelfcihdmbaa
/-
  Layer 7, what layer 8 takes of it: numbers put behind bytes; a reader over bytes of its own.
-/
namespace Go.Proofs.Ytdoeelfcihdmbaa
open Go.RowKit Gf
set_option maxRecDepth 20000
set_option linter.unusedVariables false

/-- bytes.Clone: the same bytes in memory of their own. -/
theorem bclone_n (A : Option Addr) (n c : Nat) (xs : List E) (w : World) (hn : xs.length = n) (hA : Rd w A (bs xs)) (hlen : n ≤ 140737488355328) :
    Calls Try.prog 115 #[.slice A n c] w fun e w' => ∃ v, e = .returned v ∧ Own w' w.heap.size 5 v (bs xs) ∧ Ext w w' := by
  have HN := Lib.hid hn
  have HA := Lib.hid hA
  have heq := fun w => Lib.run_eql_slice_nil (P := Try.prog) w 24 5 A n c 0 0 Try.underlying24
  rcases A with _ | ad
  · have hx0 : xs = [] := by
      rcases Nat.eq_zero_or_pos xs.length with h | h
      · exact List.eq_nil_of_length_eq_zero h
      · obtain ⟨ad, h1, _⟩ := hA (by rw [bs_length]; exact h)
        cases h1
    have HX := Lib.hid hx0
    clear hn hA hx0
    go_enter Try.func115, Try.ntmps115
    go_wp2_with fail
    go_ret
    exact ⟨_, rfl, by rw [HX.out]; exact Own.nil _ _ _, Ext.refl _⟩
  · have h0 : Own (w.alloc (.cells #[] 5)) w.heap.size 5 (.slice (some ⟨w.heap.size, 0, none⟩) 0 0) [] := (Blk.new w 5 #[]).own (Nat.le_refl _) (Nat.le_refl _) (Nat.zero_le _) rfl
    have hbd : (([] : List Value).length + n) * 1 ≤ 140737488355328 := by simp; omega
    clear hn hA
    go_enter Try.func115, Try.ntmps115
    go_wp2_with (at_builtin; refine wpList_app (w.alloc (.cells #[] 5)) eltU8 rfl _ _ (by rfl) w.heap.size (.slice (some ⟨w.heap.size, 0, none⟩) 0 0) [] (by rfl) (by exact h0) (some ad) n c (bs xs) (by rfl) (HA.out.alloc _) (by rw [bs_length, HN.out]) (bs_ones _) hbd (by simp) ?_)
    intro u w1 ho hmv
    have hx1 : Ext w w1 := ((Ext.refl w).alloc _).below.trans (hmv.below (by simp) fun g hg => by simp [Value.ownBlock] at hg; omega)
    have HO := Lib.hid ho
    have HX1 := Lib.hid hx1
    clear h0 hbd ho hmv hx1
    go_wp2_with fail
    go_ret
    exact ⟨u, rfl, HO.out, HX1.out⟩
theorem len64_u32 (w : World) : Calls Try.prog 181 #[.int .u64 4294967295] w fun e w' => e = .returned (.int .i64 32) ∧ w = w' := by
  go_enter Try.func181, Try.ntmps181
  go_wp2
  go_ret
  exact ⟨by kernel_rfl, rfl⟩
theorem len64_u8 (w : World) : Calls Try.prog 181 #[.int .u64 255] w fun e w' => e = .returned (.int .i64 8) ∧ w = w' := by
  go_enter Try.func181, Try.ntmps181
  go_wp2
  go_ret
  exact ⟨by kernel_rfl, rfl⟩
theorem width_u32 (w : World) : Calls Try.prog 158 #[] w fun e w' => e = .returned (.int .i64 4) ∧ w = w' := by
  have e0 : bits .xor .u32 IntKind.u32.max 0 = 4294967295 := by decide
  go_enter Try.func158, Try.ntmps158
  go_wp2_with fail
  refine (len64_u32 _).mono ?_
  rintro e w' ⟨rfl, rfl⟩
  go_wp2_with fail
  go_ret
  exact ⟨rfl, rfl⟩
theorem width_u8 (w : World) : Calls Try.prog 188 #[] w fun e w' => e = .returned (.int .i64 1) ∧ w = w' := by
  have e0 : bits .xor .u8 IntKind.u8.max 0 = 255 := by decide
  go_enter Try.func188, Try.ntmps188
  go_wp2_with fail
  refine (len64_u8 _).mono ?_
  rintro e w' ⟨rfl, rfl⟩
  go_wp2_with fail
  go_ret
  exact ⟨rfl, rfl⟩
theorem le_take {n v k : Nat} (h : k < n) : (le n v).take (k + 1) = (le n v).take k ++ [E.of (v / 256 ^ k % 256)] := by
  have hl : k < (le n v).length := by rw [le_length]; exact h
  rw [take_snoc' _ k hl]
  have := le_get n v k h
  rw [List.getElem?_eq_getElem hl] at this
  rw [Option.some.inj this]
set_option maxHeartbeats 2000000 in
theorem put32_n (A : Option Addr) (n c v : Nat) (xs : List E) (w : World) (hn : xs.length = n) (hA : Rd w A (bs xs)) (hlen : n ≤ 100000000000) (hv : v < 2 ^ 32) :
    Calls Try.prog 105 #[.slice A n c, .int .u32 (v : Int)] w fun e w' => ∃ u, e = .returned u ∧ Own w' w.heap.size 5 u (bs (xs ++ le 4 v)) ∧ Ext w w' := by
  have HN := Lib.hid hn
  have HA := Lib.hid hA
  clear hn hA
  go_enter Try.func105, Try.ntmps105
  go_wp2_with fail
  refine (bclone_n A n c xs _ HN.out HA.out (by omega)).mono ?_
  rintro e w1 ⟨v1, rfl, ho, hx⟩
  have HO := Lib.hid ho
  have HX := Lib.hid hx
  clear ho hx
  go_wp2_with fail
  refine (width_u32 _).mono ?_
  rintro e w' ⟨rfl, rfl⟩
  go_wp2_with fail
  go_loopw [5, 10] (fun u i wr => ∃ (k : Nat) (u' : Value), u' = u ∧ k ≤ 4 ∧ i = .int .i64 k ∧ Ext w wr ∧ Own wr w.heap.size 5 u' (bs (xs ++ (le 4 v).take k))) (fun _ i _ => 4 - (intOf i).toNat)
  case atStart => exact ⟨0, _, rfl, by omega, rfl, HX.out, by simpa using HO.out⟩
  case round =>
    clear HO HX
    obtain ⟨W, rfl⟩ : ∃ W, W = wr := ⟨_, rfl⟩
    obtain ⟨k, u, rfl, hk, rfl, hx, ho⟩ := hrel
    obtain ⟨A1, n1, cu, rfl⟩ : ∃ A n c, u = Value.slice A n c := by obtain ⟨A, c, h⟩ := ho.anySlice; exact ⟨_, _, _, h⟩
    by_cases hlt : k < 4
    · have hbd : ((bs (xs ++ (le 4 v).take k)).length + 1) * 1 ≤ 140737488355328 := by rw [bs_length, List.length_append, HN.out, List.length_take]; omega
      have hle : w.heap.size ≤ W.heap.size := hx.le
      have HX := Lib.hid hx
      have HO := Lib.hid ho
      have HT := Lib.hid (le_take (v := v) hlt)
      have HF : Hid (((v : Int) / 2 ^ (8 * k)) % 256 = ((E.of (v / 256 ^ k % 256)).val : Int)) := Lib.hid (by
        rw [E.val_of (Nat.mod_lt _ (by decide))]
        obtain rfl | rfl | rfl | rfl : k = 0 ∨ k = 1 ∨ k = 2 ∨ k = 3 := by omega
        all_goals simp)
      obtain ⟨k2, hk2⟩ : ∃ k2, k2 = k + 1 := ⟨_, rfl⟩
      have HK := Lib.hid hk2
      clear hx ho hk2
      obtain rfl | rfl | rfl | rfl : k = 0 ∨ k = 1 ∨ k = 2 ∨ k = 3 := by omega
      all_goals
        go_wp2_with (at_builtin; refine wpList_push2 W eltU8 rfl _ _ (by rfl) w.heap.size (.slice A1 n1 cu) _ (by rfl) (by exact HO.out) _ W.heap.size rfl (by rfl) rfl hbd hle ?_)
        intro u2 w2 h1 h2 h3 h4
        have HP := Lib.hid (And.intro (HX.out.below.trans h3) h1)
        clear h1 h2 h3 h4 hbd hle
        go_wp2_with fail
        go_roundw
        case rel => exact ⟨k2, u2, rfl, by rw [HK.out]; decide, by rw [HK.out]; rfl, HP.out.1, by have h := HP.out.2; rw [HK.out, HT.out, ← List.append_assoc, bs_append, bs_one, ← HF.out]; first | simpa using h | (have e3 : (v : Int) / 16777216 % 256 = (v : Int) / 16777216 := (by omega); simpa [e3] using h)⟩
        case measure => simp [intOf]
    · obtain rfl : k = 4 := by omega
      have HO : Hid (Own W w.heap.size 5 (.slice A1 n1 cu) (bs (xs ++ le 4 v))) := Lib.hid (by
        rw [List.take_of_length_le (by rw [le_length]; exact Nat.le_refl _)] at ho; exact ho)
      have HX := Lib.hid hx
      clear ho hx
      go_wp2_with fail
      go_ret
      exact ⟨_, rfl, HO.out, HX.out⟩
/-- A reader: over which bytes, where. -/
def RdrAt (w : World) (g : Nat) (xs : List E) (at_ : Nat) : Prop := ∃ A c, Blk w g 242 #[.slice A xs.length c, .int .i64 (at_ : Int), .int .i64 0] ∧ Rd w A (bs xs) ∧ (∀ ad, A = some ad → ad.block < g) ∧ xs.length ≤ c ∧ c ≤ maxLen ∧ at_ ≤ xs.length
theorem open_n (A : Option Addr) (n c : Nat) (xs : List E) (w : World) (hn : xs.length = n) (hA : Rd w A (bs xs)) (hlen : n ≤ 100000000000) :
    Calls Try.prog 165 #[.slice A n c] w fun e w' => ∃ g, e = .returned (.pointer (some ⟨g, 0, none⟩)) ∧ RdrAt w' g xs 0 ∧ Ext w w' ∧ w.heap.size ≤ g := by
  have HN := Lib.hid hn
  have HA := Lib.hid hA
  clear hn hA
  go_enter Try.func165, Try.ntmps165
  go_wp2_with fail
  refine (bclone_n A n c xs _ HN.out HA.out (by omega)).mono ?_
  rintro e w1 ⟨v1, rfl, ho, hx⟩
  obtain ⟨A1, c1, rfl, k1, k2, k3, k4⟩ := ho.slice
  rw [bs_length] at k2 ⊢
  have HR : Hid (RdrAt (w1.alloc (.cells #[.slice A1 xs.length c1, .int .i64 0, .int .i64 0] 242)) w1.heap.size xs 0 ∧ Ext w (w1.alloc (.cells #[.slice A1 xs.length c1, .int .i64 0, .int .i64 0] 242)) ∧ w.heap.size ≤ w1.heap.size) := Lib.hid
    ⟨⟨A1, c1, Blk.new _ _ _, k1.alloc _, fun ad h => (k4 ad h).2, k2, k3, Nat.zero_le _⟩, hx.alloc _, hx.le⟩
  clear ho hx k1 k2 k3 k4
  go_wp2_with fail
  go_ret
  exact ⟨_, rfl, HR.out.1, HR.out.2.1, HR.out.2.2⟩
theorem must_n (z : Int) (w : World) : Calls Try.prog 185 #[.bool true, .int .i64 z] w fun e w' => e = .returned (.tuple #[]) ∧ w = w' := by
  go_enter Try.func185, Try.ntmps185
  go_wp2_with fail
  refine bodyPost_end (results_none rfl _ _ _) rfl ?_
  exact ⟨rfl, rfl⟩
theorem take_n (g at_ k : Nat) (xs : List E) (w : World) (hR : RdrAt w g xs at_) (hk : at_ + k ≤ xs.length) :
    Calls Try.prog 186 #[.pointer (some ⟨g, 0, none⟩), .int .u64 (k : Int)] w fun e w' => ∃ A c, e = .returned (.slice A k c) ∧ Rd w' A (bs ((xs.drop at_).take k)) ∧ RdrAt w' g xs (at_ + k) ∧ Touch (fun b => b = g) w w' := by
  obtain ⟨A, c, hb, hrd, hne, hxc, hcm, hat⟩ := hR
  have hmo : Try.prog.follows Departure.mixedOrders = true := by kernel_rfl
  have hwd : Fence.wide.depth = none := rfl
  have hwf : ∀ f, Fence.wide.fn f := fun _ => trivial
  have c0 := hb.cell 0
  have c1 := hb.cell 1
  have f1 := hb.frozen 1
  simp at c0 c1
  obtain ⟨L, hL⟩ : ∃ L, L = xs.length := ⟨_, rfl⟩
  rw [← hL] at c0 hk hxc hat
  unfold maxLen at hcm
  have HB := Lib.hid (And.intro hb (And.intro hrd hne))
  have HL := Lib.hid hL
  have g1 : decide ((k : Int) ≤ (L : Int) - (at_ : Int)) = true := decide_eq_true (by omega)
  clear hb hrd hne hL
  go_enter Try.func186, Try.ntmps186
  go_wp2_with fail
  have hw1 : IntKind.i64.wrap ((L : Int) - (at_ : Int)) = (L : Int) - (at_ : Int) := by rw [IntKind.wrap_i64]; omega
  have hw2 : IntKind.u64.wrap ((L : Int) - (at_ : Int)) = (L : Int) - (at_ : Int) := by rw [IntKind.wrap_u64]; omega
  go_quiet ((go_at_call 185; with_reducible exact quiet_left (must_n _ _)))
  go_wp2_with fail
  have hsl := fun w => slice_lh tyU8 oneU8 A L c at_ (at_ + k) .i64 .i64 (at_ : Int) ((at_ : Int) + (k : Int)) rfl (by omega) (by omega) (by omega) w
  rw [show at_ + k - at_ = k by omega] at hsl
  have hw3 : IntKind.i64.wrap ((at_ : Int) + (k : Int)) = (at_ : Int) + (k : Int) := by rw [IntKind.wrap_i64]; omega
  have hw4 : IntKind.i64.wrap (k : Int) = (k : Int) := by rw [IntKind.wrap_i64]; omega
  clear hw1 hw2
  go_quiet (fail)
  clear hw3 hw4 hsl
  go_wp2_with fail
  refine bodyPost_ret (results_tmp rfl _ _ _) rfl ?_
  refine ⟨_, _, rfl, ?_, ⟨A, c, ?_, ?_, HB.out.2.2, by rw [← HL.out]; exact hxc, by unfold maxLen; exact hcm, by rw [← HL.out]; exact hk⟩, ?_⟩
  · rw [bs_take, bs_drop]
    exact Rd.piece ((HB.out.2.1.drewN _).setCell (p := ⟨g, 1, none⟩) (fun ad h => Nat.ne_of_lt (HB.out.2.2 ad h)) _) (by rw [bs_length, ← HL.out]; exact hat) (by rw [bs_length, ← HL.out]; exact hxc)
  · rw [show ((at_ + k : Nat) : Int) = (at_ : Int) + (k : Int) by omega]
    exact (HB.out.1.drewN _).set_eq 1 _ (by simp)
  · exact (HB.out.2.1.drewN _).setCell (p := ⟨g, 1, none⟩) (fun ad h => Nat.ne_of_lt (HB.out.2.2 ad h)) _
  · exact (((Ext.refl w).drewN _).touch).put 1 _
end Go.Proofs.Ytdoeelfcihdmbaa
/-
  Layer 7, what layer 8 takes of it: a reading, all of it or nothing (here: all of it).
-/
namespace Go.Proofs.Ytdoeelfcihdmbaa
open Go.RowKit Gf
set_option maxRecDepth 20000
set_option linter.unusedVariables false

theorem assert_nil (w : World) : (Instr.typeAssert Value.nilIface 20 46 true).run Try.prog w = .ok (.tuple #[.int .i64 0, .bool false]) w := by kernel_rfl
set_option maxHeartbeats 1000000 in
theorem recov_n (p q : Addr) (w : World) : CallsD Try.prog 199 #[.pointer (some p), .pointer (some q)] .returning w fun e u' w' => e = .returned (.tuple #[]) ∧ u' = .returning ∧ w' = w := by
  refine callsD_of_wpS Try.func199 rfl fun c₀ cs hu => ?_
  apply wpS_seq
  apply wpS_region
  simp [wpOpsS, go_sem, recoverD, hu, Try.ntmps199, Exit.thenS, assert_nil]
  apply wpS_seq
  apply wpS_region
  simp [wpOpsS, go_sem, Exit.thenS]
  refine wpS_cond (t := false) (by simp [Act.eval, Array.replicate]) ?_
  simp only [Bool.false_eq_true, if_false]
  refine wpS_of_wp (wp_skip ?_)
  cases c₀
  simp_all [bodyPostS, results, Try.results199]
theorem make_func (fn : Fn) (first cap : Array Value) (w : World) : (Instr.makeFunc fn first cap).run Try.prog w = .ok (.func fn first cap) w := rfl
set_option maxHeartbeats 2000000 in
theorem reading_n (g : Nat) (K : FuncId) (cap : Array Value) (xs : List E) (at_ : Nat) (w : World) (Q : World → Prop) (hR : RdrAt w g xs at_)
    (eg : ∀ args w, (callFunc K args).run Try.prog w = .ok (.enter K args) w) (hdo : ∀ w1, Ext w w1 → Calls Try.prog K cap w1 fun e w' => e = .returned (.tuple #[]) ∧ Q w') :
    Calls Try.prog 183 #[.pointer (some ⟨g, 0, none⟩), .func (.func K) #[] cap] w fun e w' => e = .returned (.tuple #[]) ∧ Q w' := by
  obtain ⟨A, c, hb, -⟩ := hR
  have HB := Lib.hid hb
  have hmf := make_func
  have HD := Lib.hid hdo
  have c1 := (hb.alloc (.cells #[.pointer (some ⟨g, 0, none⟩)] 221)).cell 1
  have c2 := (hb.alloc (.cells #[.pointer (some ⟨g, 0, none⟩)] 221)).cell 2
  simp at c1 c2
  clear hb hdo
  go_enter_defers Try.func183, Try.ntmps183
  go_wp2_with fail
  refine (HD.out _ (((Ext.refl w).alloc _).alloc _)).mono ?_
  rintro e w1 ⟨rfl, hq⟩
  have HQ := Lib.hid hq
  clear hq c1 c2
  go_wp2_with fail
  refine leaves_cons (f := 199) (args := #[.pointer (some ⟨w.heap.size + 1, 0, none⟩), .pointer (some ⟨w.heap.size, 0, none⟩)]) (by simp) (by simp [go_sem]) ?_
  refine (recov_n _ _ _).mono ?_
  rintro e u' w'' ⟨rfl, rfl, rfl⟩
  simp [Leaves, settle, results, Try.results183, go_sem]
  exact HQ.out
end Go.Proofs.Ytdoeelfcihdmbaa
