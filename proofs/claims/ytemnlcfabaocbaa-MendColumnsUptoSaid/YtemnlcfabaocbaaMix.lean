/-
  A region that draws its order, of operations that only read, of calls that go one behind the other and lay new memory, and of stores at the end: one walk of the lexical order serves every order.
-/
import Derived.Test.YtemnlcfabaocbaaQuiet
namespace Go.Proofs.Ytemnlcfabaocbaa
open Go
set_option linter.unusedVariables false

section
variable {P : Program} {ops : Array Oper} {C : World → Prop} {L : Nat → Nat} {Q : Act → World → Prop}

/-- An operation that only reads: in every world of the class the same value, the world as it was. -/
def still (P : Program) (C : World → Prop) (o : Oper) (a : Act) (v : Value) : Prop := ∀ w, C w → (execOp a.eval o).run P w = .ok (.value v) w
/-- An operation that goes on to a world of its own. -/
def loudly (P : Program) (o : Oper) (a : Act) (w : World) (K : Value → World → Prop) : Prop :=
  (∃ u w', (execOp a.eval o).run P w = .ok (.value u) w' ∧ K u w') ∨ (∃ w', (execOp a.eval o).run P w = .ok .skip w' ∧ K undef w') ∨
  (∃ f args w', (execOp a.eval o).run P w = .ok (.enter f args) w' ∧ Calls P f args w' fun e w'' => ∃ u, e = .returned u ∧ K u w'')
theorem loudly.mono {o : Oper} {a : Act} {w : World} {K K' : Value → World → Prop} (h : loudly P o a w K) (hk : ∀ u w', K u w' → K' u w') : loudly P o a w K' := by
  rcases h with ⟨u, w', h1, h2⟩ | ⟨w', h1, h2⟩ | ⟨f, args, w', h1, h2⟩
  · exact .inl ⟨u, w', h1, hk _ _ h2⟩
  · exact .inr (.inl ⟨w', h1, hk _ _ h2⟩)
  · exact .inr (.inr ⟨f, args, w', h1, h2.mono fun e w'' ⟨u, he, h3⟩ => ⟨u, he, hk _ _ h3⟩⟩)
theorem loudly.some {o : Oper} {a : Act} {w : World} {K : Value → World → Prop} (h : loudly P o a w K) : ∃ u w', K u w' := by
  rcases h with ⟨u, w', h1, h2⟩ | ⟨w', h1, h2⟩ | ⟨f, args, w', h1, h2⟩
  · exact ⟨u, w', h2⟩
  · exact ⟨_, w', h2⟩
  · obtain ⟨e, w'', fr, ⟨u, he, h3⟩, _⟩ := h2 []
    exact ⟨u, w'', h3⟩
theorem loudly.of_same {o : Oper} {a a' : Act} {w : World} {K : Value → World → Prop} (h : loudly P o a w K) (he : execOp a'.eval o = execOp a.eval o) : loudly P o a' w K := by
  unfold loudly at *
  rw [he]
  exact h
theorem loudly.wp {o : Oper} {a : Act} {w : World} {K : Act → World → Prop} {Q' : Exit → Act → World → Prop} (h : loudly P o a w (fun u w' => K (a.put o.dst u) w')) : o.wp P a w K Q' := by
  unfold Oper.wp
  rcases h with ⟨u, w', h1, h2⟩ | ⟨w', h1, h2⟩ | ⟨f, args, w', h1, h2⟩
  · rw [h1]; exact h2
  · rw [h1]; exact h2
  · rw [h1]
    refine h2.mono fun e w'' ⟨u, he, h3⟩ => ?_
    subst he
    exact h3

/-- 0: it reads; 3: it looks at no memory; else it goes on. -/
def isQ (l : Nat) : Prop := l = 0 ∨ l = 3
def cls (C : World → Prop) (l : Nat) : World → Prop := fun w => l = 0 → C w
def mOp (P : Program) (ops : Array Oper) (C : World → Prop) (L : Nat → Nat) (i : Nat) (K : Act → World → Prop) (a : Act) (w : World) : Prop :=
  ∃ o, ops[i]? = some o ∧ o.guard = none ∧ ((isQ (L i) ∧ ∃ v, still P (cls C (L i)) o a v ∧ K (a.put o.dst v) w) ∨ (¬ isQ (L i) ∧ loudly P o a w (fun u w' => (L i = 1 → C w') ∧ K (a.put o.dst u) w')))
theorem mOp_mono {i : Nat} {K K' : Act → World → Prop} {a : Act} {w : World} (h : mOp P ops C L i K a w) (hk : ∀ a w, K a w → K' a w) : mOp P ops C L i K' a w := by
  obtain ⟨o, ho, hg, ⟨hl, v, h1, h2⟩ | ⟨hl, h1⟩⟩ := h
  · exact ⟨o, ho, hg, .inl ⟨hl, v, h1, hk _ _ h2⟩⟩
  · exact ⟨o, ho, hg, .inr ⟨hl, h1.mono fun u w' ⟨h2, h3⟩ => ⟨h2, hk _ _ h3⟩⟩⟩
def wpM (P : Program) (ops : Array Oper) (C : World → Prop) (L : Nat → Nat) (Q : Act → World → Prop) : Nat → Array Bool → Act → World → Prop
  | 0, listed, a, w => Region.ready .any ops listed = [] ∧ Q a w
  | fuel + 1, listed, a, w => (Region.ready .any ops listed = [] → Q a w) ∧ ∀ i ∈ Region.ready .any ops listed, mOp P ops C L i (wpM P ops C L Q fuel (listed.setIfInBounds i true)) a w
/-- Something that reads is still to come. -/
def qleft (ops : Array Oper) (L : Nat → Nat) (listed : Array Bool) : Prop := ∃ j, j < ops.size ∧ listed.getD j true = false ∧ L j = 0
theorem qleft_set {listed : Array Bool} {i : Nat} (h : qleft ops L (listed.setIfInBounds i true)) : qleft ops L listed := by
  obtain ⟨j, hj, h1, h2⟩ := h
  refine ⟨j, hj, ?_, h2⟩
  by_cases hi : i = j
  · subst hi
    rcases Nat.lt_or_ge i listed.size with h | h
    · simp [Array.getD, h] at h1
    · simp [Array.getD] at h1
  · rwa [getD_set_ne true hi] at h1

/-- What is asked of the text: the last ones wait for all that read; those that go on wait for the one before. -/
def reach (ops : Array Oper) : Nat → Nat → Nat → Bool
  | 0, _, _ => false
  | f + 1, j, i => match ops[j]? with
    | none => false
    | some o => o.after.any (fun e => Region.binds .any e && (e.on == i || reach ops f e.on i))
/-- What is listed came behind what it waits for. -/
def Closed (ops : Array Oper) (listed : Array Bool) : Prop := ∀ (j : Nat) (o : Oper), ops[j]? = some o → listed.getD j false = true → ∀ e ∈ o.after, Region.binds .any e = true → listed.getD e.on false = true
theorem Closed.reach {listed : Array Bool} (h : Closed ops listed) : ∀ (f j i : Nat), listed.getD j false = true → reach ops f j i = true → listed.getD i false = true
  | 0, _, _, _, hr => by simp [Go.Proofs.Ytemnlcfabaocbaa.reach] at hr
  | f + 1, j, i, hj, hr => by
    unfold Go.Proofs.Ytemnlcfabaocbaa.reach at hr
    cases ho : ops[j]? with
    | none => rw [ho] at hr; cases hr
    | some o =>
      rw [ho] at hr
      obtain ⟨e, he, hb⟩ := Array.any_eq_true'.1 hr
      simp only [Bool.and_eq_true, Bool.or_eq_true, beq_iff_eq] at hb
      have h1 := h j o ho hj e he hb.1
      rcases hb.2 with h2 | h2
      · rw [← h2]; exact h1
      · exact Closed.reach h f e.on i h1 h2
theorem Closed.ready {listed : Array Bool} (h : Closed ops listed) {f j i : Nat} (hj : j ∈ Region.ready .any ops listed) (hr : Go.Proofs.Ytemnlcfabaocbaa.reach ops f j i = true) : listed.getD i false = true := by
  obtain ⟨_, o, ho, hall⟩ := mem_ready.1 hj
  cases f with
  | zero => simp [Go.Proofs.Ytemnlcfabaocbaa.reach] at hr
  | succ f =>
    unfold Go.Proofs.Ytemnlcfabaocbaa.reach at hr
    rw [ho] at hr
    obtain ⟨e, he, hb⟩ := Array.any_eq_true'.1 hr
    simp only [Bool.and_eq_true, Bool.or_eq_true, beq_iff_eq] at hb
    have h1 := hall e he hb.1
    rcases hb.2 with h2 | h2
    · rw [← h2]; exact h1
    · exact Closed.reach h f e.on i h1 h2
theorem Closed.set {listed : Array Bool} (h : Closed ops listed) {j : Nat} (hj : j ∈ Region.ready .any ops listed) : Closed ops (listed.setIfInBounds j true) := by
  intro k o ho hk e he hb
  by_cases hjk : j = k
  · subst hjk
    obtain ⟨_, o', ho', hall⟩ := mem_ready.1 hj
    rw [ho] at ho'
    injection ho' with ho'
    subst ho'
    exact getD_set_true (hall e he hb)
  · rw [getD_set_ne false hjk] at hk
    exact getD_set_true (h k o ho hk e he hb)
theorem listed_both {listed : Array Bool} {i : Nat} (hi : i < listed.size) (h : listed.getD i false = true) (h' : listed.getD i true = false) : False := by
  simp [Array.getD, hi] at h h'
  rw [h] at h'
  cases h'
structure Ordered (ops : Array Oper) (L : Nat → Nat) : Prop where
  last : ∀ (j : Nat), j < ops.size → ¬ isQ (L j) → L j ≠ 1 → ∀ i, i < ops.size → L i = 0 → reach ops ops.size j i = true
  prev : ∀ (j : Nat) (o : Oper), ops[j]? = some o → ¬ isQ (L j) → ∀ i, i < j → ¬ isQ (L i) → ∃ e ∈ o.after, Region.binds .any e = true ∧ i ≤ e.on ∧ e.on < j ∧ ¬ isQ (L e.on)
  sel : ∀ (j : Nat) (o : Oper) (cs : Array SelectCase) (b : Bool), ops[j]? = some o → o.op ≠ .select cs b
  guard : ∀ (j : Nat) (o : Oper), ops[j]? = some o → o.guard = none

theorem not_ready {listed : Array Bool} {j k : Nat} {o : Oper} (ho : ops[j]? = some o) (h : ∃ e ∈ o.after, Region.binds .any e = true ∧ e.on = k) (hk : k < ops.size) (hz : listed.size = ops.size) (hl : listed.getD k true = false) : j ∉ Region.ready .any ops listed := by
  intro hr
  obtain ⟨_, o', ho', hall⟩ := mem_ready.1 hr
  rw [ho] at ho'
  injection ho' with ho'
  subst ho'
  obtain ⟨e, he, hb, rfl⟩ := h
  have := hall e he hb
  have hb2 : e.on < listed.size := by omega
  simp [Array.getD, hb2] at this hl
  rw [this] at hl
  cases hl

theorem first_still {i : Nat} {oi : Oper} {v : Value} (hO : Ordered ops L) (hi : ops[i]? = some oi) (hL : isQ (L i)) :
    ∀ (fuel : Nat) (listed : Array Bool) (a : Act) (w : World), listed.size = ops.size → Closed ops listed → (qleft ops L listed → C w) →
      (∀ j oj, ops[j]? = some oj → j ≠ i → listed.getD j true = false → (∀ e ∈ oj.after, Region.binds .any e = true → e.on ≠ i) → oi.apart ops oj = true) →
      i ∈ Region.ready .any ops listed → still P (cls C (L i)) oi a v →
      wpM P ops C L Q fuel (listed.setIfInBounds i true) (a.put oi.dst v) w → wpM P ops C L Q (fuel + 1) listed a w := by
  have his : i < ops.size := (Array.getElem?_eq_some_iff.1 hi).1
  intro fuel
  induction fuel with
  | zero =>
    intro listed a w hz hcl hC hfree hr hy H
    refine ⟨fun h => (by rw [h] at hr; cases hr), fun j hj => ?_⟩
    by_cases hji : j = i
    · subst hji; exact ⟨oi, hi, hO.guard _ _ hi, .inl ⟨hL, v, hy, H⟩⟩
    · have := ready_mono hj hji
      rw [H.1] at this
      cases this
  | succ fuel ih =>
    intro listed a w hz hcl hC hfree hr hy H
    refine ⟨fun h => (by rw [h] at hr; cases hr), fun j hj => ?_⟩
    by_cases hji : j = i
    · subst hji; exact ⟨oi, hi, hO.guard _ _ hi, .inl ⟨hL, v, hy, H⟩⟩
    · obtain ⟨oj, hoj, hgj, hcase⟩ := H.2 j (ready_mono hj hji)
      have hun := (mem_ready.1 hr).1
      have hjun := (mem_ready.1 hj).1
      have hnot : ∀ e ∈ oj.after, Region.binds .any e = true → e.on ≠ i := fun e he hb heq => not_ready hoj ⟨e, he, hb, heq⟩ his hz hun hj
      obtain ⟨h1, h2, h3⟩ := Oper.apart_spec (hfree j oj hoj hji hjun hnot)
      have hsi := hO.sel i oi
      have hsj := hO.sel j oj
      have keep : ∀ u, still P (cls C (L i)) oi (a.put oj.dst u) v := fun u w hw => by rw [execOp_put oi (fun cs b => hsi cs b hi) a oj.dst u h3]; exact hy w hw
      have eqj : execOp a.eval oj = execOp (a.put oi.dst v).eval oj := (execOp_put oj (fun cs b => hsj cs b hoj) a oi.dst v h1).symm
      have hfree' : ∀ k ok, ops[k]? = some ok → k ≠ i → (listed.setIfInBounds j true).getD k true = false → (∀ e ∈ ok.after, Region.binds .any e = true → e.on ≠ i) → oi.apart ops ok = true := fun k ok hk hki hunk hno => by
        refine hfree k ok hk hki ?_ hno
        by_cases hjk : j = k
        · subst hjk; exact hjun
        · rwa [getD_set_ne true hjk] at hunk
      have hz' : (listed.setIfInBounds j true).size = ops.size := by simpa using hz
      have hr' := ready_mono hr (Ne.symm hji)
      rcases hcase with ⟨hl, u, hu, hn⟩ | ⟨hl, hn⟩
      · refine ⟨oj, hoj, hgj, .inl ⟨hl, u, fun w' hw' => by rw [eqj]; exact hu w' hw', ?_⟩⟩
        refine ih (listed.setIfInBounds j true) (a.put oj.dst u) w hz' (hcl.set hj) (fun h => hC (qleft_set h)) hfree' hr' (keep u) ?_
        rw [Array.setIfInBounds_comm _ _ hji, ← Act.put_comm a v u h2]
        exact hn
      · have hjs : j < ops.size := (Array.getElem?_eq_some_iff.1 hoj).1
        refine ⟨oj, hoj, hgj, .inr ⟨hl, (loudly.of_same hn eqj).mono fun u w' ⟨hc, hn⟩ => ⟨hc, ?_⟩⟩⟩
        refine ih (listed.setIfInBounds j true) (a.put oj.dst u) w' hz' (hcl.set hj) (fun hq => ?_) hfree' hr' (keep u) ?_
        · by_cases hl1 : L j = 1
          · exact hc hl1
          · obtain ⟨q, hq1, hq2, hq3⟩ := qleft_set hq
            exact (listed_both (by omega) (hcl.ready hj (hO.last j hjs hl hl1 q hq1 hq3)) hq2).elim
        · rw [Array.setIfInBounds_comm _ _ hji, ← Act.put_comm a v u h2]
          exact hn

theorem first_loud {i : Nat} {oi : Oper} (hO : Ordered ops L) (hi : ops[i]? = some oi) (hL : ¬ isQ (L i)) :
    ∀ (fuel : Nat) (listed : Array Bool) (a : Act) (w : World), listed.size = ops.size → Closed ops listed → (qleft ops L listed → C w) →
      (∀ j oj, ops[j]? = some oj → j ≠ i → listed.getD j true = false → (∀ e ∈ oj.after, Region.binds .any e = true → e.on ≠ i) → oi.apart ops oj = true) →
      (∀ j, j < i → ¬ isQ (L j) → listed.getD j true = true) → (∀ j, i ≤ j → j < ops.size → ¬ isQ (L j) → listed.getD j true = false) →
      i ∈ Region.ready .any ops listed →
      mOp P ops C L i (wpM P ops C L Q fuel (listed.setIfInBounds i true)) a w → wpM P ops C L Q (fuel + 1) listed a w := by
  have his : i < ops.size := (Array.getElem?_eq_some_iff.1 hi).1
  have quiet : ∀ (listed : Array Bool) (j : Nat), listed.size = ops.size → (∀ j, j < i → ¬ isQ (L j) → listed.getD j true = true) → (∀ j, i ≤ j → j < ops.size → ¬ isQ (L j) → listed.getD j true = false) →
      j ∈ Region.ready .any ops listed → j ≠ i → isQ (L j) := by
    intro listed j hz hlo hhi hj hji
    by_cases hz0 : isQ (L j)
    · exact hz0
    · exfalso
      obtain ⟨hun, oj, hoj, _⟩ := mem_ready.1 hj
      rcases Nat.lt_or_ge j i with h | h
      · rw [hlo j h hz0] at hun; cases hun
      · obtain ⟨e, he, hb, h1, h2, h3⟩ := hO.prev j oj hoj hz0 i (by omega) hL
        have hjs : j < ops.size := (Array.getElem?_eq_some_iff.1 hoj).1
        exact not_ready hoj ⟨e, he, hb, rfl⟩ (by omega) hz (hhi e.on h1 (by omega) h3) hj
  intro fuel
  induction fuel with
  | zero =>
    intro listed a w hz hcl hC hfree hlo hhi hr H
    refine ⟨fun h => (by rw [h] at hr; cases hr), fun j hj => ?_⟩
    by_cases hji : j = i
    · subst hji; exact H
    · have h1 := ready_mono hj hji
      obtain ⟨o, ho, hg, ⟨hl, _⟩ | ⟨hl, hn⟩⟩ := H
      · exact absurd hl hL
      · obtain ⟨u, w', _, hk⟩ := hn.some
        rw [hk.1] at h1
        cases h1
  | succ fuel ih =>
    intro listed a w hz hcl hC hfree hlo hhi hr H
    refine ⟨fun h => (by rw [h] at hr; cases hr), fun j hj => ?_⟩
    by_cases hji : j = i
    · subst hji; exact H
    · have hq := quiet listed j hz hlo hhi hj hji
      obtain ⟨hjun, oj, hoj, _⟩ := mem_ready.1 hj
      have hun := (mem_ready.1 hr).1
      have hjs : j < ops.size := (Array.getElem?_eq_some_iff.1 hoj).1
      have hCw : cls C (L j) w := fun h0 => hC ⟨j, hjs, hjun, h0⟩
      have hnot : ∀ e ∈ oj.after, Region.binds .any e = true → e.on ≠ i := fun e he hb heq => not_ready hoj ⟨e, he, hb, heq⟩ his hz hun hj
      obtain ⟨h1, h2, h3⟩ := Oper.apart_spec (hfree j oj hoj hji hjun hnot)
      have hsi := hO.sel i oi
      have hsj := hO.sel j oj
      have eqj : ∀ u, execOp (a.put oi.dst u).eval oj = execOp a.eval oj := fun u => execOp_put oj (fun cs b => hsj cs b hoj) a oi.dst u h1
      have eqi : ∀ u, execOp (a.put oj.dst u).eval oi = execOp a.eval oi := fun u => execOp_put oi (fun cs b => hsi cs b hi) a oj.dst u h3
      have hjr : j ∈ Region.ready .any ops (listed.setIfInBounds i true) := ready_mono hj hji
      obtain ⟨o, ho, hg, ⟨hl, _⟩ | ⟨hl, hn⟩⟩ := H
      · exact absurd hl hL
      · rw [hi] at ho
        injection ho with ho
        subst ho
        -- what j reads, whatever i came to
        have pick : ∀ u w', wpM P ops C L Q (fuel + 1) (listed.setIfInBounds i true) (a.put oi.dst u) w' → ∃ v, still P (cls C (L j)) oj a v ∧ wpM P ops C L Q fuel ((listed.setIfInBounds i true).setIfInBounds j true) ((a.put oi.dst u).put oj.dst v) w' := fun u w' hk => by
          obtain ⟨o', ho', _, ⟨_, v, hv, hk'⟩ | ⟨hl', _⟩⟩ := hk.2 j hjr
          · rw [hoj] at ho'
            injection ho' with ho'
            subst ho'
            exact ⟨v, fun w'' hw'' => by rw [← eqj u]; exact hv w'' hw'', hk'⟩
          · exact absurd hq hl'
        obtain ⟨u1, w1, _, hk1⟩ := hn.some
        obtain ⟨v, hv, _⟩ := pick u1 w1 hk1
        refine ⟨oj, hoj, hO.guard _ _ hoj, .inl ⟨hq, v, hv, ?_⟩⟩
        have hz' : (listed.setIfInBounds j true).size = ops.size := by simpa using hz
        refine ih (listed.setIfInBounds j true) (a.put oj.dst v) w hz' (hcl.set hj) (fun h => hC (qleft_set h)) ?_ ?_ ?_ (ready_mono hr (Ne.symm hji)) ⟨oi, hi, hg, .inr ⟨hl, ?_⟩⟩
        · intro k ok hk hki hunk hno
          refine hfree k ok hk hki ?_ hno
          by_cases hjk : j = k
          · subst hjk; exact hjun
          · rwa [getD_set_ne true hjk] at hunk
        · intro k hk hlk
          have hjk : j ≠ k := fun e => by subst e; exact hlk hq
          rw [getD_set_ne true hjk]
          exact hlo k hk hlk
        · intro k hk hks hlk
          have hjk : j ≠ k := fun e => by subst e; exact hlk hq
          rw [getD_set_ne true hjk]
          exact hhi k hk hks hlk
        · refine (loudly.of_same hn (eqi v)).mono fun u w' ⟨hc, hk⟩ => ⟨hc, ?_⟩
          obtain ⟨v', hv', hk'⟩ := pick u w' hk
          have e : v' = v := by
            have e1 := hv w hCw
            rw [hv' w hCw] at e1
            injection e1 with e1
            injection e1
          subst e
          rw [Array.setIfInBounds_comm _ _ hji, ← Act.put_comm a u v' (fun d hd => h2 d hd)]
          exact hk'

instance (l : Nat) : Decidable (isQ l) := inferInstanceAs (Decidable (l = 0 ∨ l = 3))
def orderedB (ops : Array Oper) (L : Nat → Nat) : Bool :=
  Region.noSelect ops && ops.all (fun o => o.guard.isNone) &&
  (List.range ops.size).all (fun j => match ops[j]? with
    | none => true
    | some o => (decide (isQ (L j)) || decide (L j = 1) || (List.range ops.size).all (fun i => decide (L i ≠ 0) || reach ops ops.size j i)) &&
      (decide (isQ (L j)) || (List.range j).all (fun i => decide (isQ (L i)) || o.after.any (fun e => Region.binds .any e && decide (i ≤ e.on) && decide (e.on < j) && decide (¬ isQ (L e.on))))))
theorem ordered_of (h : orderedB ops L = true) : Ordered ops L := by
  simp only [orderedB, Bool.and_eq_true, List.all_eq_true, List.mem_range] at h
  obtain ⟨⟨hs, hg⟩, hj⟩ := h
  have at_ : ∀ (j : Nat) (o : Oper), ops[j]? = some o → j < ops.size := fun j o ho => (Array.getElem?_eq_some_iff.1 ho).1
  refine ⟨fun j hjs hl hl1 i hi hli => ?_, fun j o ho hl i hi hli => ?_, fun j o cs b ho => Region.noSelect_spec hs j o cs b ho, fun j o ho => ?_⟩
  · have := hj j hjs
    rw [Array.getElem?_eq_getElem hjs] at this
    simp only [Bool.and_eq_true, Bool.or_eq_true, decide_eq_true_eq, List.all_eq_true, List.mem_range] at this
    rcases this.1 with (h1 | h1) | h1
    · exact absurd h1 hl
    · exact absurd h1 hl1
    · rcases h1 i hi with h2 | h2
      · exact absurd hli h2
      · exact h2
  · have := hj j (at_ j o ho)
    rw [ho] at this
    simp only [Bool.and_eq_true, Bool.or_eq_true, decide_eq_true_eq, List.all_eq_true, List.mem_range] at this
    rcases this.2 with h1 | h1
    · exact absurd h1 hl
    · rcases h1 i hi with h2 | h2
      · exact absurd h2 hli
      · obtain ⟨e, he, hb⟩ := Array.any_eq_true'.1 h2
        simp only [Bool.and_eq_true, decide_eq_true_eq] at hb
        exact ⟨e, he, hb.1.1.1, hb.1.1.2, hb.1.2, hb.2⟩
  · have := Array.all_eq_true_iff_forall_mem.1 hg o (Array.mem_of_getElem? ho)
    simpa using this

/-- The walk of the text's order. -/
def wpMix (P : Program) (C : World → Prop) (L : Nat → Nat) (Q : Act → World → Prop) : Nat → List Oper → Act → World → Prop
  | _, [], a, w => Q a w
  | k, o :: rest, a, w => (isQ (L k) ∧ ∃ v, still P (cls C (L k)) o a v ∧ wpMix P C L Q (k + 1) rest (a.put o.dst v) w) ∨
      (¬ isQ (L k) ∧ loudly P o a w (fun u w' => (L k = 1 → C w') ∧ wpMix P C L Q (k + 1) rest (a.put o.dst u) w'))
theorem no_qleft (hO : Ordered ops L) {listed : Array Bool} {k : Nat} (hz : listed.size = ops.size) (hcl : Closed ops listed) (hr : k ∈ Region.ready .any ops listed) (hk : ¬ isQ (L k)) (hk1 : L k ≠ 1) : ¬ qleft ops L listed := by
  rintro ⟨j, hj, hun, hq⟩
  obtain ⟨_, o, ho, _⟩ := mem_ready.1 hr
  exact listed_both (by omega) (hcl.ready hr (hO.last k (Array.getElem?_eq_some_iff.1 ho).1 hk hk1 j hj hq)) hun
theorem wpM_lex (hO : Ordered ops L) : ∀ (l : List Oper) (k : Nat) (listed : Array Bool) (a : Act) (w : World), (∀ j, l[j]? = ops[k + j]?) → Region.lexFrom .any ops l.length k listed = true → listed.size = ops.size → Closed ops listed →
    (∀ j, j < k → j < ops.size → listed.getD j true = true) → (∀ j, k ≤ j → j < ops.size → listed.getD j true = false) → (qleft ops L listed → C w) →
    wpMix P C L Q k l a w → wpM P ops C L Q l.length listed a w
  | [], _, _, _, _, _, hB, _, _, _, _, _, h => ⟨by simpa [Region.lexFrom] using hB, h⟩
  | o :: l, k, listed, a, w, hl, hB, hz, hcl, hlo, hhi, hC, h => by
    have h0 : ops[k]? = some o := by simpa using (hl 0).symm
    have hks : k < ops.size := (Array.getElem?_eq_some_iff.1 h0).1
    simp only [List.length_cons, Region.lexFrom, Bool.and_eq_true] at hB
    obtain ⟨⟨hr, hf⟩, hB'⟩ := hB
    have hr : k ∈ Region.ready .any ops listed := by simpa using hr
    have hfree := Region.free_spec h0 hf
    have hl' : ∀ j, l[j]? = ops[k + 1 + j]? := fun j => by have := hl (j + 1); simpa [Nat.add_assoc, Nat.add_comm 1 j] using this
    have hz' : (listed.setIfInBounds k true).size = ops.size := by simpa using hz
    have hlo' : ∀ j, j < k + 1 → j < ops.size → (listed.setIfInBounds k true).getD j true = true := fun j hj hjs => by
      by_cases e : k = j
      · subst e; simp [Array.getD, hz, hks]
      · rw [getD_set_ne true e]; exact hlo j (by omega) hjs
    have hhi' : ∀ j, k + 1 ≤ j → j < ops.size → (listed.setIfInBounds k true).getD j true = false := fun j hj hjs => by
      rw [getD_set_ne true (by omega)]; exact hhi j (by omega) hjs
    rcases h with ⟨hL, v, hv, hn⟩ | ⟨hL, hn⟩
    · exact first_still hO h0 hL l.length listed a w hz hcl hC hfree hr hv (wpM_lex hO l (k + 1) _ _ w hl' hB' hz' (hcl.set hr) hlo' hhi' (fun h => hC (qleft_set h)) hn)
    · refine first_loud hO h0 hL l.length listed a w hz hcl hC hfree (fun j hj _ => ?_) (fun j hj hjs _ => hhi j hj hjs) hr ⟨o, h0, hO.guard _ _ h0, .inr ⟨hL, hn.mono fun u w' ⟨hc, hn'⟩ => ⟨hc, ?_⟩⟩⟩
      · exact hlo j hj (by omega)
      · refine wpM_lex hO l (k + 1) _ _ w' hl' hB' hz' (hcl.set hr) hlo' hhi' (fun h => ?_) hn'
        by_cases h2 : L k = 1
        · exact hc h2
        · exact absurd (qleft_set h) (no_qleft hO hz hcl hr hL h2)
theorem any_of_M (hO : Ordered ops L) {Q' : Exit → Act → World → Prop} (hQ : ∀ a w, Q a w → Q' .normal a w) : ∀ (fuel : Nat) (listed : Array Bool) (a : Act) (w : World), listed.size = ops.size → Closed ops listed → (qleft ops L listed → C w) →
    wpM P ops C L Q fuel listed a w → wpAny P .any ops Q' fuel listed a w
  | 0, _, _, _, _, _, _, h => ⟨h.1, hQ _ _ h.2⟩
  | fuel + 1, listed, a, w, hz, hcl, hC, h => by
    refine ⟨fun h0 => hQ _ _ (h.1 h0), fun i hi => ?_⟩
    obtain ⟨o, ho, hg, hcase⟩ := h.2 i hi
    unfold wpOp
    have hw : Region.wanted o (yielded ops a.tmps) = true := by simp [Region.wanted, hg]
    simp only [ho, hw, if_true]
    have hz' : (listed.setIfInBounds i true).size = ops.size := by simpa using hz
    rcases hcase with ⟨hL, v, hv, hn⟩ | ⟨hL, hn⟩
    · have his : i < ops.size := (Array.getElem?_eq_some_iff.1 ho).1
      have hun := (mem_ready.1 hi).1
      refine .inl ?_
      unfold Oper.wp
      rw [hv w (fun h0 => hC ⟨i, his, hun, h0⟩)]
      exact any_of_M hO hQ fuel _ _ w hz' (hcl.set hi) (fun h => hC (qleft_set h)) hn
    · refine .inl ((hn.mono fun u w' ⟨hc, hn'⟩ => ?_ : loudly P o a w (fun u w' => wpAny P .any ops Q' fuel (listed.setIfInBounds i true) (a.put o.dst u) w')).wp)
      refine any_of_M hO hQ fuel _ _ w' hz' (hcl.set hi) (fun h => ?_) hn'
      by_cases h2 : L i = 1
      · exact hc h2
      · exact absurd (qleft_set h) (no_qleft hO hz hcl hi hL h2)
/-- THE REGION. -/
theorem wp_region_mix {id : Nat} {Q' : Exit → Act → World → Prop} {a : Act} {w : World} {l : List Oper} (L : Nat → Nat) (C : World → Prop) (hm : P.follows .mixedOrders = true) (hB : Region.lexB .any l.toArray = true) (hO : orderedB l.toArray L = true) (hC : C w.drew)
    (h : wpMix P C L (fun a w => Q' .normal a w) 0 l a w.drew) : (Code.region id l.toArray true).wp P Q' a w := by
  simp only [Region.lexB, Bool.and_eq_true] at hB
  have hcl0 : Closed l.toArray (Array.replicate l.toArray.size false) := fun j o ho hj => by
    simp [Array.getD] at hj
  refine wp_region_any hm (any_of_M (ordered_of hO) (C := C) (Q := fun a w => Q' .normal a w) (fun _ _ h => h) _ _ _ _ (by simp) hcl0 (fun _ => hC) ?_)
  have := wpM_lex (ops := l.toArray) (P := P) (C := C) (Q := fun a w => Q' .normal a w) (ordered_of hO) l 0 (Array.replicate l.toArray.size false) a w.drew (by simp) (by simpa using hB.2) (by simp) hcl0 (by intro j hj; omega)
    (by intro j _ hj; simp at hj; simp [Array.getD, hj]) (fun _ => hC) h
  simpa using this
theorem mix_nil {k : Nat} {a : Act} {w : World} (h : Q a w) : wpMix P C L Q k [] a w := h
theorem mix_still {k : Nat} {o : Oper} {rest : List Oper} {a : Act} {w : World} (v : Value) (hL : L k = 0) (hv : ∀ w, C w → (execOp a.eval o).run P w = .ok (.value v) w) (h : wpMix P C L Q (k + 1) rest (a.put o.dst v) w) :
    wpMix P C L Q k (o :: rest) a w := .inl ⟨.inl hL, v, fun w hw => hv w (hw hL), h⟩
theorem mix_pure {k : Nat} {o : Oper} {rest : List Oper} {a : Act} {w : World} (v : Value) (hL : L k = 3) (hv : ∀ w, (execOp a.eval o).run P w = .ok (.value v) w) (h : wpMix P C L Q (k + 1) rest (a.put o.dst v) w) :
    wpMix P C L Q k (o :: rest) a w := .inl ⟨.inr hL, v, fun w _ => hv w, h⟩
theorem mix_call {k : Nat} {o : Oper} {rest : List Oper} {a : Act} {w : World} (f : FuncId) (args : Array Value) (hL : L k = 1) (hr : (execOp a.eval o).run P w = .ok (.enter f args) w)
    (h : Calls P f args w fun e w' => ∃ u, e = .returned u ∧ C w' ∧ wpMix P C L Q (k + 1) rest (a.put o.dst u) w') : wpMix P C L Q k (o :: rest) a w :=
  .inr ⟨by unfold isQ; omega, .inr (.inr ⟨f, args, w, hr, h.mono fun e w' ⟨u, he, hc, hn⟩ => ⟨u, he, fun _ => hc, hn⟩⟩)⟩
theorem mix_store {k : Nat} {o : Oper} {rest : List Oper} {a : Act} {w : World} (w' : World) (hL : L k = 2) (hr : (execOp a.eval o).run P w = .ok .skip w')
    (h : wpMix P C L Q (k + 1) rest (a.put o.dst undef) w') : wpMix P C L Q k (o :: rest) a w :=
  .inr ⟨by unfold isQ; omega, .inr (.inl ⟨w', hr, fun e => by omega, h⟩)⟩
end
end Go.Proofs.Ytemnlcfabaocbaa
