/-
  A region that draws its order, in a round of a range over a function as well: its operations leave the world alone; the last one, that waits for all others, may store.
-/
import Derived.Sort.QuietIn
import Derived.OwnWalkIn
namespace Go.Proofs.Ytemnlcfabaocbaa
open Go

section
variable {F : Fence} {n : Nat} {P : Program} {ops : Array Oper} {md : Region.Mode} {C : World → Prop}

def noDefer (ops : Array Oper) : Bool := ops.all fun o => match o.op with | .defer _ => false | _ => true
theorem noDefer_spec (h : noDefer ops = true) {i : Nat} {o : Oper} (hi : ops[i]? = some o) : ∀ c, o.op ≠ .defer c := by
  intro c e
  have := Array.all_eq_true_iff_forall_mem.1 h o (Array.mem_of_getElem? hi)
  simp [e] at this

theorem loudOp {o : Oper} {a : Act} {K : Act → Prop} {K' : Act → World → Prop} {Q' : Exit → Act → World → Prop} {w : World} (hnd : ∀ c, o.op ≠ .defer c) (hw : C w) (h : ∀ a w', C w' → K a → K' a w')
    (ha : o.askedIn F P a C) (hh : o.quietIn F n P a C K) : o.wpIn F n P a w K' Q' := by
  obtain ⟨v, h1, h2⟩ := hh
  have h3 := h1 w hw
  refine ⟨ha w hw, ?_⟩
  rw [Oper.semAt_plain F _ _ hnd]
  unfold Oper.quietAtIn at h3
  cases hr : (execOp a.eval o).run P w with
  | halt x w' => rw [hr] at h3; exact h3.elim
  | ok x w' =>
    rw [hr] at h3
    cases x with
    | value u => obtain ⟨e1, e2⟩ := h3; rw [e1, e2]; exact h _ _ hw h2
    | skip => obtain ⟨e1, e2⟩ := h3; rw [e1, Oper.uponIn_skip, ← e2]; exact h _ _ hw h2
    | enter f args =>
      obtain ⟨e1, hd, hc⟩ := h3
      rw [e1]
      exact ⟨hd, hc.mono fun e w'' ⟨he, hw''⟩ => by subst he; exact h _ _ hw'' h2⟩
    | _ => exact h3.elim

theorem loudAt {i : Nat} {a : Act} {K : Act → Prop} {K' : Act → World → Prop} {Q' : Exit → Act → World → Prop} {w : World} (hnd : noDefer ops = true) (hC : C w) (h : ∀ a w', C w' → K a → K' a w')
    (hh : qOpIn F n P ops C i K a) : wpOpIn F n P ops Q' i K' a w := by
  unfold qOpIn at hh
  unfold wpOpIn
  cases ho : ops[i]? with
  | none => rw [ho] at hh; exact h _ _ hC hh
  | some o =>
    rw [ho] at hh
    obtain ⟨ha, hh⟩ := hh
    by_cases hw : Region.wanted o (yielded ops a.tmps) = true
    · simp only [hw, if_true] at hh ⊢
      exact loudOp (noDefer_spec hnd ho) hC h ha hh
    · simp only [hw] at hh ⊢
      exact ⟨ha w hC, h _ _ hC hh⟩

theorem loudAny {Q : Act → Prop} {Q' : Exit → Act → World → Prop} (hnd : noDefer ops = true) (hQ : ∀ a w, C w → Q a → Q' .normal a w) : ∀ (fuel : Nat) (listed : Array Bool) (a : Act) (w : World), C w →
    wpAnyQIn F n P md ops C Q fuel listed a → wpAnyIn F n P md ops Q' fuel listed a w
  | 0, _, _, _, hw, h => ⟨h.1, hQ _ _ hw h.2⟩
  | fuel + 1, _, _, _, hw, h => ⟨fun h0 => hQ _ _ hw (h.1 h0), fun i hi => loudAt hnd hw (fun a' w' hw' => loudAny hnd hQ fuel _ a' w' hw') (h.2 i hi)⟩

/-- The quiet region, in whatever frame. -/
theorem region_quiet {id : Nat} {Q : Exit → Act → World → Prop} {a : Act} {w : World} {l : List Oper} (hm : P.follows .mixedOrders = true) (hB : Region.lexB .any l.toArray = true) (hnd : noDefer l.toArray = true)
    (h : wpQuietIn F n P l.toArray (fun w' => ∃ n, w' = w.drewN n) (fun a' => ∀ w', (∃ n, w' = w.drewN n) → Q .normal a' w') l a) : (Code.region id l.toArray true).wpIn F n P Q a w := by
  simp only [Region.lexB, Bool.and_eq_true] at hB
  refine wpIn_region_any hm (loudAny (C := fun w' => ∃ n, w' = w.drewN n) (Q := fun a' => ∀ w', (∃ n, w' = w.drewN n) → Q .normal a' w') hnd (fun _ w' hw' h => h w' hw') _ _ _ _ ⟨1, rfl⟩ ?_)
  exact wpAnyQIn_lex (md := .any) hB.1 l 0 (Array.replicate l.toArray.size false) a (by simp) (by simpa using hB.2) h

/-! ### A store at the end -/

def mute (s : Oper) : Oper := { s with op := .move (.const undef) }
def muted : List Oper → List Oper
  | [] => []
  | [s] => [mute s]
  | o :: p :: l => o :: muted (p :: l)
theorem muted_snoc (l : List Oper) (s : Oper) : muted (l ++ [s]) = l ++ [mute s] := by
  induction l with
  | nil => rfl
  | cons o l ih =>
    cases l with
    | nil => rfl
    | cons p l => exact congrArg (o :: ·) ih

/-- The last operation bears no guard, lays nothing into a temporary, waits for all others; every edge goes back. -/
def closes (l : List Oper) : Bool := match l.getLast? with
  | none => false
  | some s => s.dst.isNone && s.guard.isNone && (List.range (l.length - 1)).all (fun i => s.after.any fun e => Region.binds .any e && e.on == i) &&
      (List.range l.length).all (fun i => match l[i]? with | some o => o.after.all (fun e => decide (e.on < i)) | none => true)

variable {l : List Oper} {s : Oper}
theorem getElem_mute (i : Nat) : i ≠ l.length → (l ++ [mute s]).toArray[i]? = (l ++ [s]).toArray[i]? := by
  intro h
  simp only [List.getElem?_toArray]
  rcases Nat.lt_or_ge i l.length with h1 | h1
  · rw [List.getElem?_append_left h1, List.getElem?_append_left h1]
  · rw [List.getElem?_eq_none (by simp; omega), List.getElem?_eq_none (by simp; omega)]
theorem getElem_last (s : Oper) : (l ++ [s]).toArray[l.length]? = some s := by simp
theorem ready_mute (listed : Array Bool) : Region.ready md (l ++ [mute s]).toArray listed = Region.ready md (l ++ [s]).toArray listed := by
  unfold Region.ready
  rw [show (l ++ [mute s]).toArray.size = (l ++ [s]).toArray.size by simp]
  refine List.filter_congr fun i _ => ?_
  by_cases h : i = l.length
  · rw [h, getElem_last, getElem_last]; rfl
  · rw [getElem_mute i h]
theorem yielded_mute (t : Array Value) : yielded (l ++ [mute s]).toArray t = yielded (l ++ [s]).toArray t := by
  funext j
  unfold yielded
  by_cases h : j = l.length
  · rw [h, getElem_last, getElem_last]; rfl
  · rw [getElem_mute j h]

theorem endAny {Qa : Act → Prop} {Q : Exit → Act → World → Prop} (hnd : noDefer (l ++ [s]).toArray = true) (hd : s.dst = none) (hg : s.guard = none)
    (hall : ∀ i < l.length, ∃ e ∈ s.after, Region.binds .any e = true ∧ e.on = i) (hback : ∀ (i : Nat) (o : Oper), (l ++ [s]).toArray[i]? = some o → ∀ e ∈ o.after, e.on < i)
    (hQ : ∀ a w, C w → Qa a → s.wpIn F n P a w (fun a w => Q .normal a w) Q) : ∀ (fuel : Nat) (listed : Array Bool) (a : Act) (w : World), C w → listed.size = l.length + 1 → listed.getD l.length true = false →
    wpAnyQIn F n P .any (l ++ [mute s]).toArray C Qa fuel listed a → wpAnyIn F n P .any (l ++ [s]).toArray Q fuel listed a w := by
  have some_ready : ∀ listed : Array Bool, listed.size = l.length + 1 → listed.getD l.length true = false → Region.ready .any (l ++ [s]).toArray listed ≠ [] := by
    intro listed hz hl hr
    have key : ∀ i, i ≤ l.length → listed.getD i true = true := by
      intro i
      induction i using Nat.strongRecOn with
      | ind i ih =>
        intro hi
        by_cases hc : listed.getD i true = true
        · exact hc
        · exfalso
          have hil : i < (l ++ [s]).toArray.size := by simp; omega
          have : i ∈ Region.ready .any (l ++ [s]).toArray listed := by
            refine mem_ready.2 ⟨by simpa using hc, _, Array.getElem?_eq_getElem hil, fun e he _ => ?_⟩
            have hlt := hback i _ (Array.getElem?_eq_getElem hil) e he
            have := ih e.on hlt (by omega)
            have hb : e.on < listed.size := by omega
            simpa [Array.getD, hb] using this
          rw [hr] at this
          cases this
    rw [key _ (Nat.le_refl _)] at hl
    cases hl
  have last_ready : ∀ listed : Array Bool, listed.size = l.length + 1 → l.length ∈ Region.ready .any (l ++ [s]).toArray listed → Region.ready .any (l ++ [s]).toArray (listed.setIfInBounds l.length true) = [] := by
    intro listed hz hr
    obtain ⟨_, o, ho, hall'⟩ := mem_ready.1 hr
    rw [getElem_last] at ho
    injection ho with ho
    subst ho
    refine List.eq_nil_iff_forall_not_mem.2 fun i hi => ?_
    obtain ⟨h1, o, ho, _⟩ := mem_ready.1 hi
    have hlt : i < l.length + 1 := by have := (Array.getElem?_eq_some_iff.1 ho).1; simpa using this
    have : (listed.setIfInBounds l.length true).getD i true = true := by
      by_cases h : i = l.length
      · subst h
        simp [Array.getD, hz]
      · obtain ⟨e, he, hb, hon⟩ := hall i (by omega)
        have := hall' e he hb
        rw [hon] at this
        have hb : i < listed.size := by omega
        have hne : l.length ≠ i := fun e => h e.symm
        simp [Array.getD, hb, hne] at this ⊢
        exact this
    rw [this] at h1
    cases h1
  intro fuel
  induction fuel with
  | zero =>
    intro listed a w hw hz hl h
    exact absurd (by have := h.1; rwa [ready_mute] at this) (some_ready listed hz hl)
  | succ fuel ih =>
    intro listed a w hw hz hl h
    refine ⟨fun h0 => absurd h0 (some_ready listed hz hl), fun i hi => ?_⟩
    have hq := h.2 i (by rw [ready_mute]; exact hi)
    by_cases him : i = l.length
    · subst him
      have he := last_ready listed hz hi
      unfold qOpIn at hq
      rw [getElem_last] at hq
      unfold wpOpIn
      rw [getElem_last]
      have hwm : Region.wanted (mute s) (yielded (l ++ [mute s]).toArray a.tmps) = true := by simp [Region.wanted, mute, hg]
      have hws : Region.wanted s (yielded (l ++ [s]).toArray a.tmps) = true := by simp [Region.wanted, hg]
      simp only [hwm, hws, if_true] at hq ⊢
      obtain ⟨_, v, _, hq⟩ := hq
      have hp : a.put (mute s).dst v = a := by simp [mute, hd, Act.put]
      rw [hp] at hq
      have hqa : Qa a := by
        cases fuel with
        | zero => exact hq.2
        | succ f => exact hq.1 (by rw [ready_mute]; exact he)
      refine Oper.wpIn_mono (fun a' w' h' => ?_) (hQ a w hw hqa)
      cases fuel with
      | zero => exact ⟨he, h'⟩
      | succ f => exact ⟨fun _ => h', fun j hj => by rw [he] at hj; cases hj⟩
    · have hq' : qOpIn F n P (l ++ [s]).toArray C i (wpAnyQIn F n P .any (l ++ [mute s]).toArray C Qa fuel (listed.setIfInBounds i true)) a := by
        unfold qOpIn at hq ⊢
        rw [getElem_mute i him, yielded_mute] at hq
        exact hq
      have hne : i ≠ l.length := him
      exact loudAt hnd hw (fun a' w' hw' h' => ih _ a' w' hw' (by simpa using hz) (by
        simp [Array.getD, hz, hne] at hl ⊢
        exact hl) h') hq'

theorem quiet_snoc {ops : Array Oper} {Q : Act → Prop} {s : Oper} (hg : s.guard = none) (hd : s.dst = none) : ∀ (l : List Oper) (a : Act), wpQuietIn F n P ops C Q l a → wpQuietIn F n P ops C Q (l ++ [mute s]) a
  | [], a, h => by
    refine ⟨BigFrame.askedIn_plain (fun _ h => by simp [mute] at h), ?_⟩
    have hwm : Region.wanted (mute s) (yielded ops a.tmps) = true := by simp [Region.wanted, mute, hg]
    rw [if_pos hwm]
    refine BigFrame.quietIn_move (x := .const undef) rfl ?_
    have hp : ∀ v, a.put (mute s).dst v = a := fun v => by simp [mute, hd, Act.put]
    rw [hp]
    exact h
  | o :: l, a, h => by
    refine ⟨h.1, ?_⟩
    have h2 := h.2
    by_cases hw : Region.wanted o (yielded ops a.tmps) = true
    · simp only [hw, if_true] at h2 ⊢
      exact Oper.quietIn_mono (fun a' => quiet_snoc hg hd l a') h2
    · simp only [hw] at h2 ⊢
      exact quiet_snoc hg hd l _ h2

/-- The quiet region with a store at its end, in whatever frame. -/
theorem region_store {id : Nat} {Q : Exit → Act → World → Prop} {a : Act} {w : World} {L : List Oper} (hm : P.follows .mixedOrders = true) (hc : closes L = true) (hB : Region.lexB .any (muted L).toArray = true) (hnd : noDefer L.toArray = true)
    (h : wpQuietIn F n P (muted L).toArray (fun w' => ∃ n, w' = w.drewN n) (fun a' => ∀ w', (∃ n, w' = w.drewN n) → ∀ s, L.getLast? = some s → s.wpIn F n P a' w' (fun a w => Q .normal a w) Q) L.dropLast a) : (Code.region id L.toArray true).wpIn F n P Q a w := by
  obtain ⟨s, hs⟩ : ∃ s, L.getLast? = some s := by
    cases e : L.getLast? with
    | none => simp [closes, e] at hc
    | some s => exact ⟨s, rfl⟩
  obtain ⟨l, rfl⟩ : ∃ l, L = l ++ [s] := ⟨L.dropLast, (List.getLast?_eq_some_iff.1 hs).elim fun y hy => by rw [hy]; simp⟩
  simp only [closes, hs, Bool.and_eq_true, List.all_eq_true, List.mem_range] at hc
  obtain ⟨⟨⟨hd, hg⟩, hall⟩, hback⟩ := hc
  have hd : s.dst = none := by simpa using hd
  have hg : s.guard = none := by simpa using hg
  simp only [Region.lexB, Bool.and_eq_true] at hB
  rw [muted_snoc] at hB h
  simp only [List.dropLast_concat] at h
  refine wpIn_region_any hm (endAny (C := fun w' => ∃ n, w' = w.drewN n) (Qa := fun a' => ∀ w', (∃ n, w' = w.drewN n) → ∀ s', (l ++ [s]).getLast? = some s' → s'.wpIn F n P a' w' (fun a w => Q .normal a w) Q) hnd hd hg ?_ ?_
    (fun a w hw h => h w hw s hs) _ _ _ _ ⟨1, rfl⟩ (by simp) (by simp [Array.getD]) ?_)
  · intro i hi
    have := hall i (by simpa using hi)
    obtain ⟨e, he, hb⟩ := Array.any_eq_true'.1 this
    simp only [Bool.and_eq_true, beq_iff_eq] at hb
    exact ⟨e, he, hb.1, hb.2⟩
  · intro i o ho e he
    have hlt : i < (l ++ [s]).length := by have := (Array.getElem?_eq_some_iff.1 ho).1; simpa using this
    have := hback i hlt
    rw [List.getElem?_toArray] at ho
    rw [ho] at this
    simp only [Array.all_eq_true_iff_forall_mem, decide_eq_true_eq] at this
    exact this e he
  · have := wpAnyQIn_lex (F := F) (n := n) (C := fun w' => ∃ n, w' = w.drewN n) (md := .any) hB.1 (l ++ [mute s]) 0 (Array.replicate (l ++ [mute s]).toArray.size false) a (by simp) (by simpa using hB.2) (quiet_snoc hg hd l a h)
    simpa using this
end
end Go.Proofs.Ytemnlcfabaocbaa
