/-
  Texts of mine, merged: App2 Part Mix Poly8 Bez App3 Ref6.
-/
import Derived.Test.YtemnlcfabaocbaaG1
import Derived.Test.YtemnlcfabaocbaaG2
import Derived.Test.YtemnlcfabaocbaaG4
/-
  append onto a row of the call's own: the row that was grown from is as it was.
-/
namespace Go.Proofs.Ytemnlcfabaocbaa
open Go.RowKit Gf

section
variable {P : Program} (w : World)
theorem run_app2 {t e : TypeId} {z : Value} {bytes : Nat} (E : Elt P t e z bytes) (ty : TypeId) (B : Nat) (v : Value) (xs : List Value) (hown : Own w B e v xs)
    (A : Option Addr) (m c : Nat) (news : List Value) (hr : Rd w A news) (hm : news.length = m) (h1 : ∀ u ∈ news, u.oneCell' = true)
    (hbytes : (xs.length + m) * bytes ≤ 140737488355328) (hB : B ≤ w.heap.size) :
    ∃ v' w', (Builtin.append_ #[t, t] ty #[v, .slice A m c]).run P w = .ok v' w' ∧ Own w' B e v' (xs ++ news) ∧ Moved w w' v v' ∧ Own w' B e v xs := by
  obtain ⟨i, hi, hz, hsz, hby⟩ := E.info
  have hzs : z.cells.size = i.size := by rw [E.cells, hsz]; rfl
  have hle : xs.length + m ≤ 140737488355328 := Nat.le_trans (Nat.le_mul_of_pos_right _ E.pos) hbytes
  have hl : news.length = m * i.size := by rw [hsz, Nat.mul_one, hm]
  have hbytes' : (xs.length + m) * i.bytes ≤ 140737488355328 := by rw [hby]; exact hbytes
  rcases A with _ | ad
  · have hm0 : m = 0 := by
      rcases Nat.eq_zero_or_pos m with h0 | h0
      · exact h0
      · obtain ⟨ad, h, _⟩ := hr (by omega)
        cases h
    subst hm0
    obtain rfl : news = [] := List.eq_nil_of_length_eq_zero hm
    exact ⟨v, w, run_append_nil_src w t ty e i E.ty hi B v xs hown c, by simpa using hown, .inl ⟨rfl, World.grownBy.refl _ _⟩, hown⟩
  have hnews : ∀ j u, news[j]? = some u → w.cell? (ad.add j) = some u := by
    intro j u hu
    obtain ⟨ad', h, hc⟩ := hr (by have := (List.getElem?_eq_some_iff.1 hu).1; omega)
    injection h with h
    subst h
    exact hc j u hu
  have grown : ∀ (old : Nat), old < xs.length + m →
      Own (w.drew.alloc (.cells (xs.toArray ++ news.toArray ++ Builtin.zeroCells z.cells (grownCap w (xs.length + m) old e - (xs.length + m))) e)) B e
        (.slice (some ⟨w.heap.size, 0, none⟩) (xs.length + m) (grownCap w (xs.length + m) old e)) (xs ++ news) ∧
      w.grownBy (w.drew.alloc (.cells (xs.toArray ++ news.toArray ++ Builtin.zeroCells z.cells (grownCap w (xs.length + m) old e - (xs.length + m))) e)) none := by
    intro old ho
    have hge := grownCap_ge w (xs.length + m) old e
    have hcm : grownCap w (xs.length + m) old e ≤ maxLen := grownCap_le_maxLen w (xs.length + m) old e (by simp only [maxLen]; omega)
    have hxl : (xs ++ news).length = xs.length + m := by rw [List.length_append, hm]
    refine ⟨⟨by omega, .inr ⟨w.heap.size, _, _, by rw [hxl], hB, heap_alloc_new w.drew _, by omega, hcm, ?_, ?_⟩⟩, ⟨rfl, rfl, rfl, by simp, fun k hk _ => Below.heap_alloc w.drew _ k hk⟩⟩
    · simp only [Array.size_append, List.size_toArray, size_zeroCells, hzs, hsz, hm]
      omega
    · simp only [Array.toList_append, List.append_assoc, Nat.mul_one]
      rw [← List.append_assoc]
      exact List.take_left
  rcases hown.2 with ⟨rfl, hn⟩ | ⟨g, cap, cur, rfl, hbg, hg, hnc, hcm, hcs, htake⟩
  · obtain rfl : xs = [] := List.eq_nil_of_length_eq_zero hn
    simp only [List.length_nil, Nat.zero_add] at hle hbytes' grown
    by_cases hm0 : m = 0
    · subst hm0
      obtain rfl : news = [] := List.eq_nil_of_length_eq_zero hm
      refine ⟨.slice none 0 0, w, ?_, Own.nil _ _ _, .inl ⟨rfl, World.grownBy.refl _ _⟩, Own.nil _ _ _⟩
      simp [Builtin.append_, run_underlying E.ty, sizeOf, typeInfo, hi, Builtin.lenOf, Builtin.firstCells, loadCells, loadCellsFrom]
    · have hr' := run_append_nil (P := P) w t ty e i z E.ty hi hz ad m c news hl hnews (by omega) (by omega) (by omega)
      have hgr := grown 0 (by omega)
      simp only [List.nil_append, Array.empty_append] at hgr ⊢
      exact ⟨_, _, hr', hgr.1, .inr ⟨rfl, hgr.2⟩, (hown.drew).alloc _⟩
  · by_cases hroom : xs.length + m ≤ cap
    · have hfit : xs.length * i.size + news.length ≤ cur.size := by rw [hsz, hcs, hm]; omega
      have hr' := run_append_room (P := P) w t ty e i E.ty hi g xs.length cap cur hg ad m c news hl hnews h1 hroom hfit
      refine ⟨_, _, hr', ⟨by omega, .inr ⟨g, cap, _, by rw [List.length_append, hm], hbg, setRow_heap w g cur _ e _ hg, by rw [List.length_append, hm]; exact hroom, hcm, ?_, ?_⟩⟩, .inl ⟨rfl, rfl, rfl, rfl, by simp, fun k _ hk => setRow_other w g k _ (fun e => hk (by simp [Value.ownBlock, e]))⟩,
        ⟨by omega, .inr ⟨g, cap, _, rfl, hbg, setRow_heap w g cur _ e _ hg, hnc, hcm, ?_, ?_⟩⟩⟩
      · simp only [List.size_toArray, List.length_append, List.length_take, List.length_drop, Array.length_toList]
        rw [hsz] at hfit ⊢
        omega
      · rw [hsz, htake, Nat.mul_one]
        simp only [List.length_append]
        rw [← List.length_append]
        exact List.take_left
      · simp only [List.size_toArray, List.length_append, List.length_take, List.length_drop, Array.length_toList]
        rw [hsz] at hfit ⊢
        omega
      · rw [hsz, htake, Nat.mul_one]
        simp only [List.append_assoc]
        exact List.take_left
    · have holds : ∀ j u, xs[j]? = some u → w.cell? ((⟨g, 0, none⟩ : Addr).add j) = some u := World.ownsRow.cells hown (g := g) rfl
      have hr' := run_append_grow (P := P) w t ty e i z E.ty hi hz ⟨g, 0, none⟩ xs.length cap xs (by rw [hsz]; omega) holds ad m c news hl hnews (by omega) (by omega) (growslice_fits (by omega) hbytes')
      have hgr := grown cap (by omega)
      exact ⟨_, _, hr', hgr.1, .inr ⟨rfl, hgr.2⟩, (hown.drew).alloc _⟩
theorem wpList_push2 {t e : TypeId} {z : Value} {bytes : Nat} (E : Elt P t e z bytes) {ops : Array Oper} {rest : List Oper} {o : Oper} {a : Act} {Q : Exit → Act → World → Prop} (hgd : o.guard = none) (s x : Operand)
    (ho : o.op = .call { callee := .builtin .append, args := #[s, x], argTypes := #[t, t] })
    (B : Nat) (v : Value) (xs : List Value) (hs : a.eval s = v) (hown : Own w B e v xs) (u : Value) (g : Nat) (hg : w.heap.size = g) (hx : a.eval x = .slice (some ⟨g, 0, none⟩) 1 1) (h1 : u.oneCell' = true)
    (hbytes : (xs.length + 1) * bytes ≤ 140737488355328) (hB : B ≤ w.heap.size)
    (h : ∀ v' w', Own w' B e v' (xs ++ [u]) → Moved (w.alloc (.cells #[u] e)) w' v v' → Below B w w' → Own w' B e v xs → wpList P ops Q rest (a.put o.dst v') w') :
    wpList P ops Q (o :: rest) a (w.alloc (.cells #[u] e)) := by
  subst hg
  obtain ⟨v', w', hrun, h2, h3, h4⟩ := run_app2 (P := P) (w.alloc (.cells #[u] e)) E o.type B v xs (hown.alloc _) _ 1 1 [u] (rd_new w u e) rfl (by simpa using h1) hbytes (by simp; omega)
  refine wpList_plain hgd fun _ hK => ?_
  unfold Oper.wp execOp
  simp only [ho, resolve, invoke, builtin, Sem.run_bind, Sem.run_pure, Result.andThen_ok, List.map_toArray, List.map_cons, List.map_nil, hs, hx, hrun]
  exact hK _ _ (h v' w' h2 h3 (((Below.refl _ _).alloc hB _).trans (h3.below (by simp; omega) fun g hg => (hown.lt g hg).1)) h4)
end
end Go.Proofs.Ytemnlcfabaocbaa
/-
  Euclid's row, plain: each row is the only one of its number; where it is ended.
-/
namespace Go.Proofs.Ytemnlcfabaocbaa
open Go.RowKit Gf
set_option linter.unusedVariables false

structure Row where
  g : List E
  u : List E
  v : List E
def RowN (p q : List E) : Nat → Row → Prop
  | 0, r => r = ⟨trim p, [1], []⟩
  | 1, r => r = ⟨trim q, [], [1]⟩
  | n + 2, r => ∃ a b s, RowN p q n a ∧ RowN p q (n + 1) b ∧ DivOK a.g b.g s r.g ∧ r.u = plusL a.u (timesL s b.u) ∧ r.v = plusL a.v (timesL s b.v)
theorem RowN.uniq {p q : List E} : ∀ (n : Nat) (r r' : Row), RowN p q n r → RowN p q n r' → r = r'
  | 0, r, r', h, h' => by rw [show r = _ from h, show r' = _ from h']
  | 1, r, r', h, h' => by rw [show r = _ from h, show r' = _ from h']
  | n + 2, ⟨g, u, v⟩, ⟨g', u', v'⟩, ⟨a, b, s, ha, hb, hd, hu, hv⟩, ⟨a', b', s', ha', hb', hd', hu', hv'⟩ => by
    obtain rfl := RowN.uniq n a a' ha ha'
    obtain rfl := RowN.uniq (n + 1) b b' hb hb'
    obtain ⟨rfl, hr⟩ := hd.uniq hd'
    dsimp only at hr hu hv hu' hv'
    rw [hr, hu, hv, hu', hv']
theorem RowN.tr {p q : List E} : ∀ (n : Nat) (r : Row), RowN p q n r → Trimmed r.g
  | 0, r, h => by rw [show r = _ from h]; exact trimmed_trim _
  | 1, r, h => by rw [show r = _ from h]; exact trimmed_trim _
  | n + 2, r, ⟨a, b, s, ha, hb, hd, hu, hv⟩ => hd.tr
/-- The first row of a length of at most k. -/
def PartRes (p q : List E) (k : Nat) (r : Row) : Prop := ∃ n, RowN p q n r ∧ r.g.length ≤ k ∧ ∀ m, m < n → ∀ x, RowN p q m x → k < x.g.length
theorem PartRes.uniq {p q : List E} {k : Nat} {r r' : Row} (h : PartRes p q k r) (h' : PartRes p q k r') : r = r' := by
  obtain ⟨n, h1, h2, h3⟩ := h
  obtain ⟨n', h1', h2', h3'⟩ := h'
  rcases Nat.lt_trichotomy n n' with hlt | rfl | hlt
  · have := h3' n hlt r h1; omega
  · exact RowN.uniq n r r' h1 h1'
  · have := h3 n' hlt r' h1'; omega
end Go.Proofs.Ytemnlcfabaocbaa
/-
  A region that draws its order, of operations that only read, of calls that go one behind the other and lay new memory, and of stores at the end: one walk of the lexical order serves every order.
-/
namespace Go.Proofs.Ytemnlcfabaocbaa
open Go
set_option linter.unusedVariables false

section
variable {P : Program} {ops : Array Oper} {C : World → Prop} {L : Nat → Nat} {Q : Act → World → Prop}

/-- An operation that only reads: in every world of the class the same value, the world as it was. -/
def still (P : Program) (C : World → Prop) (o : Oper) (a : Act) (v : Value) : Prop := ∀ w, C w → (execOp a.eval o).run P w = .ok (.value v) w
/-- An operation that goes on to a world of its own. -/
def loudly (P : Program) (o : Oper) (a : Act) (w : World) (K : Value → World → Prop) : Prop :=
  (∃ u w', (execOp a.eval o).run P w = .ok (.value u) w' ∧ K u w') ∨ (∃ w', (execOp a.eval o).run P w = .ok .skip w' ∧ K undef w') ∨
  (∃ f args w', (execOp a.eval o).run P w = .ok (.enter f args) w' ∧ Calls P f args w' fun e w'' => ∃ u, e = .returned u ∧ K u w'')
theorem loudly.mono {o : Oper} {a : Act} {w : World} {K K' : Value → World → Prop} (h : loudly P o a w K) (hk : ∀ u w', K u w' → K' u w') : loudly P o a w K' := by
  rcases h with ⟨u, w', h1, h2⟩ | ⟨w', h1, h2⟩ | ⟨f, args, w', h1, h2⟩
  · exact .inl ⟨u, w', h1, hk _ _ h2⟩
  · exact .inr (.inl ⟨w', h1, hk _ _ h2⟩)
  · exact .inr (.inr ⟨f, args, w', h1, h2.mono fun e w'' ⟨u, he, h3⟩ => ⟨u, he, hk _ _ h3⟩⟩)
theorem loudly.some {o : Oper} {a : Act} {w : World} {K : Value → World → Prop} (h : loudly P o a w K) : ∃ u w', K u w' := by
  rcases h with ⟨u, w', h1, h2⟩ | ⟨w', h1, h2⟩ | ⟨f, args, w', h1, h2⟩
  · exact ⟨u, w', h2⟩
  · exact ⟨_, w', h2⟩
  · obtain ⟨e, w'', fr, ⟨u, he, h3⟩, _⟩ := h2 []
    exact ⟨u, w'', h3⟩
theorem loudly.of_same {o : Oper} {a a' : Act} {w : World} {K : Value → World → Prop} (h : loudly P o a w K) (he : execOp a'.eval o = execOp a.eval o) : loudly P o a' w K := by
  unfold loudly at *
  rw [he]
  exact h
theorem loudly.wp {o : Oper} {a : Act} {w : World} {K : Act → World → Prop} {Q' : Exit → Act → World → Prop} (h : loudly P o a w (fun u w' => K (a.put o.dst u) w')) : o.wp P a w K Q' := by
  unfold Oper.wp
  rcases h with ⟨u, w', h1, h2⟩ | ⟨w', h1, h2⟩ | ⟨f, args, w', h1, h2⟩
  · rw [h1]; exact h2
  · rw [h1]; exact h2
  · rw [h1]
    refine h2.mono fun e w'' ⟨u, he, h3⟩ => ?_
    subst he
    exact h3

/-- 0: it reads; 3: it looks at no memory; else it goes on. -/
def isQ (l : Nat) : Prop := l = 0 ∨ l = 3
def cls (C : World → Prop) (l : Nat) : World → Prop := fun w => l = 0 → C w
def mOp (P : Program) (ops : Array Oper) (C : World → Prop) (L : Nat → Nat) (i : Nat) (K : Act → World → Prop) (a : Act) (w : World) : Prop :=
  ∃ o, ops[i]? = some o ∧ o.guard = none ∧ ((isQ (L i) ∧ ∃ v, still P (cls C (L i)) o a v ∧ K (a.put o.dst v) w) ∨ (¬ isQ (L i) ∧ loudly P o a w (fun u w' => (L i = 1 → C w') ∧ K (a.put o.dst u) w')))
theorem mOp_mono {i : Nat} {K K' : Act → World → Prop} {a : Act} {w : World} (h : mOp P ops C L i K a w) (hk : ∀ a w, K a w → K' a w) : mOp P ops C L i K' a w := by
  obtain ⟨o, ho, hg, ⟨hl, v, h1, h2⟩ | ⟨hl, h1⟩⟩ := h
  · exact ⟨o, ho, hg, .inl ⟨hl, v, h1, hk _ _ h2⟩⟩
  · exact ⟨o, ho, hg, .inr ⟨hl, h1.mono fun u w' ⟨h2, h3⟩ => ⟨h2, hk _ _ h3⟩⟩⟩
def wpM (P : Program) (ops : Array Oper) (C : World → Prop) (L : Nat → Nat) (Q : Act → World → Prop) : Nat → Array Bool → Act → World → Prop
  | 0, listed, a, w => Region.ready .any ops listed = [] ∧ Q a w
  | fuel + 1, listed, a, w => (Region.ready .any ops listed = [] → Q a w) ∧ ∀ i ∈ Region.ready .any ops listed, mOp P ops C L i (wpM P ops C L Q fuel (listed.setIfInBounds i true)) a w
/-- Something that reads is still to come. -/
def qleft (ops : Array Oper) (L : Nat → Nat) (listed : Array Bool) : Prop := ∃ j, j < ops.size ∧ listed.getD j true = false ∧ L j = 0
theorem qleft_set {listed : Array Bool} {i : Nat} (h : qleft ops L (listed.setIfInBounds i true)) : qleft ops L listed := by
  obtain ⟨j, hj, h1, h2⟩ := h
  refine ⟨j, hj, ?_, h2⟩
  by_cases hi : i = j
  · subst hi
    rcases Nat.lt_or_ge i listed.size with h | h
    · simp [Array.getD, h] at h1
    · simp [Array.getD] at h1
  · rwa [getD_set_ne true hi] at h1

/-- What is asked of the text: the last ones wait for all that read; those that go on wait for the one before. -/
def reach (ops : Array Oper) : Nat → Nat → Nat → Bool
  | 0, _, _ => false
  | f + 1, j, i => match ops[j]? with
    | none => false
    | some o => o.after.any (fun e => Region.binds .any e && (e.on == i || reach ops f e.on i))
/-- What is listed came behind what it waits for. -/
def Closed (ops : Array Oper) (listed : Array Bool) : Prop := ∀ (j : Nat) (o : Oper), ops[j]? = some o → listed.getD j false = true → ∀ e ∈ o.after, Region.binds .any e = true → listed.getD e.on false = true
theorem Closed.reach {listed : Array Bool} (h : Closed ops listed) : ∀ (f j i : Nat), listed.getD j false = true → reach ops f j i = true → listed.getD i false = true
  | 0, _, _, _, hr => by simp [Go.Proofs.Ytemnlcfabaocbaa.reach] at hr
  | f + 1, j, i, hj, hr => by
    unfold Go.Proofs.Ytemnlcfabaocbaa.reach at hr
    cases ho : ops[j]? with
    | none => rw [ho] at hr; cases hr
    | some o =>
      rw [ho] at hr
      obtain ⟨e, he, hb⟩ := Array.any_eq_true'.1 hr
      simp only [Bool.and_eq_true, Bool.or_eq_true, beq_iff_eq] at hb
      have h1 := h j o ho hj e he hb.1
      rcases hb.2 with h2 | h2
      · rw [← h2]; exact h1
      · exact Closed.reach h f e.on i h1 h2
theorem Closed.ready {listed : Array Bool} (h : Closed ops listed) {f j i : Nat} (hj : j ∈ Region.ready .any ops listed) (hr : Go.Proofs.Ytemnlcfabaocbaa.reach ops f j i = true) : listed.getD i false = true := by
  obtain ⟨_, o, ho, hall⟩ := mem_ready.1 hj
  cases f with
  | zero => simp [Go.Proofs.Ytemnlcfabaocbaa.reach] at hr
  | succ f =>
    unfold Go.Proofs.Ytemnlcfabaocbaa.reach at hr
    rw [ho] at hr
    obtain ⟨e, he, hb⟩ := Array.any_eq_true'.1 hr
    simp only [Bool.and_eq_true, Bool.or_eq_true, beq_iff_eq] at hb
    have h1 := hall e he hb.1
    rcases hb.2 with h2 | h2
    · rw [← h2]; exact h1
    · exact Closed.reach h f e.on i h1 h2
theorem Closed.set {listed : Array Bool} (h : Closed ops listed) {j : Nat} (hj : j ∈ Region.ready .any ops listed) : Closed ops (listed.setIfInBounds j true) := by
  intro k o ho hk e he hb
  by_cases hjk : j = k
  · subst hjk
    obtain ⟨_, o', ho', hall⟩ := mem_ready.1 hj
    rw [ho] at ho'
    injection ho' with ho'
    subst ho'
    exact getD_set_true (hall e he hb)
  · rw [getD_set_ne false hjk] at hk
    exact getD_set_true (h k o ho hk e he hb)
theorem listed_both {listed : Array Bool} {i : Nat} (hi : i < listed.size) (h : listed.getD i false = true) (h' : listed.getD i true = false) : False := by
  simp [Array.getD, hi] at h h'
  rw [h] at h'
  cases h'
structure Ordered (ops : Array Oper) (L : Nat → Nat) : Prop where
  last : ∀ (j : Nat), j < ops.size → ¬ isQ (L j) → L j ≠ 1 → ∀ i, i < ops.size → L i = 0 → reach ops ops.size j i = true
  prev : ∀ (j : Nat) (o : Oper), ops[j]? = some o → ¬ isQ (L j) → ∀ i, i < j → ¬ isQ (L i) → ∃ e ∈ o.after, Region.binds .any e = true ∧ i ≤ e.on ∧ e.on < j ∧ ¬ isQ (L e.on)
  sel : ∀ (j : Nat) (o : Oper) (cs : Array SelectCase) (b : Bool), ops[j]? = some o → o.op ≠ .select cs b
  guard : ∀ (j : Nat) (o : Oper), ops[j]? = some o → o.guard = none

theorem not_ready {listed : Array Bool} {j k : Nat} {o : Oper} (ho : ops[j]? = some o) (h : ∃ e ∈ o.after, Region.binds .any e = true ∧ e.on = k) (hk : k < ops.size) (hz : listed.size = ops.size) (hl : listed.getD k true = false) : j ∉ Region.ready .any ops listed := by
  intro hr
  obtain ⟨_, o', ho', hall⟩ := mem_ready.1 hr
  rw [ho] at ho'
  injection ho' with ho'
  subst ho'
  obtain ⟨e, he, hb, rfl⟩ := h
  have := hall e he hb
  have hb2 : e.on < listed.size := by omega
  simp [Array.getD, hb2] at this hl
  rw [this] at hl
  cases hl

theorem first_still {i : Nat} {oi : Oper} {v : Value} (hO : Ordered ops L) (hi : ops[i]? = some oi) (hL : isQ (L i)) :
    ∀ (fuel : Nat) (listed : Array Bool) (a : Act) (w : World), listed.size = ops.size → Closed ops listed → (qleft ops L listed → C w) →
      (∀ j oj, ops[j]? = some oj → j ≠ i → listed.getD j true = false → (∀ e ∈ oj.after, Region.binds .any e = true → e.on ≠ i) → oi.apart ops oj = true) →
      i ∈ Region.ready .any ops listed → still P (cls C (L i)) oi a v →
      wpM P ops C L Q fuel (listed.setIfInBounds i true) (a.put oi.dst v) w → wpM P ops C L Q (fuel + 1) listed a w := by
  have his : i < ops.size := (Array.getElem?_eq_some_iff.1 hi).1
  intro fuel
  induction fuel with
  | zero =>
    intro listed a w hz hcl hC hfree hr hy H
    refine ⟨fun h => (by rw [h] at hr; cases hr), fun j hj => ?_⟩
    by_cases hji : j = i
    · subst hji; exact ⟨oi, hi, hO.guard _ _ hi, .inl ⟨hL, v, hy, H⟩⟩
    · have := ready_mono hj hji
      rw [H.1] at this
      cases this
  | succ fuel ih =>
    intro listed a w hz hcl hC hfree hr hy H
    refine ⟨fun h => (by rw [h] at hr; cases hr), fun j hj => ?_⟩
    by_cases hji : j = i
    · subst hji; exact ⟨oi, hi, hO.guard _ _ hi, .inl ⟨hL, v, hy, H⟩⟩
    · obtain ⟨oj, hoj, hgj, hcase⟩ := H.2 j (ready_mono hj hji)
      have hun := (mem_ready.1 hr).1
      have hjun := (mem_ready.1 hj).1
      have hnot : ∀ e ∈ oj.after, Region.binds .any e = true → e.on ≠ i := fun e he hb heq => not_ready hoj ⟨e, he, hb, heq⟩ his hz hun hj
      obtain ⟨h1, h2, h3⟩ := Oper.apart_spec (hfree j oj hoj hji hjun hnot)
      have hsi := hO.sel i oi
      have hsj := hO.sel j oj
      have keep : ∀ u, still P (cls C (L i)) oi (a.put oj.dst u) v := fun u w hw => by rw [execOp_put oi (fun cs b => hsi cs b hi) a oj.dst u h3]; exact hy w hw
      have eqj : execOp a.eval oj = execOp (a.put oi.dst v).eval oj := (execOp_put oj (fun cs b => hsj cs b hoj) a oi.dst v h1).symm
      have hfree' : ∀ k ok, ops[k]? = some ok → k ≠ i → (listed.setIfInBounds j true).getD k true = false → (∀ e ∈ ok.after, Region.binds .any e = true → e.on ≠ i) → oi.apart ops ok = true := fun k ok hk hki hunk hno => by
        refine hfree k ok hk hki ?_ hno
        by_cases hjk : j = k
        · subst hjk; exact hjun
        · rwa [getD_set_ne true hjk] at hunk
      have hz' : (listed.setIfInBounds j true).size = ops.size := by simpa using hz
      have hr' := ready_mono hr (Ne.symm hji)
      rcases hcase with ⟨hl, u, hu, hn⟩ | ⟨hl, hn⟩
      · refine ⟨oj, hoj, hgj, .inl ⟨hl, u, fun w' hw' => by rw [eqj]; exact hu w' hw', ?_⟩⟩
        refine ih (listed.setIfInBounds j true) (a.put oj.dst u) w hz' (hcl.set hj) (fun h => hC (qleft_set h)) hfree' hr' (keep u) ?_
        rw [Array.setIfInBounds_comm _ _ hji, ← Act.put_comm a v u h2]
        exact hn
      · have hjs : j < ops.size := (Array.getElem?_eq_some_iff.1 hoj).1
        refine ⟨oj, hoj, hgj, .inr ⟨hl, (loudly.of_same hn eqj).mono fun u w' ⟨hc, hn⟩ => ⟨hc, ?_⟩⟩⟩
        refine ih (listed.setIfInBounds j true) (a.put oj.dst u) w' hz' (hcl.set hj) (fun hq => ?_) hfree' hr' (keep u) ?_
        · by_cases hl1 : L j = 1
          · exact hc hl1
          · obtain ⟨q, hq1, hq2, hq3⟩ := qleft_set hq
            exact (listed_both (by omega) (hcl.ready hj (hO.last j hjs hl hl1 q hq1 hq3)) hq2).elim
        · rw [Array.setIfInBounds_comm _ _ hji, ← Act.put_comm a v u h2]
          exact hn

theorem first_loud {i : Nat} {oi : Oper} (hO : Ordered ops L) (hi : ops[i]? = some oi) (hL : ¬ isQ (L i)) :
    ∀ (fuel : Nat) (listed : Array Bool) (a : Act) (w : World), listed.size = ops.size → Closed ops listed → (qleft ops L listed → C w) →
      (∀ j oj, ops[j]? = some oj → j ≠ i → listed.getD j true = false → (∀ e ∈ oj.after, Region.binds .any e = true → e.on ≠ i) → oi.apart ops oj = true) →
      (∀ j, j < i → ¬ isQ (L j) → listed.getD j true = true) → (∀ j, i ≤ j → j < ops.size → ¬ isQ (L j) → listed.getD j true = false) →
      i ∈ Region.ready .any ops listed →
      mOp P ops C L i (wpM P ops C L Q fuel (listed.setIfInBounds i true)) a w → wpM P ops C L Q (fuel + 1) listed a w := by
  have his : i < ops.size := (Array.getElem?_eq_some_iff.1 hi).1
  have quiet : ∀ (listed : Array Bool) (j : Nat), listed.size = ops.size → (∀ j, j < i → ¬ isQ (L j) → listed.getD j true = true) → (∀ j, i ≤ j → j < ops.size → ¬ isQ (L j) → listed.getD j true = false) →
      j ∈ Region.ready .any ops listed → j ≠ i → isQ (L j) := by
    intro listed j hz hlo hhi hj hji
    by_cases hz0 : isQ (L j)
    · exact hz0
    · exfalso
      obtain ⟨hun, oj, hoj, _⟩ := mem_ready.1 hj
      rcases Nat.lt_or_ge j i with h | h
      · rw [hlo j h hz0] at hun; cases hun
      · obtain ⟨e, he, hb, h1, h2, h3⟩ := hO.prev j oj hoj hz0 i (by omega) hL
        have hjs : j < ops.size := (Array.getElem?_eq_some_iff.1 hoj).1
        exact not_ready hoj ⟨e, he, hb, rfl⟩ (by omega) hz (hhi e.on h1 (by omega) h3) hj
  intro fuel
  induction fuel with
  | zero =>
    intro listed a w hz hcl hC hfree hlo hhi hr H
    refine ⟨fun h => (by rw [h] at hr; cases hr), fun j hj => ?_⟩
    by_cases hji : j = i
    · subst hji; exact H
    · have h1 := ready_mono hj hji
      obtain ⟨o, ho, hg, ⟨hl, _⟩ | ⟨hl, hn⟩⟩ := H
      · exact absurd hl hL
      · obtain ⟨u, w', _, hk⟩ := hn.some
        rw [hk.1] at h1
        cases h1
  | succ fuel ih =>
    intro listed a w hz hcl hC hfree hlo hhi hr H
    refine ⟨fun h => (by rw [h] at hr; cases hr), fun j hj => ?_⟩
    by_cases hji : j = i
    · subst hji; exact H
    · have hq := quiet listed j hz hlo hhi hj hji
      obtain ⟨hjun, oj, hoj, _⟩ := mem_ready.1 hj
      have hun := (mem_ready.1 hr).1
      have hjs : j < ops.size := (Array.getElem?_eq_some_iff.1 hoj).1
      have hCw : cls C (L j) w := fun h0 => hC ⟨j, hjs, hjun, h0⟩
      have hnot : ∀ e ∈ oj.after, Region.binds .any e = true → e.on ≠ i := fun e he hb heq => not_ready hoj ⟨e, he, hb, heq⟩ his hz hun hj
      obtain ⟨h1, h2, h3⟩ := Oper.apart_spec (hfree j oj hoj hji hjun hnot)
      have hsi := hO.sel i oi
      have hsj := hO.sel j oj
      have eqj : ∀ u, execOp (a.put oi.dst u).eval oj = execOp a.eval oj := fun u => execOp_put oj (fun cs b => hsj cs b hoj) a oi.dst u h1
      have eqi : ∀ u, execOp (a.put oj.dst u).eval oi = execOp a.eval oi := fun u => execOp_put oi (fun cs b => hsi cs b hi) a oj.dst u h3
      have hjr : j ∈ Region.ready .any ops (listed.setIfInBounds i true) := ready_mono hj hji
      obtain ⟨o, ho, hg, ⟨hl, _⟩ | ⟨hl, hn⟩⟩ := H
      · exact absurd hl hL
      · rw [hi] at ho
        injection ho with ho
        subst ho
        -- what j reads, whatever i came to
        have pick : ∀ u w', wpM P ops C L Q (fuel + 1) (listed.setIfInBounds i true) (a.put oi.dst u) w' → ∃ v, still P (cls C (L j)) oj a v ∧ wpM P ops C L Q fuel ((listed.setIfInBounds i true).setIfInBounds j true) ((a.put oi.dst u).put oj.dst v) w' := fun u w' hk => by
          obtain ⟨o', ho', _, ⟨_, v, hv, hk'⟩ | ⟨hl', _⟩⟩ := hk.2 j hjr
          · rw [hoj] at ho'
            injection ho' with ho'
            subst ho'
            exact ⟨v, fun w'' hw'' => by rw [← eqj u]; exact hv w'' hw'', hk'⟩
          · exact absurd hq hl'
        obtain ⟨u1, w1, _, hk1⟩ := hn.some
        obtain ⟨v, hv, _⟩ := pick u1 w1 hk1
        refine ⟨oj, hoj, hO.guard _ _ hoj, .inl ⟨hq, v, hv, ?_⟩⟩
        have hz' : (listed.setIfInBounds j true).size = ops.size := by simpa using hz
        refine ih (listed.setIfInBounds j true) (a.put oj.dst v) w hz' (hcl.set hj) (fun h => hC (qleft_set h)) ?_ ?_ ?_ (ready_mono hr (Ne.symm hji)) ⟨oi, hi, hg, .inr ⟨hl, ?_⟩⟩
        · intro k ok hk hki hunk hno
          refine hfree k ok hk hki ?_ hno
          by_cases hjk : j = k
          · subst hjk; exact hjun
          · rwa [getD_set_ne true hjk] at hunk
        · intro k hk hlk
          have hjk : j ≠ k := fun e => by subst e; exact hlk hq
          rw [getD_set_ne true hjk]
          exact hlo k hk hlk
        · intro k hk hks hlk
          have hjk : j ≠ k := fun e => by subst e; exact hlk hq
          rw [getD_set_ne true hjk]
          exact hhi k hk hks hlk
        · refine (loudly.of_same hn (eqi v)).mono fun u w' ⟨hc, hk⟩ => ⟨hc, ?_⟩
          obtain ⟨v', hv', hk'⟩ := pick u w' hk
          have e : v' = v := by
            have e1 := hv w hCw
            rw [hv' w hCw] at e1
            injection e1 with e1
            injection e1
          subst e
          rw [Array.setIfInBounds_comm _ _ hji, ← Act.put_comm a u v' (fun d hd => h2 d hd)]
          exact hk'

instance (l : Nat) : Decidable (isQ l) := inferInstanceAs (Decidable (l = 0 ∨ l = 3))
def orderedB (ops : Array Oper) (L : Nat → Nat) : Bool :=
  Region.noSelect ops && ops.all (fun o => o.guard.isNone) &&
  (List.range ops.size).all (fun j => match ops[j]? with
    | none => true
    | some o => (decide (isQ (L j)) || decide (L j = 1) || (List.range ops.size).all (fun i => decide (L i ≠ 0) || reach ops ops.size j i)) &&
      (decide (isQ (L j)) || (List.range j).all (fun i => decide (isQ (L i)) || o.after.any (fun e => Region.binds .any e && decide (i ≤ e.on) && decide (e.on < j) && decide (¬ isQ (L e.on))))))
theorem ordered_of (h : orderedB ops L = true) : Ordered ops L := by
  simp only [orderedB, Bool.and_eq_true, List.all_eq_true, List.mem_range] at h
  obtain ⟨⟨hs, hg⟩, hj⟩ := h
  have at_ : ∀ (j : Nat) (o : Oper), ops[j]? = some o → j < ops.size := fun j o ho => (Array.getElem?_eq_some_iff.1 ho).1
  refine ⟨fun j hjs hl hl1 i hi hli => ?_, fun j o ho hl i hi hli => ?_, fun j o cs b ho => Region.noSelect_spec hs j o cs b ho, fun j o ho => ?_⟩
  · have := hj j hjs
    rw [Array.getElem?_eq_getElem hjs] at this
    simp only [Bool.and_eq_true, Bool.or_eq_true, decide_eq_true_eq, List.all_eq_true, List.mem_range] at this
    rcases this.1 with (h1 | h1) | h1
    · exact absurd h1 hl
    · exact absurd h1 hl1
    · rcases h1 i hi with h2 | h2
      · exact absurd hli h2
      · exact h2
  · have := hj j (at_ j o ho)
    rw [ho] at this
    simp only [Bool.and_eq_true, Bool.or_eq_true, decide_eq_true_eq, List.all_eq_true, List.mem_range] at this
    rcases this.2 with h1 | h1
    · exact absurd h1 hl
    · rcases h1 i hi with h2 | h2
      · exact absurd h2 hli
      · obtain ⟨e, he, hb⟩ := Array.any_eq_true'.1 h2
        simp only [Bool.and_eq_true, decide_eq_true_eq] at hb
        exact ⟨e, he, hb.1.1.1, hb.1.1.2, hb.1.2, hb.2⟩
  · have := Array.all_eq_true_iff_forall_mem.1 hg o (Array.mem_of_getElem? ho)
    simpa using this

/-- The walk of the text's order. -/
def wpMix (P : Program) (C : World → Prop) (L : Nat → Nat) (Q : Act → World → Prop) : Nat → List Oper → Act → World → Prop
  | _, [], a, w => Q a w
  | k, o :: rest, a, w => (isQ (L k) ∧ ∃ v, still P (cls C (L k)) o a v ∧ wpMix P C L Q (k + 1) rest (a.put o.dst v) w) ∨
      (¬ isQ (L k) ∧ loudly P o a w (fun u w' => (L k = 1 → C w') ∧ wpMix P C L Q (k + 1) rest (a.put o.dst u) w'))
theorem no_qleft (hO : Ordered ops L) {listed : Array Bool} {k : Nat} (hz : listed.size = ops.size) (hcl : Closed ops listed) (hr : k ∈ Region.ready .any ops listed) (hk : ¬ isQ (L k)) (hk1 : L k ≠ 1) : ¬ qleft ops L listed := by
  rintro ⟨j, hj, hun, hq⟩
  obtain ⟨_, o, ho, _⟩ := mem_ready.1 hr
  exact listed_both (by omega) (hcl.ready hr (hO.last k (Array.getElem?_eq_some_iff.1 ho).1 hk hk1 j hj hq)) hun
theorem wpM_lex (hO : Ordered ops L) : ∀ (l : List Oper) (k : Nat) (listed : Array Bool) (a : Act) (w : World), (∀ j, l[j]? = ops[k + j]?) → Region.lexFrom .any ops l.length k listed = true → listed.size = ops.size → Closed ops listed →
    (∀ j, j < k → j < ops.size → listed.getD j true = true) → (∀ j, k ≤ j → j < ops.size → listed.getD j true = false) → (qleft ops L listed → C w) →
    wpMix P C L Q k l a w → wpM P ops C L Q l.length listed a w
  | [], _, _, _, _, _, hB, _, _, _, _, _, h => ⟨by simpa [Region.lexFrom] using hB, h⟩
  | o :: l, k, listed, a, w, hl, hB, hz, hcl, hlo, hhi, hC, h => by
    have h0 : ops[k]? = some o := by simpa using (hl 0).symm
    have hks : k < ops.size := (Array.getElem?_eq_some_iff.1 h0).1
    simp only [List.length_cons, Region.lexFrom, Bool.and_eq_true] at hB
    obtain ⟨⟨hr, hf⟩, hB'⟩ := hB
    have hr : k ∈ Region.ready .any ops listed := by simpa using hr
    have hfree := Region.free_spec h0 hf
    have hl' : ∀ j, l[j]? = ops[k + 1 + j]? := fun j => by have := hl (j + 1); simpa [Nat.add_assoc, Nat.add_comm 1 j] using this
    have hz' : (listed.setIfInBounds k true).size = ops.size := by simpa using hz
    have hlo' : ∀ j, j < k + 1 → j < ops.size → (listed.setIfInBounds k true).getD j true = true := fun j hj hjs => by
      by_cases e : k = j
      · subst e; simp [Array.getD, hz, hks]
      · rw [getD_set_ne true e]; exact hlo j (by omega) hjs
    have hhi' : ∀ j, k + 1 ≤ j → j < ops.size → (listed.setIfInBounds k true).getD j true = false := fun j hj hjs => by
      rw [getD_set_ne true (by omega)]; exact hhi j (by omega) hjs
    rcases h with ⟨hL, v, hv, hn⟩ | ⟨hL, hn⟩
    · exact first_still hO h0 hL l.length listed a w hz hcl hC hfree hr hv (wpM_lex hO l (k + 1) _ _ w hl' hB' hz' (hcl.set hr) hlo' hhi' (fun h => hC (qleft_set h)) hn)
    · refine first_loud hO h0 hL l.length listed a w hz hcl hC hfree (fun j hj _ => ?_) (fun j hj hjs _ => hhi j hj hjs) hr ⟨o, h0, hO.guard _ _ h0, .inr ⟨hL, hn.mono fun u w' ⟨hc, hn'⟩ => ⟨hc, ?_⟩⟩⟩
      · exact hlo j hj (by omega)
      · refine wpM_lex hO l (k + 1) _ _ w' hl' hB' hz' (hcl.set hr) hlo' hhi' (fun h => ?_) hn'
        by_cases h2 : L k = 1
        · exact hc h2
        · exact absurd (qleft_set h) (no_qleft hO hz hcl hr hL h2)
theorem any_of_M (hO : Ordered ops L) {Q' : Exit → Act → World → Prop} (hQ : ∀ a w, Q a w → Q' .normal a w) : ∀ (fuel : Nat) (listed : Array Bool) (a : Act) (w : World), listed.size = ops.size → Closed ops listed → (qleft ops L listed → C w) →
    wpM P ops C L Q fuel listed a w → wpAny P .any ops Q' fuel listed a w
  | 0, _, _, _, _, _, _, h => ⟨h.1, hQ _ _ h.2⟩
  | fuel + 1, listed, a, w, hz, hcl, hC, h => by
    refine ⟨fun h0 => hQ _ _ (h.1 h0), fun i hi => ?_⟩
    obtain ⟨o, ho, hg, hcase⟩ := h.2 i hi
    unfold wpOp
    have hw : Region.wanted o (yielded ops a.tmps) = true := by simp [Region.wanted, hg]
    simp only [ho, hw, if_true]
    have hz' : (listed.setIfInBounds i true).size = ops.size := by simpa using hz
    rcases hcase with ⟨hL, v, hv, hn⟩ | ⟨hL, hn⟩
    · have his : i < ops.size := (Array.getElem?_eq_some_iff.1 ho).1
      have hun := (mem_ready.1 hi).1
      refine .inl ?_
      unfold Oper.wp
      rw [hv w (fun h0 => hC ⟨i, his, hun, h0⟩)]
      exact any_of_M hO hQ fuel _ _ w hz' (hcl.set hi) (fun h => hC (qleft_set h)) hn
    · refine .inl ((hn.mono fun u w' ⟨hc, hn'⟩ => ?_ : loudly P o a w (fun u w' => wpAny P .any ops Q' fuel (listed.setIfInBounds i true) (a.put o.dst u) w')).wp)
      refine any_of_M hO hQ fuel _ _ w' hz' (hcl.set hi) (fun h => ?_) hn'
      by_cases h2 : L i = 1
      · exact hc h2
      · exact absurd (qleft_set h) (no_qleft hO hz hcl hi hL h2)
/-- THE REGION. -/
theorem wp_region_mix {id : Nat} {Q' : Exit → Act → World → Prop} {a : Act} {w : World} {l : List Oper} (L : Nat → Nat) (C : World → Prop) (hm : P.follows .mixedOrders = true) (hB : Region.lexB .any l.toArray = true) (hO : orderedB l.toArray L = true) (hC : C w.drew)
    (h : wpMix P C L (fun a w => Q' .normal a w) 0 l a w.drew) : (Code.region id l.toArray true).wp P Q' a w := by
  simp only [Region.lexB, Bool.and_eq_true] at hB
  have hcl0 : Closed l.toArray (Array.replicate l.toArray.size false) := fun j o ho hj => by
    simp [Array.getD] at hj
  refine wp_region_any hm (any_of_M (ordered_of hO) (C := C) (Q := fun a w => Q' .normal a w) (fun _ _ h => h) _ _ _ _ (by simp) hcl0 (fun _ => hC) ?_)
  have := wpM_lex (ops := l.toArray) (P := P) (C := C) (Q := fun a w => Q' .normal a w) (ordered_of hO) l 0 (Array.replicate l.toArray.size false) a w.drew (by simp) (by simpa using hB.2) (by simp) hcl0 (by intro j hj; omega)
    (by intro j _ hj; simp at hj; simp [Array.getD, hj]) (fun _ => hC) h
  simpa using this
theorem mix_nil {k : Nat} {a : Act} {w : World} (h : Q a w) : wpMix P C L Q k [] a w := h
theorem mix_still {k : Nat} {o : Oper} {rest : List Oper} {a : Act} {w : World} (v : Value) (hL : L k = 0) (hv : ∀ w, C w → (execOp a.eval o).run P w = .ok (.value v) w) (h : wpMix P C L Q (k + 1) rest (a.put o.dst v) w) :
    wpMix P C L Q k (o :: rest) a w := .inl ⟨.inl hL, v, fun w hw => hv w (hw hL), h⟩
theorem mix_pure {k : Nat} {o : Oper} {rest : List Oper} {a : Act} {w : World} (v : Value) (hL : L k = 3) (hv : ∀ w, (execOp a.eval o).run P w = .ok (.value v) w) (h : wpMix P C L Q (k + 1) rest (a.put o.dst v) w) :
    wpMix P C L Q k (o :: rest) a w := .inl ⟨.inr hL, v, fun w _ => hv w, h⟩
theorem mix_call {k : Nat} {o : Oper} {rest : List Oper} {a : Act} {w : World} (f : FuncId) (args : Array Value) (hL : L k = 1) (hr : (execOp a.eval o).run P w = .ok (.enter f args) w)
    (h : Calls P f args w fun e w' => ∃ u, e = .returned u ∧ C w' ∧ wpMix P C L Q (k + 1) rest (a.put o.dst u) w') : wpMix P C L Q k (o :: rest) a w :=
  .inr ⟨by unfold isQ; omega, .inr (.inr ⟨f, args, w, hr, h.mono fun e w' ⟨u, he, hc, hn⟩ => ⟨u, he, fun _ => hc, hn⟩⟩)⟩
theorem mix_store {k : Nat} {o : Oper} {rest : List Oper} {a : Act} {w : World} (w' : World) (hL : L k = 2) (hr : (execOp a.eval o).run P w = .ok .skip w')
    (h : wpMix P C L Q (k + 1) rest (a.put o.dst undef) w') : wpMix P C L Q k (o :: rest) a w :=
  .inr ⟨by unfold isQ; omega, .inr (.inl ⟨w', hr, fun e => by omega, h⟩)⟩
end
end Go.Proofs.Ytemnlcfabaocbaa
/-
  The walks of layer 2: Euclid's algorithm, ended early.
-/
namespace Go.Proofs.Ytemnlcfabaocbaa
open Go.RowKit Gf
set_option maxRecDepth 20000
set_option linter.unusedVariables false

theorem results_tmp4 {fn : Func} {t u v x : Tmp} (h : fn.results = #[.tmp t, .tmp u, .tmp v, .tmp x]) (tmps : Array Value) (P : Program) (w : World) :
    (results fn tmps).run P w = .ok (.tuple #[tmps.getD t undef, tmps.getD u undef, tmps.getD v undef, tmps.getD x undef]) w := by
  simp [results, h]
theorem polyPartial_neg (A C : Option Addr) (n m ca cb : Nat) (k : Int) (hk : k < 0) (w : World) :
    Calls Try.prog 52 #[.slice A n ca, .slice C m cb, .int .i64 k] w fun e w' => e = .returned (.tuple #[.slice none 0 0, .slice none 0 0, .slice none 0 0, .int .i64 2]) ∧ w = w' := by
  have hd := decide_eq_true hk
  go_enter Try.func52, Try.ntmps52
  go_wp2
  (try simp only [Exit.inBlock, Exit.then]); refine bodyPost_ret (results_tmp4 rfl _ _ _) rfl ?_
  exact ⟨rfl, rfl⟩
/-- No slice into the two boxes. -/
def Far (G : Nat) (A : Option Addr) : Prop := ∀ ad, A = some ad → ad.block ≠ G ∧ ad.block ≠ G + 1
/-- A row of Euclid's: three slices. -/
structure RowRd (w : World) (B G : Nat) (a : Row) (Ag Au Av : Option Addr) (cg cu cv : Nat) : Prop where
  g : Own w B 34 (.slice Ag a.g.length cg) (bs a.g)
  u : Rd w Au (bs a.u)
  v : Rd w Av (bs a.v)
  fg : Far G Ag
  fu : Far G Au
  fv : Far G Av
theorem RowRd.ext {w w' : World} {B G : Nat} {a : Row} {Ag Au Av : Option Addr} {cg cu cv : Nat} (h : RowRd w B G a Ag Au Av cg cu cv) (e : Ext w w') : RowRd w' B G a Ag Au Av cg cu cv :=
  ⟨h.g.ext e, h.u.ext e, h.v.ext e, h.fg, h.fu, h.fv⟩
theorem RowRd.set {w : World} {B G : Nat} {a : Row} {Ag Au Av : Option Addr} {cg cu cv : Nat} (h : RowRd w B G a Ag Au Av cg cu cv) (g i : Nat) (hg : g = G ∨ g = G + 1) (x : Value) : RowRd (w.setCell ⟨g, i, none⟩ x) B G a Ag Au Av cg cu cv := by
  have far : ∀ A, Far G A → ∀ ad, A = some ad → ad.block ≠ g := fun A hA ad e => by have := hA ad e; omega
  refine ⟨h.g.far (p := ⟨g, i, none⟩) ?_ x, h.u.setCell (p := ⟨g, i, none⟩) (far _ h.fu) x, h.v.setCell (p := ⟨g, i, none⟩) (far _ h.fv) x, h.fg, h.fu, h.fv⟩
  intro e
  cases Ag with
  | none => cases e
  | some ad => exact far _ h.fg ad rfl (by simpa [Value.ownBlock] using e)
theorem Blk.set3 {w : World} {G : Nat} {t : TypeId} {x y z : Value} (h : Blk w G t #[x, y, z]) (a b c : Value) : Blk (((w.setCell ⟨G, 0, none⟩ a).setCell ⟨G, 1, none⟩ b).setCell ⟨G, 2, none⟩ c) G t #[a, b, c] := by
  have := ((h.set_ 0 a).set_ 1 b).set_ 2 c
  simpa using this
theorem Blk.far3 {w : World} {G G' : Nat} {t : TypeId} {cs : Array Value} (h : Blk w G t cs) (hne : G ≠ G') (a b c : Value) : Blk (((w.setCell ⟨G', 0, none⟩ a).setCell ⟨G', 1, none⟩ b).setCell ⟨G', 2, none⟩ c) G t cs :=
  ((h.far (p := ⟨G', 0, none⟩) hne a).far (p := ⟨G', 1, none⟩) hne b).far (p := ⟨G', 2, none⟩) hne c
theorem ext3 {w w' : World} {G : Nat} (h : Ext w w') (hG : w.heap.size ≤ G) (a b c : Value) : Ext w (((w'.setCell ⟨G, 0, none⟩ a).setCell ⟨G, 1, none⟩ b).setCell ⟨G, 2, none⟩ c) :=
  ((h.new (p := ⟨G, 0, none⟩) hG a).new (p := ⟨G, 1, none⟩) hG b).new (p := ⟨G, 2, none⟩) hG c
theorem far_new {w : World} {B G : Nat} {T : TypeId} {A : Option Addr} {n c : Nat} {xs : List Value} (h : Own w B T (.slice A n c) xs) (hB : G + 1 < B) : Far G A := by
  obtain ⟨A', c', hv, _, _, _, hlt⟩ := h.slice
  injection hv with e1
  subst e1
  intro ad e
  have := (hlt ad e).1
  omega
def lenAt (w : World) (G : Nat) : Nat := match w.cell? ⟨G, 0, none⟩ with | some (.slice _ l _) => l | _ => 0
/-- What the loop keeps. -/
structure PI (p q : List E) (k n m : Nat) (w wr : World) (GA : Nat) (N : Nat) (a b : Row) (Ag Au Av Bg Bu Bv : Option Addr) (cg cu cv dg' du dv : Nat) : Prop where
  ext : Ext w wr
  hGA : w.heap.size ≤ GA
  hGB : GA + 1 < wr.heap.size
  ra : RowN p q N a
  rb : RowN p q (N + 1) b
  before : ∀ j, j < N → ∀ x, RowN p q j x → k < x.g.length
  ba : Blk wr GA 127 #[.slice Ag a.g.length cg, .slice Au a.u.length cu, .slice Av a.v.length cv]
  bb : Blk wr (GA + 1) 127 #[.slice Bg b.g.length dg', .slice Bu b.u.length du, .slice Bv b.v.length dv]
  la : RowRd wr w.heap.size GA a Ag Au Av cg cu cv
  lb : RowRd wr w.heap.size GA b Bg Bu Bv dg' du dv
  sz : N + b.g.length ≤ m
  sg : a.g.length ≤ n + m
  su : a.u.length ≤ (N + 1) * 8000001 ∧ b.u.length ≤ (N + 1) * 8000001 ∧ a.v.length ≤ (N + 1) * 8000001 ∧ b.v.length ≤ (N + 1) * 8000001
set_option maxHeartbeats 4000000 in
theorem polyPartial_far (A C : Option Addr) (n m ca cb : Nat) (p q : List E) (k : Nat) (w : World) (hn : p.length = n) (hm : q.length = m) (hr : Rd w A (bs p)) (hs : Rd w C (bs q)) (hlen : n ≤ 4000000) (hlenq : m ≤ 4000000) (hca : n ≤ ca) (hcb : m ≤ cb) (hk : (Lit.int .i64 (k : Int)).wf = true) :
    Calls Try.prog 52 #[.slice A n ca, .slice C m cb, .int .i64 k] w fun e w' => ∃ vg vu vv r, e = .returned (.tuple #[vg, vu, vv, .int .i64 0]) ∧ PartRes p q k r ∧
      Own w' w.heap.size 34 vg (bs r.g) ∧ Own w' w.heap.size 34 vu (bs r.u) ∧ Own w' w.heap.size 34 vv (bs r.v) ∧ Ext w w' ∧ r.u.length ≤ 40000000000000 ∧ r.v.length ≤ 40000000000000 ∧ r.g.length ≤ 8000000 ∧
      ∃ n1 n2, n1 ≤ n2 ∧ (∀ g, vg.ownBlock = some g → g < n1) ∧ (∀ g, vu.ownBlock = some g → n1 ≤ g ∧ g < n2) ∧ (∀ g, vv.ownBlock = some g → n2 ≤ g) := by
  have hmo : Try.prog.follows Departure.mixedOrders = true := by kernel_rfl
  have hk9 : (k : Int) ≤ 9223372036854775807 := by
    have : 0 ≤ (k : Int) ∧ _ := ⟨by omega, hk⟩
    simpa [Lit.wf, IntKind.min, IntKind.max, IntKind.signed, IntKind.bits] using hk
  go_enter Try.func52, Try.ntmps52
  go_wp2_with fail
  refine (trim_n A n p ca _ hn (hr.alloc _) (by omega) hca).mono ?_
  rintro e w1 ⟨v, rfl, ho1, hx1⟩
  obtain ⟨Ap, cp, rfl, -, hcp, hmp⟩ := ho1.bytesN rfl
  go_wp2_with fail
  refine (trim_n C m q cb _ hm ((hs.alloc _).ext hx1) (by omega) hcb).mono ?_
  rintro e w2 ⟨v, rfl, ho2, hx2⟩
  obtain ⟨Aq, cq, rfl, -, hcq, hmq⟩ := ho2.bytesN rfl
  have x0 : Ext w (w.alloc (.cells #[.int .u8 1] 34)) := (Ext.refl w).alloc _
  have y1 := x0.trans hx1
  have y2 := y1.trans hx2
  have h1 : Rd w2 (some ⟨w.heap.size, 0, none⟩) (bs [1]) := ((rd_lit w 34 [1] (by simp)).ext hx1).ext hx2
  have hpl := trim_le p
  have hql := trim_le q
  have hl2 : w.heap.size < w2.heap.size := by
    have := hx1.le
    have := hx2.le
    rw [World.size_alloc] at *
    omega
  obtain ⟨w3, hw3⟩ : ∃ w3, w3 = (w2.alloc (.cells #[.slice Ap (trim p).length cp, .slice (some ⟨w.heap.size, 0, none⟩) 1 1, .slice none 0 0] 127)).alloc (.cells #[.slice Aq (trim q).length cq, .slice none 0 0, .slice (some ⟨w.heap.size, 0, none⟩) 1 1] 127) := ⟨_, rfl⟩
  have x3 : Ext w2 w3 := by rw [hw3]; exact ((Ext.refl w2).alloc _).alloc _
  have f0 : Far w2.heap.size none := fun ad e => by cases e
  have f1 : Far w2.heap.size (some ⟨w.heap.size, 0, none⟩) := fun ad e => by injection e with e; subst e; exact ⟨by show w.heap.size ≠ _; omega, by show w.heap.size ≠ _; omega⟩
  have fo : ∀ {B : Nat} {A : Option Addr} {l c : Nat} {xs : List Value}, Own w2 B 34 (.slice A l c) xs → Far w2.heap.size A := fun h ad e => by
    obtain ⟨A', c', hv, _, _, _, hlt⟩ := h.slice
    injection hv with e1
    subst e1
    have := (hlt ad e).2
    omega
  have HI : PI p q k n m w w3 w2.heap.size 0 ⟨trim p, [1], []⟩ ⟨trim q, [], [1]⟩ Ap (some ⟨w.heap.size, 0, none⟩) none Aq none (some ⟨w.heap.size, 0, none⟩) cp 1 0 cq 0 1 := by
    have ho1' := (ho1.mono x0.le).ext hx2
    have ho2' := ho2.mono y1.le
    refine ⟨y2.trans x3, by omega, by rw [hw3]; simp, rfl, rfl, fun j hj => absurd hj (by omega), ?_, ?_, ⟨ho1'.ext x3, h1.ext x3, Rd.nil _ _, fo ho1', f1, f0⟩, ⟨ho2'.ext x3, Rd.nil _ _, h1.ext x3, fo ho2', f0, f1⟩, by simp; omega, by simp; omega, by simp⟩
    · rw [hw3]; exact (Blk.new _ _ _).alloc _
    · rw [hw3]
      have := Blk.new (w2.alloc (.cells #[.slice Ap (trim p).length cp, .slice (some ⟨w.heap.size, 0, none⟩) 1 1, .slice none 0 0] 127)) 127 #[.slice Aq (trim q).length cq, .slice none 0 0, .slice (some ⟨w.heap.size, 0, none⟩) 1 1]
      rwa [World.size_alloc] at this
  have HI := Lib.hid HI
  obtain ⟨GA, hGA⟩ : ∃ GA, GA = w2.heap.size := ⟨_, rfl⟩
  go_wp2_with fail
  rw [← hw3]
  rw [← hGA] at HI ⊢
  clear hGA hw3 h1 ho1 ho2 hx1 hx2 x0 y1 y2 x3 hr hs f0 f1 fo hl2
  go_loopw [] (fun wr => ∃ (N : Nat) (a b : Row) (Ag Au Av Bg Bu Bv : Option Addr) (cg cu cv dg' du dv : Nat), PI p q k n m w wr GA N a b Ag Au Av Bg Bu Bv cg cu cv dg' du dv) (fun wr => lenAt wr (GA + 1))
  case atStart => exact ⟨0, _, _, _, _, _, _, _, _, _, _, _, _, _, _, HI.out⟩
  case round =>
    obtain ⟨N, a, b, Ag, Au, Av, Bg, Bu, Bv, cg, cu, cv, dg', du, dv, hI⟩ := hrel
    clear HI
    have hsg := hI.sg
    have hq0 : wr.cell? ⟨GA, 0, none⟩ = some (.slice Ag a.g.length cg) := hI.ba.cell 0
    have hw1 : wrap64 ((a.g.length : Int) - 1) = (a.g.length : Int) - 1 := IntWalk.wrap64_in _ (by omega)
    have HII := Lib.hid hI
    by_cases hgo : k < a.g.length
    · have hd1 : decide ((k : Int) ≤ (a.g.length : Int) - 1) = true := decide_eq_true (by omega)
      have hr0 : wr.cell? ⟨GA + 1, 0, none⟩ = some (.slice Bg b.g.length dg') := hI.bb.cell 0
      have hr1 : wr.cell? ⟨GA + 1, 1, none⟩ = some (.slice Bu b.u.length du) := hI.bb.cell 1
      have hr2 : wr.cell? ⟨GA + 1, 2, none⟩ = some (.slice Bv b.v.length dv) := hI.bb.cell 2
      have hq1 : wr.cell? ⟨GA, 1, none⟩ = some (.slice Au a.u.length cu) := hI.ba.cell 1
      have hq2 : wr.cell? ⟨GA, 2, none⟩ = some (.slice Av a.v.length cv) := hI.ba.cell 2
      have hfa := hI.ba.frozen
      by_cases hz : b.g.length = 0
      · have hr0' := hr0
        rw [hz] at hr0
        have hf0 := hfa 0
        have hf1 := hfa 1
        have hf2 := hfa 2
        have HZ := Lib.hid hz
        clear hI hfa hz hr0'
        go_wp2_with fail
        obtain ⟨W, hW⟩ : ∃ W, W = ((wr.setCell ⟨GA, 0, none⟩ (.slice Bg 0 dg')).setCell ⟨GA, 1, none⟩ (.slice Bu b.u.length du)).setCell ⟨GA, 2, none⟩ (.slice Bv b.v.length dv) := ⟨_, rfl⟩
        have HBK : Hid (Blk W GA 127 #[.slice Bg b.g.length dg', .slice Bu b.u.length du, .slice Bv b.v.length dv]) := Lib.hid (by rw [hW, HZ.out]; exact HII.out.ba.set3 _ _ _)
        have HRR : Hid (RowRd W w.heap.size GA b Bg Bu Bv dg' du dv) := Lib.hid (by rw [hW]; exact ((HII.out.lb.set GA 0 (.inl rfl) _).set GA 1 (.inl rfl) _).set GA 2 (.inl rfl) _)
        have HXW : Hid (Ext w W) := Lib.hid (by rw [hW]; exact ext3 HII.out.ext HII.out.hGA _ _ _)
        have HPR : Hid (PartRes p q k b) := Lib.hid ⟨N + 1, HII.out.rb, by rw [HZ.out]; omega, fun j hj x hx => by
          rcases Nat.lt_or_ge j N with h | h
          · exact HII.out.before j h x hx
          · obtain rfl : j = N := by omega
            rw [RowN.uniq j x a hx HII.out.ra]; exact hgo⟩
        have hul : b.u.length ≤ 40000000000000 := by have := HII.out.su.2.1; have := HII.out.sz; omega
        have hvl : b.v.length ≤ 40000000000000 := by have := HII.out.su.2.2.2; have := HII.out.sz; omega
        have hgl : b.g.length ≤ 8000000 := by rw [HZ.out]; omega
        rw [← hW]
        clear hW hr0 hr1 hr2 hq0 hq1 hq2 hf0 hf1 hf2 hw1 hd1
        refine wp_region_mix (fun i => [0, 0, 0, 0, 1, 0, 0, 1, 0, 0, 0, 0].getD i 0) (fun w' => Ext W w') hmo (by kernel_rfl) (by kernel_rfl) ((Ext.refl _).drewN 1) ?_
        have g0 : ∀ w', Ext W w' → w'.cell? ⟨GA, 0, none⟩ = some (.slice Bg b.g.length dg') := fun w' h => (HBK.out.below h HBK.out.lt).cell 0
        have g1 : ∀ w', Ext W w' → w'.cell? ⟨GA, 1, none⟩ = some (.slice Bu b.u.length du) := fun w' h => (HBK.out.below h HBK.out.lt).cell 1
        have g2 : ∀ w', Ext W w' → w'.cell? ⟨GA, 2, none⟩ = some (.slice Bv b.v.length dv) := fun w' h => (HBK.out.below h HBK.out.lt).cell 2
        have xd : Ext W W.drew := (Ext.refl _).drewN 1
        refine mix_still (.pointer (some ⟨GA, 0, none⟩)) rfl (fun w' hw' => by go_simp) ?_
        refine mix_still (.slice Bg b.g.length dg') rfl (fun w' hw' => by have := g0 w' hw'; go_simp) ?_
        refine mix_still (.pointer (some ⟨GA, 1, none⟩)) rfl (fun w' hw' => by go_simp) ?_
        refine mix_still (.slice Bu b.u.length du) rfl (fun w' hw' => by have := g1 w' hw'; go_simp) ?_
        refine mix_call 87 #[.slice Bu b.u.length du] rfl (by go_simp) ?_
        refine (clone_n Bu _ b.u du _ rfl (HRR.out.u.ext xd) (by omega)).mono ?_
        rintro e w4 ⟨vu, rfl, hou, hx4⟩
        have x4 := xd.trans hx4
        refine ⟨vu, rfl, x4, ?_⟩
        refine mix_still (.pointer (some ⟨GA, 2, none⟩)) rfl (fun w' hw' => by go_simp) ?_
        refine mix_still (.slice Bv b.v.length dv) rfl (fun w' hw' => by have := g2 w' hw'; go_simp) ?_
        refine mix_call 87 #[.slice Bv b.v.length dv] rfl (by go_simp) ?_
        refine (clone_n Bv _ b.v dv _ rfl (HRR.out.v.ext x4) (by omega)).mono ?_
        rintro e w5 ⟨vv, rfl, hov, hx5⟩
        have x5 := x4.trans hx5
        refine ⟨vv, rfl, x5, ?_⟩
        refine mix_still (.slice Bg b.g.length dg') rfl (fun w' hw' => by go_simp) ?_
        refine mix_still vu rfl (fun w' hw' => by go_simp) ?_
        refine mix_still vv rfl (fun w' hw' => by go_simp) ?_
        refine mix_still (.int .i64 0) rfl (fun w' hw' => by go_simp) ?_
        refine mix_nil ?_
        go_wp2
        (try simp only [Exit.inBlock, Exit.then]); refine bodyPost_ret (results_tmp4 rfl _ _ _) rfl ?_
        have hext := HXW.out
        refine ⟨.slice Bg b.g.length dg', vu, vv, b, ?_, HPR.out, (HRR.out.ext x5).g, ?_, hov.mono (hext.trans x4).le, hext.trans x5, hul, hvl, hgl, W.heap.size, w4.heap.size, x4.le, fun g hg => (HRR.out.g.lt g hg).2, fun g hg => hou.lt g hg, fun g hg => (hov.lt g hg).1⟩
        · first | (with_reducible rfl) | (simp; done) | go_simp
        exact (hou.mono (hext.trans xd).le).ext hx5
      · have HZ := Lib.hid hz
        clear hI hfa
        have htb := RowN.tr _ _ HII.out.rb
        have hpos : 0 < dg b.g := by rw [htb.dg]; have := HZ.out; omega
        have hgb : b.g.length ≤ 8000000 := by have := HII.out.sz; omega
        have hzb : ((b.g.length : Int) == 0) = false := by rw [beq_eq_false_iff_ne]; have := HZ.out; omega
        obtain ⟨cg', hcg⟩ : ∃ c', c' = cg := ⟨_, rfl⟩
        have hcga : a.g.length ≤ cg := by obtain ⟨_, _, hv, -, h, -, -⟩ := HII.out.la.g.slice; injection hv with _ _ e3; subst e3; rwa [bs_length] at h
        have hcgb : b.g.length ≤ dg' := by obtain ⟨_, _, hv, -, h, -, -⟩ := HII.out.lb.g.slice; injection hv with _ _ e3; subst e3; rwa [bs_length] at h
        clear htb hcg
        go_wp2_with fail
        refine (polyDivide_n Ag Bg _ _ cg dg' a.g b.g _ rfl rfl HII.out.la.g.rd HII.out.lb.g.rd (by omega) (by omega) hcga hcgb hpos).mono ?_
        rintro e w4 ⟨vs, vr, s, r, rfl, hd, hos, hor, -, hx4⟩
        obtain ⟨As, cs, rfl, hrs, -, -⟩ := hos.bytesN rfl
        obtain ⟨Ar, cr, rfl, -, -, -⟩ := hor.bytesN rfl
        have hls := hd.ls
        have hlr := hd.lt
        have hdgb := dg_le b.g
        have hbs := HII.out.su
        have hsz := HII.out.sz
        have HD := Lib.hid hd
        have HOR := Lib.hid hor
        have HRS := Lib.hid hrs
        have HX4 := Lib.hid hx4
        have hb1 := timesL_le s b.u
        have hb2 := plusL_le a.u (timesL s b.u)
        have hb3 := timesL_le s b.v
        have hb4 := plusL_le a.v (timesL s b.v)
        have BA4 := Lib.hid (HII.out.ba.below hx4 HII.out.ba.lt)
        have BB4 := Lib.hid (HII.out.bb.below hx4 HII.out.bb.lt)
        have LA4 := Lib.hid (HII.out.la.ext hx4)
        have LB4 := Lib.hid (HII.out.lb.ext hx4)
        clear hd hos hor hrs hx4 hr0 hr1 hr2 hq0 hq1 hq2
        go_wp2_with fail
        refine wp_region_mix (fun i => [0, 3, 3, 0, 3, 3, 0, 1, 1, 3, 0, 3, 3, 0, 1, 1, 3, 2, 2].getD i 0) (fun w' => Ext w4 w') hmo (by kernel_rfl) (by kernel_rfl) ((Ext.refl _).drewN 1) ?_
        have g1 : ∀ w', Ext w4 w' → w'.cell? ⟨GA, 1, none⟩ = some (.slice Au a.u.length cu) := fun w' h => (BA4.out.below h BA4.out.lt).cell 1
        have g2 : ∀ w', Ext w4 w' → w'.cell? ⟨GA, 2, none⟩ = some (.slice Av a.v.length cv) := fun w' h => (BA4.out.below h BA4.out.lt).cell 2
        have k0 : ∀ w', Ext w4 w' → w'.cell? ⟨GA + 1, 0, none⟩ = some (.slice Bg b.g.length dg') := fun w' h => (BB4.out.below h BB4.out.lt).cell 0
        have k1 : ∀ w', Ext w4 w' → w'.cell? ⟨GA + 1, 1, none⟩ = some (.slice Bu b.u.length du) := fun w' h => (BB4.out.below h BB4.out.lt).cell 1
        have k2 : ∀ w', Ext w4 w' → w'.cell? ⟨GA + 1, 2, none⟩ = some (.slice Bv b.v.length dv) := fun w' h => (BB4.out.below h BB4.out.lt).cell 2
        have xd : Ext w4 w4.drew := (Ext.refl _).drewN 1
        refine mix_still (.agg #[.slice Bg b.g.length dg', .slice Bu b.u.length du, .slice Bv b.v.length dv]) rfl (fun w' hw' => by have h0 := k0 w' hw'; have h1 := k1 w' hw'; have h2 := k2 w' hw'; go_simp) ?_
        refine mix_pure (.slice Ar r.length cr) rfl (fun w' => by go_simp) ?_
        refine mix_pure (.pointer (some ⟨GA, 1, none⟩)) rfl (fun w' => by go_simp) ?_
        refine mix_still (.slice Au a.u.length cu) rfl (fun w' hw' => by have := g1 w' hw'; go_simp) ?_
        refine mix_pure (.slice As s.length cs) rfl (fun w' => by go_simp) ?_
        refine mix_pure (.pointer (some ⟨GA + 1, 1, none⟩)) rfl (fun w' => by go_simp) ?_
        refine mix_still (.slice Bu b.u.length du) rfl (fun w' hw' => by have := k1 w' hw'; go_simp) ?_
        refine mix_call 41 #[.slice As s.length cs, .slice Bu b.u.length du] rfl (by go_simp) ?_
        refine (polyTimes_n As Bu _ _ cs du s b.u _ rfl rfl (HRS.out.ext xd) (LB4.out.u.ext xd) (by omega)).mono ?_
        rintro e w5 ⟨v, rfl, ho, hx5⟩
        obtain ⟨A5, c5, rfl, hr5, -, -⟩ := ho.bytesN rfl
        have x5 := xd.trans hx5
        clear ho
        refine ⟨_, rfl, x5, ?_⟩
        refine mix_call 40 #[.slice Au a.u.length cu, .slice A5 (timesL s b.u).length c5] rfl (by go_simp) ?_
        refine (polyPlus_n Au A5 _ _ cu c5 a.u (timesL s b.u) _ rfl rfl (LA4.out.u.ext x5) hr5 (by omega) (by omega)).mono ?_
        rintro e w6 ⟨v, rfl, ho6, hx6⟩
        obtain ⟨A6, c6, rfl, hr6, -, -⟩ := ho6.bytesN rfl
        have x6 := x5.trans hx6
        refine ⟨_, rfl, x6, ?_⟩
        refine mix_pure (.pointer (some ⟨GA, 2, none⟩)) rfl (fun w' => by go_simp) ?_
        refine mix_still (.slice Av a.v.length cv) rfl (fun w' hw' => by have := g2 w' hw'; go_simp) ?_
        refine mix_pure (.slice As s.length cs) rfl (fun w' => by go_simp) ?_
        refine mix_pure (.pointer (some ⟨GA + 1, 2, none⟩)) rfl (fun w' => by go_simp) ?_
        refine mix_still (.slice Bv b.v.length dv) rfl (fun w' hw' => by have := k2 w' hw'; go_simp) ?_
        refine mix_call 41 #[.slice As s.length cs, .slice Bv b.v.length dv] rfl (by go_simp) ?_
        refine (polyTimes_n As Bv _ _ cs dv s b.v _ rfl rfl (HRS.out.ext x6) (LB4.out.v.ext x6) (by omega)).mono ?_
        rintro e w7 ⟨v, rfl, ho, hx7⟩
        obtain ⟨A7, c7, rfl, hr7, -, -⟩ := ho.bytesN rfl
        have x7 := x6.trans hx7
        clear ho
        refine ⟨_, rfl, x7, ?_⟩
        refine mix_call 40 #[.slice Av a.v.length cv, .slice A7 (timesL s b.v).length c7] rfl (by go_simp) ?_
        refine (polyPlus_n Av A7 _ _ cv c7 a.v (timesL s b.v) _ rfl rfl (LA4.out.v.ext x7) hr7 (by omega) (by omega)).mono ?_
        rintro e w8 ⟨v, rfl, ho8, hx8⟩
        obtain ⟨A8, c8, rfl, hr8, -, -⟩ := ho8.bytesN rfl
        have x8 := x7.trans hx8
        refine ⟨_, rfl, x8, ?_⟩
        refine mix_pure (.agg #[.slice Ar r.length cr, .slice A6 (plusL a.u (timesL s b.u)).length c6, .slice A8 (plusL a.v (timesL s b.v)).length c8]) rfl (fun w' => by go_simp) ?_
        have BA8 := BA4.out.below x8 BA4.out.lt
        have BB8 := BB4.out.below x8 BB4.out.lt
        have fa0 := BA8.frozen 0
        have fa1 := BA8.frozen 1
        have fa2 := BA8.frozen 2
        have fb0 := BB8.frozen 0
        have fb1 := BB8.frozen 1
        have fb2 := BB8.frozen 2
        have da0 : w8.cell? ⟨GA, 0, none⟩ = some (.slice Ag a.g.length cg) := BA8.cell 0
        have da1 := g1 _ x8
        have da2 := g2 _ x8
        have db0 := k0 _ x8
        have db1 := k1 _ x8
        have db2 := k2 _ x8
        obtain ⟨W1, hW1⟩ : ∃ W1, W1 = ((w8.setCell ⟨GA, 0, none⟩ (.slice Bg b.g.length dg')).setCell ⟨GA, 1, none⟩ (.slice Bu b.u.length du)).setCell ⟨GA, 2, none⟩ (.slice Bv b.v.length dv) := ⟨_, rfl⟩
        refine mix_store W1 rfl (by rw [hW1]; go_simp) ?_
        have ne : GA + 1 ≠ GA := by omega
        have BA9 := BA8.set3 (.slice Bg b.g.length dg') (.slice Bu b.u.length du) (.slice Bv b.v.length dv)
        have BB9 := BB8.far3 ne (.slice Bg b.g.length dg') (.slice Bu b.u.length du) (.slice Bv b.v.length dv)
        have XW := Lib.hid (ext3 (HII.out.ext.trans (HX4.out.trans x8)) HII.out.hGA (.slice Bg b.g.length dg') (.slice Bu b.u.length du) (.slice Bv b.v.length dv))
        rw [← hW1] at BA9 BB9 XW
        have eb0 : W1.cell? ⟨GA + 1, 0, none⟩ = some (.slice Bg b.g.length dg') := BB9.cell 0
        have eb1 : W1.cell? ⟨GA + 1, 1, none⟩ = some (.slice Bu b.u.length du) := BB9.cell 1
        have eb2 : W1.cell? ⟨GA + 1, 2, none⟩ = some (.slice Bv b.v.length dv) := BB9.cell 2
        have gb0 := BB9.frozen 0
        have gb1 := BB9.frozen 1
        have gb2 := BB9.frozen 2
        obtain ⟨W2, hW2⟩ : ∃ W2, W2 = ((W1.setCell ⟨GA + 1, 0, none⟩ (.slice Ar r.length cr)).setCell ⟨GA + 1, 1, none⟩ (.slice A6 (plusL a.u (timesL s b.u)).length c6)).setCell ⟨GA + 1, 2, none⟩ (.slice A8 (plusL a.v (timesL s b.v)).length c8) := ⟨_, rfl⟩
        refine mix_store W2 rfl (by rw [hW2]; go_simp) ?_
        refine mix_nil ?_
        have hl48 : wr.heap.size ≤ w4.heap.size := HX4.out.le
        have hgb2 := HII.out.hGB
        have L8b : RowRd w8 w.heap.size GA b Bg Bu Bv dg' du dv := LB4.out.ext x8
        have L8r : RowRd w8 w.heap.size GA ⟨r, plusL a.u (timesL s b.u), plusL a.v (timesL s b.v)⟩ Ar A6 A8 cr c6 c8 :=
          ⟨(HOR.out.mono HII.out.ext.le).ext x8, hr6.ext (hx7.trans hx8), hr8, far_new HOR.out hgb2, far_new ho6 (by have := x5.le; omega), far_new ho8 (by have := x7.le; omega)⟩
        have L1b : RowRd W1 w.heap.size GA b Bg Bu Bv dg' du dv := by rw [hW1]; exact ((L8b.set GA 0 (.inl rfl) _).set GA 1 (.inl rfl) _).set GA 2 (.inl rfl) _
        have L1r : RowRd W1 w.heap.size GA ⟨r, plusL a.u (timesL s b.u), plusL a.v (timesL s b.v)⟩ Ar A6 A8 cr c6 c8 := by rw [hW1]; exact ((L8r.set GA 0 (.inl rfl) _).set GA 1 (.inl rfl) _).set GA 2 (.inl rfl) _
        have L2b : RowRd W2 w.heap.size GA b Bg Bu Bv dg' du dv := by rw [hW2]; exact ((L1b.set (GA + 1) 0 (.inr rfl) _).set (GA + 1) 1 (.inr rfl) _).set (GA + 1) 2 (.inr rfl) _
        have L2r : RowRd W2 w.heap.size GA ⟨r, plusL a.u (timesL s b.u), plusL a.v (timesL s b.v)⟩ Ar A6 A8 cr c6 c8 := by rw [hW2]; exact ((L1r.set (GA + 1) 0 (.inr rfl) _).set (GA + 1) 1 (.inr rfl) _).set (GA + 1) 2 (.inr rfl) _
        have BA10 : Blk W2 GA 127 #[.slice Bg b.g.length dg', .slice Bu b.u.length du, .slice Bv b.v.length dv] := by rw [hW2]; exact BA9.far3 (by omega) _ _ _
        have BB10 : Blk W2 (GA + 1) 127 #[.slice Ar r.length cr, .slice A6 (plusL a.u (timesL s b.u)).length c6, .slice A8 (plusL a.v (timesL s b.v)).length c8] := by rw [hW2]; exact BB9.set3 _ _ _
        have XW2 : Ext w W2 := by rw [hW2]; exact ext3 XW.out (by have := HII.out.hGA; omega) _ _ _
        have hmeas : lenAt W2 (GA + 1) < lenAt wr (GA + 1) := by
          have e1 : W2.cell? ⟨GA + 1, 0, none⟩ = some (.slice Ar r.length cr) := BB10.cell 0
          have e2 : wr.cell? ⟨GA + 1, 0, none⟩ = some (.slice Bg b.g.length dg') := HII.out.bb.cell 0
          simp only [lenAt, e1, e2]
          omega
        have hPI : PI p q k n m w W2 GA (N + 1) b ⟨r, plusL a.u (timesL s b.u), plusL a.v (timesL s b.v)⟩ Bg Bu Bv Ar A6 A8 dg' du dv cr c6 c8 := by
          refine ⟨XW2, HII.out.hGA, BB10.lt, HII.out.rb, ⟨a, b, s, HII.out.ra, HII.out.rb, HD.out, rfl, rfl⟩, fun j hj x hx => ?_, BA10, BB10, L2b, L2r, ?_, ?_, ?_, ?_, ?_, ?_⟩
          · rcases Nat.lt_or_ge j N with h | h
            · exact HII.out.before j h x hx
            · obtain rfl : j = N := by omega
              rw [RowN.uniq j x a hx HII.out.ra]; exact hgo
          · show N + 1 + r.length ≤ m; omega
          · omega
          · omega
          · show (plusL a.u (timesL s b.u)).length ≤ _; omega
          · omega
          · show (plusL a.v (timesL s b.v)).length ≤ _; omega
        have HPI := Lib.hid hPI
        clear hPI L8b L8r L1b L1r L2b L2r BA10 BB10 BA8 BB8 BA9 BB9 XW2 hW1 hW2
        go_wp2_with fail
        go_simp
        exact ⟨N + 1, b, ⟨r, plusL a.u (timesL s b.u), plusL a.v (timesL s b.v)⟩, Bg, Bu, Bv, Ar, A6, A8, dg', du, dv, cr, c6, c8, HPI.out⟩
    · have hd1 : decide ((k : Int) ≤ (a.g.length : Int) - 1) = false := decide_eq_false (by omega)
      have HBK := Lib.hid hI.ba
      have HRR := Lib.hid hI.la
      have HXW := Lib.hid hI.ext
      have HPR : Hid (PartRes p q k a) := Lib.hid ⟨N, hI.ra, by omega, hI.before⟩
      have hul : a.u.length ≤ 40000000000000 := by have := hI.su.1; have := hI.sz; omega
      have hvl : a.v.length ≤ 40000000000000 := by have := hI.su.2.2.1; have := hI.sz; omega
      have hgl : a.g.length ≤ 8000000 := by omega
      clear hI
      go_wp2_with fail
      refine wp_region_mix (fun i => [0, 0, 0, 0, 1, 0, 0, 1, 0, 0, 0, 0].getD i 0) (fun w' => Ext wr w') hmo (by kernel_rfl) (by kernel_rfl) ((Ext.refl _).drewN 1) ?_
      have g0 : ∀ w', Ext wr w' → w'.cell? ⟨GA, 0, none⟩ = some (.slice Ag a.g.length cg) := fun w' h => (HBK.out.below h HBK.out.lt).cell 0
      have g1 : ∀ w', Ext wr w' → w'.cell? ⟨GA, 1, none⟩ = some (.slice Au a.u.length cu) := fun w' h => (HBK.out.below h HBK.out.lt).cell 1
      have g2 : ∀ w', Ext wr w' → w'.cell? ⟨GA, 2, none⟩ = some (.slice Av a.v.length cv) := fun w' h => (HBK.out.below h HBK.out.lt).cell 2
      have xd : Ext wr wr.drew := (Ext.refl _).drewN 1
      refine mix_still (.pointer (some ⟨GA, 0, none⟩)) rfl (fun w' hw' => by go_simp) ?_
      refine mix_still (.slice Ag a.g.length cg) rfl (fun w' hw' => by have := g0 w' hw'; go_simp) ?_
      refine mix_still (.pointer (some ⟨GA, 1, none⟩)) rfl (fun w' hw' => by go_simp) ?_
      refine mix_still (.slice Au a.u.length cu) rfl (fun w' hw' => by have := g1 w' hw'; go_simp) ?_
      refine mix_call 87 #[.slice Au a.u.length cu] rfl (by go_simp) ?_
      refine (clone_n Au _ a.u cu _ rfl (HRR.out.u.ext xd) (by omega)).mono ?_
      rintro e w4 ⟨vu, rfl, hou, hx4⟩
      have x4 := xd.trans hx4
      refine ⟨vu, rfl, x4, ?_⟩
      refine mix_still (.pointer (some ⟨GA, 2, none⟩)) rfl (fun w' hw' => by go_simp) ?_
      refine mix_still (.slice Av a.v.length cv) rfl (fun w' hw' => by have := g2 w' hw'; go_simp) ?_
      refine mix_call 87 #[.slice Av a.v.length cv] rfl (by go_simp) ?_
      refine (clone_n Av _ a.v cv _ rfl (HRR.out.v.ext x4) (by omega)).mono ?_
      rintro e w5 ⟨vv, rfl, hov, hx5⟩
      have x5 := x4.trans hx5
      refine ⟨vv, rfl, x5, ?_⟩
      refine mix_still (.slice Ag a.g.length cg) rfl (fun w' hw' => by go_simp) ?_
      refine mix_still vu rfl (fun w' hw' => by go_simp) ?_
      refine mix_still vv rfl (fun w' hw' => by go_simp) ?_
      refine mix_still (.int .i64 0) rfl (fun w' hw' => by go_simp) ?_
      refine mix_nil ?_
      go_wp2
      (try simp only [Exit.inBlock, Exit.then]); refine bodyPost_ret (results_tmp4 rfl _ _ _) rfl ?_
      have hext := HXW.out
      refine ⟨.slice Ag a.g.length cg, vu, vv, a, ?_, HPR.out, (HRR.out.ext x5).g, ?_, hov.mono (hext.trans x4).le, hext.trans x5, hul, hvl, hgl, wr.heap.size, w4.heap.size, x4.le, fun g hg => (HRR.out.g.lt g hg).2, fun g hg => hou.lt g hg, fun g hg => (hov.lt g hg).1⟩
      · first | (with_reducible rfl) | (simp; done) | go_simp
      exact (hou.mono (hext.trans xd).le).ext hx5
theorem polyPartial_n (A C : Option Addr) (n m ca cb : Nat) (p q : List E) (k : Nat) (w : World) (hn : p.length = n) (hm : q.length = m) (hr : Rd w A (bs p)) (hs : Rd w C (bs q)) (hlen : n ≤ 4000000) (hlenq : m ≤ 4000000) (hca : n ≤ ca) (hcb : m ≤ cb) (hk : (Lit.int .i64 (k : Int)).wf = true) :
    Calls Try.prog 52 #[.slice A n ca, .slice C m cb, .int .i64 k] w fun e w' => ∃ vg vu vv r, e = .returned (.tuple #[vg, vu, vv, .int .i64 0]) ∧ PartRes p q k r ∧
      Own w' w.heap.size 34 vg (bs r.g) ∧ Own w' w.heap.size 34 vu (bs r.u) ∧ Own w' w.heap.size 34 vv (bs r.v) ∧ Ext w w' ∧ r.u.length ≤ 40000000000000 ∧ r.v.length ≤ 40000000000000 ∧ r.g.length ≤ 8000000 :=
  (polyPartial_far A C n m ca cb p q k w hn hm hr hs hlen hlenq hca hcb hk).mono fun e w' ⟨vg, vu, vv, r, h1, h2, h3, h4, h5, h6, h7, h8, h9, _⟩ => ⟨vg, vu, vv, r, h1, h2, h3, h4, h5, h6, h7, h8, h9⟩
end Go.Proofs.Ytemnlcfabaocbaa
/-
  Euclid's row: what it is made of; the parts of a law that asks it.
-/
namespace Go.Proofs.Ytemnlcfabaocbaa
open Go.RowKit Gf
set_option maxRecDepth 20000
set_option linter.unusedVariables false

theorem one_trim : Trimmed [1] := by unfold Trimmed; decide +kernel
theorem RowN.made {p q : List E} : ∀ (n : Nat) (r : Row), RowN p q n r → Trimmed r.u ∧ Trimmed r.v ∧ ser r.g = S.add (S.mul (ser r.u) (ser p)) (S.mul (ser r.v) (ser q))
  | 0, r, h => by
    rw [show r = _ from h]
    refine ⟨one_trim, trimmed_nil, ?_⟩
    show ser (trim p) = S.add (S.mul (ser [1]) (ser p)) (S.mul (ser []) (ser q))
    rw [ser_trim, ser_one, S.one_mul, ser_nil, S.zero_mul, S.add_zero]
  | 1, r, h => by
    rw [show r = _ from h]
    refine ⟨trimmed_nil, one_trim, ?_⟩
    show ser (trim q) = S.add (S.mul (ser []) (ser p)) (S.mul (ser [1]) (ser q))
    rw [ser_trim, ser_one, S.one_mul, ser_nil, S.zero_mul, S.zero_add]
  | n + 2, ⟨g, u, v⟩, ⟨a, b, s, ha, hb, hd, hu, hv⟩ => by
    obtain ⟨-, -, h1⟩ := RowN.made n a ha
    obtain ⟨-, -, h2⟩ := RowN.made (n + 1) b hb
    dsimp only at hd hu hv
    subst hu hv
    refine ⟨trimmed_plusL _ _, trimmed_plusL _ _, ?_⟩
    show ser g = _
    have h3 := S.eq_add hd.eq
    rw [h3, h1, h2]
    simp only [ser_plusL, ser_timesL, S.add_mul, S.mul_add, S.mul_assoc]
    simp only [S.add_assoc, S.add_left_comm]
theorem PartRes.made {p q : List E} {k : Nat} {g u v : List E} (h : PartRes p q k ⟨g, u, v⟩) : plusL (timesL u p) (timesL v q) = g ∧ Trimmed u ∧ Trimmed v ∧ (Gf.dg g : Int) - 1 < k ∧ g.length ≤ k ∧ Trimmed g := by
  obtain ⟨n, h1, h2, -⟩ := h
  obtain ⟨a, b, c⟩ := RowN.made n _ h1
  have ht := RowN.tr n _ h1
  dsimp only at a b c ht h2
  refine ⟨(trimmed_plusL _ _).eq ht (by rw [ser_plusL, ser_timesL, ser_timesL, c]), a, b, ?_, h2, ht⟩
  rw [ht.dg]; omega
theorem PartRes.multiple {p q d : List E} {k : Nat} {g u v s r : List E} {e : Int} (h : PartRes (timesL p d) (timesL q d) k ⟨g, u, v⟩) (hd : 0 < dg d) (hs : DivAny g d s r e) : r = [] ∧ e = 0 := by
  obtain ⟨n, h1, -, -⟩ := h
  obtain ⟨-, -, c⟩ := RowN.made n _ h1
  rcases hs with ⟨h0, -⟩ | ⟨-, hs, he⟩
  · omega
  · refine ⟨?_, he⟩
    have hk : DivOK g d (plusL (timesL u p) (timesL v q)) [] := ⟨trimmed_plusL _ _, trimmed_nil, by
      dsimp only at c
      rw [c]
      simp only [ser_plusL, ser_timesL, ser_nil, S.zero_add, S.add_mul, S.mul_assoc], by simpa using hd⟩
    exact (hs.uniq hk).2
theorem polyPartial_zero (A C : Option Addr) (n m ca cb : Nat) (p q : List E) (w : World) (hn : p.length = n) (hm : q.length = m) (hr : Rd w A (bs p)) (hs : Rd w C (bs q)) (hlen : n ≤ 4000000) (hlenq : m ≤ 4000000) (hca : n ≤ ca) (hcb : m ≤ cb) :
    Calls Try.prog 52 #[.slice A n ca, .slice C m cb, .int .i64 0] w fun e w' => ∃ vg vu vv u v, e = .returned (.tuple #[vg, vu, vv, .int .i64 0]) ∧ plusL (timesL u p) (timesL v q) = [] ∧
      Own w' w.heap.size 34 vg (bs []) ∧ Own w' w.heap.size 34 vu (bs u) ∧ Own w' w.heap.size 34 vv (bs v) ∧ Ext w w' ∧ u.length ≤ 40000000000000 ∧ v.length ≤ 40000000000000 := by
  refine (polyPartial_n A C n m ca cb p q 0 w hn hm hr hs hlen hlenq hca hcb (by decide)).mono ?_
  rintro e w' ⟨vg, vu, vv, ⟨g, u, v⟩, rfl, hp, h1, h2, h3, h4, h5, h6, h7⟩
  obtain ⟨a, -, -, -, hg, -⟩ := hp.made
  dsimp only at h1 h2 h3 h5 h6 hg
  obtain rfl : g = [] := List.length_eq_zero_iff.1 (by omega)
  exact ⟨vg, vu, vv, u, v, rfl, a, h1, h2, h3, h4, h5, h6⟩
theorem wf_nat (j : Nat) (h : j ≤ 9000000000000000000) : (Lit.int .i64 (j : Int)).wf = true := by
  have h1 : IntKind.i64.min = -9223372036854775808 := by decide
  have h2 : IntKind.i64.max = 9223372036854775807 := by decide
  simp only [Lit.wf, h1, h2, Bool.and_eq_true, decide_eq_true_eq]; omega
theorem deg_pos {n : Nat} (h : 0 < n) (hb : n ≤ 1048576) : ∃ e e1 e3 : Nat, (n : Int) - 1 = (e : Int) ∧ e ≤ 1048576 ∧ e1 = e + 1 ∧ e3 = e + 3 ∧ wrap64 ((e : Int) + 1) = (e1 : Int) ∧ wrap64 ((e : Int) + 3) = (e3 : Int) ∧ decide ((0 : Int) ≤ (e : Int)) = true := by
  refine ⟨n - 1, n - 1 + 1, n - 1 + 3, by omega, by omega, rfl, rfl, ?_, ?_, decide_eq_true (by omega)⟩
  · rw [IntWalk.wrap64_in _ (by omega)]; omega
  · rw [IntWalk.wrap64_in _ (by omega)]; omega
end Go.Proofs.Ytemnlcfabaocbaa
/-
  append of one element of several cells onto a row of the call's own that is not empty.
-/
namespace Go.Proofs.Ytemnlcfabaocbaa
open Go.RowKit Gf

/-- A row of n elements of z cells each, in a block of the call's own. -/
structure OwnR (w : World) (B : Nat) (e : TypeId) (z g n cap : Nat) (xs : List Value) : Prop where
  hB : B ≤ g
  row : ∃ cur, w.heap[g]? = some (.cells cur e) ∧ cur.size = cap * z ∧ cur.toList.take (n * z) = xs
  len : xs.length = n * z
  le : n ≤ cap
  cm : cap ≤ maxLen
theorem OwnR.lt {w : World} {B : Nat} {e : TypeId} {z g n cap : Nat} {xs : List Value} (h : OwnR w B e z g n cap xs) : g < w.heap.size := by
  obtain ⟨cur, hg, _⟩ := h.row
  exact (Array.getElem?_eq_some_iff.1 hg).1
theorem OwnR.cell {w : World} {B : Nat} {e : TypeId} {z g n cap : Nat} {xs : List Value} (h : OwnR w B e z g n cap xs) {j : Nat} {u : Value} (hj : xs[j]? = some u) : w.cell? ⟨g, j, none⟩ = some u := by
  obtain ⟨cur, hg, hc, ht⟩ := h.row
  have hlt : j < n * z := by rw [← h.len]; exact (List.getElem?_eq_some_iff.1 hj).1
  rw [← ht, List.getElem?_take_of_lt hlt] at hj
  simp only [World.cell?, hg]
  simpa using hj
theorem OwnR.below {w w' : World} {B : Nat} {e : TypeId} {z g n cap : Nat} {xs : List Value} (h : OwnR w B e z g n cap xs) (hb : Ext w w') : OwnR w' B e z g n cap xs := by
  obtain ⟨cur, hg, hc, ht⟩ := h.row
  exact ⟨h.hB, ⟨cur, by rw [hb.block g h.lt]; exact hg, hc, ht⟩, h.len, h.le, h.cm⟩
section
variable {P : Program} (w : World)
theorem run_appR {t e : TypeId} {i : TypeInfo} {z : Value} (ty : TypeId) (ht : P.underlying t = some (.slice e)) (hi : P.info? e = some i) (hz : i.zero = some z) (hzs : z.cells.size = i.size) (B g n cap : Nat) (xs : List Value)
    (hown : OwnR w B e i.size g n cap xs) (ad : Addr) (c : Nat) (news : List Value) (hl : news.length = i.size) (hnews : ∀ j u, news[j]? = some u → w.cell? (ad.add j) = some u) (h1 : ∀ u ∈ news, u.oneCell' = true)
    (hbytes : (n + 1) * i.bytes ≤ 140737488355328) (hb1 : 1 ≤ i.bytes) (hB : B ≤ w.heap.size) :
    ∃ g' cap' w', (Builtin.append_ #[t, t] ty #[.slice (some ⟨g, 0, none⟩) n cap, .slice (some ad) 1 c]).run P w = .ok (.slice (some ⟨g', 0, none⟩) (n + 1) cap') w' ∧ OwnR w' B e i.size g' (n + 1) cap' (xs ++ news) ∧
      ((g' = g ∧ w.grownBy w' (some g)) ∨ (g' = w.heap.size ∧ w.grownBy w' none)) := by
  have hle : n + 1 ≤ 140737488355328 := Nat.le_trans (Nat.le_mul_of_pos_right _ hb1) hbytes
  obtain ⟨cur, hg, hcs, htake⟩ := hown.row
  have hlen := hown.len
  by_cases hroom : n + 1 ≤ cap
  · have hm : (n + 1) * i.size ≤ cap * i.size := Nat.mul_le_mul_right _ hroom
    rw [Nat.add_mul, Nat.one_mul] at hm
    have hfit : n * i.size + news.length ≤ cur.size := by rw [hcs, hl]; exact hm
    have hr' := run_append_room (P := P) w t ty e i ht hi g n cap cur hg ad 1 c news (by rw [hl, Nat.one_mul]) hnews h1 hroom hfit
    refine ⟨g, cap, _, hr', ⟨hown.hB, ⟨_, setRow_heap w g cur _ e _ hg, ?_, ?_⟩, ?_, hroom, hown.cm⟩, .inl ⟨rfl, rfl, rfl, rfl, by simp, fun k _ hk => setRow_other w g k _ (fun e => hk (by rw [e]))⟩⟩
    · simp only [List.size_toArray, List.length_append, List.length_take, List.length_drop, Array.length_toList]
      rw [← hcs]
      omega
    · have h2 : (n + 1) * i.size = (cur.toList.take (n * i.size) ++ news).length := by
        rw [htake, List.length_append, hlen, hl, Nat.add_mul, Nat.one_mul]
      rw [h2, ← htake]
      simp only []
      exact List.take_left
    · rw [List.length_append, hlen, hl, Nat.add_mul, Nat.one_mul]
  · have holds : ∀ j u, xs[j]? = some u → w.cell? ((⟨g, 0, none⟩ : Addr).add j) = some u := fun j u hj => by
      have := hown.cell hj
      simpa [Addr.add_lit] using this
    have hr' := run_append_grow (P := P) w t ty e i z ht hi hz ⟨g, 0, none⟩ n cap xs hlen holds ad 1 c news (by rw [hl, Nat.one_mul]) hnews (by omega) (by omega) (growslice_fits (by omega) hbytes)
    have hge := grownCap_ge w (n + 1) cap e
    have hcm : grownCap w (n + 1) cap e ≤ maxLen := grownCap_le_maxLen w (n + 1) cap e (by simp only [maxLen]; omega)
    refine ⟨_, _, _, hr', ⟨hB, ⟨_, heap_alloc_new w.drew _, ?_, ?_⟩, ?_, by omega, hcm⟩, .inr ⟨rfl, rfl, rfl, rfl, by simp, fun k hk _ => Below.heap_alloc w.drew _ k hk⟩⟩
    · simp only [Array.size_append, List.size_toArray, size_zeroCells, hzs, hlen, hl]
      have : grownCap w (n + 1) cap e = (n + 1) + (grownCap w (n + 1) cap e - (n + 1)) := by omega
      conv => rhs; rw [this, Nat.add_mul, Nat.add_mul, Nat.one_mul]
    · have h2 : (n + 1) * i.size = (xs ++ news).length := by rw [List.length_append, hlen, hl, Nat.add_mul, Nat.one_mul]
      simp only [Array.toList_append]
      rw [h2]
      exact List.take_left
    · rw [List.length_append, hlen, hl, Nat.add_mul, Nat.one_mul]
end
end Go.Proofs.Ytemnlcfabaocbaa
/-
  The walks of the document's answer for chapter 2: Euclid's row.
-/
namespace Go.Proofs.Ytemnlcfabaocbaa
open Go.RowKit Gf
set_option maxRecDepth 20000
set_option linter.unusedVariables false

theorem RowN.len {p q : List E} : ∀ (i : Nat) (r : Row), RowN p q (i + 1) r → i + r.g.length ≤ q.length
  | 0, r, h => by
    rw [show r = _ from h]
    show 0 + (trim q).length ≤ _
    have := trim_le q; omega
  | i + 1, ⟨g, u, v⟩, ⟨a, b, s, ha, hb, hd, hu, hv⟩ => by
    have h1 := RowN.len i b hb
    have h2 := hd.lt
    have h3 := dg_le b.g
    dsimp only at h2 ⊢
    omega
theorem RowN.lg {p q : List E} : ∀ (i : Nat) (r : Row), RowN p q i r → r.g.length ≤ p.length + q.length
  | 0, r, h => by
    rw [show r = _ from h]
    show (trim p).length ≤ _
    have := trim_le p; omega
  | i + 1, r, h => by have := RowN.len i r h; omega
theorem RowN.luv {p q : List E} : ∀ (i : Nat), (∀ r, RowN p q i r → r.u.length ≤ (i + 1) * (p.length + q.length + 1) ∧ r.v.length ≤ (i + 1) * (p.length + q.length + 1)) ∧
    (∀ r, RowN p q (i + 1) r → r.u.length ≤ (i + 2) * (p.length + q.length + 1) ∧ r.v.length ≤ (i + 2) * (p.length + q.length + 1))
  | 0 => by
    constructor
    · intro r h
      rw [show r = _ from h]
      simp
    · intro r h
      rw [show r = _ from h]
      simp; omega
  | i + 1 => by
    obtain ⟨h1, h2⟩ := RowN.luv i
    refine ⟨h2, ?_⟩
    rintro ⟨g, u, v⟩ ⟨a, b, s, ha, hb, hd, hu, hv⟩
    have ⟨k1, k2⟩ := h1 a ha
    have ⟨k3, k4⟩ := h2 b hb
    have k5 := hd.ls
    have k6 := RowN.lg i a ha
    dsimp only at hu hv ⊢
    subst hu hv
    have e1 := plusL_le a.u (timesL s b.u)
    have e2 := timesL_le s b.u
    have e3 := plusL_le a.v (timesL s b.v)
    have e4 := timesL_le s b.v
    generalize p.length + q.length = K at *
    simp only [Nat.add_mul] at *
    omega

/-- The list xs, at A. -/
def RdF (w : World) (g : Nat) (A : Option Addr) (xs : List E) : Prop := Rd w A (bs xs) ∧ ∀ ad, A = some ad → ad.block ≠ g ∧ ad.block < w.heap.size
theorem RdF.mono {w w' : World} {g : Nat} {A : Option Addr} {xs : List E} (h : RdF w g A xs) (hx : Ext w w') : RdF w' g A xs :=
  ⟨h.1.ext hx, fun ad e => ⟨(h.2 ad e).1, Nat.lt_of_lt_of_le (h.2 ad e).2 hx.le⟩⟩
theorem RdF.moved {w w' : World} {g g' : Nat} {A : Option Addr} {xs : List E} (h : RdF w g A xs) (hm : (g' = g ∧ w.grownBy w' (some g)) ∨ (g' = w.heap.size ∧ w.grownBy w' none)) : RdF w' g' A xs := by
  have hsz : w.heap.size ≤ w'.heap.size := by rcases hm with ⟨_, h⟩ | ⟨_, h⟩ <;> exact h.size
  refine ⟨?_, fun ad e => ⟨?_, Nat.lt_of_lt_of_le (h.2 ad e).2 hsz⟩⟩
  · rcases hm with ⟨_, hg⟩ | ⟨_, hg⟩
    · exact h.1.grown hg fun ad e => by have := (h.2 ad e).1; simpa using this
    · exact h.1.grown hg fun ad e => by simp
  · have := h.2 ad e
    rcases hm with ⟨rfl, _⟩ | ⟨rfl, _⟩ <;> omega
theorem Own.rdF {w : World} {B g : Nat} {T : TypeId} {v : Value} {xs : List E} {n : Nat} (h : Own w B T v (bs xs)) (hg : g < B) (hn : xs.length = n) : ∃ A cap, v = .slice A n cap ∧ RdF w g A xs ∧ n ≤ cap ∧ cap ≤ maxLen := by
  obtain ⟨A, cap, rfl, h1, h2, h3, h4⟩ := h.slice
  rw [bs_length, hn] at h2 ⊢
  exact ⟨A, cap, rfl, ⟨h1, fun ad e => ⟨by have := (h4 ad e).1; omega, (h4 ad e).2⟩⟩, h2, h3⟩

/-- The row number i among the cells xs. -/
def RowAt (w : World) (g : Nat) (a : Row) (xs : List Value) (i : Nat) : Prop := ∃ Ag Au Av cg cu cv, xs[i * 3]? = some (.slice Ag a.g.length cg) ∧ xs[i * 3 + 1]? = some (.slice Au a.u.length cu) ∧ xs[i * 3 + 2]? = some (.slice Av a.v.length cv) ∧
  RdF w g Ag a.g ∧ RdF w g Au a.u ∧ RdF w g Av a.v
def RowsAt (p q : List E) (w : World) (g n : Nat) (xs : List Value) : Prop := ∀ i, i < n → ∃ r, RowN p q i r ∧ RowAt w g r xs i
theorem RowAt.mono {w w' : World} {g i : Nat} {a : Row} {xs : List Value} (h : RowAt w g a xs i) (hx : Ext w w') : RowAt w' g a xs i := by
  obtain ⟨Ag, Au, Av, cg, cu, cv, h1, h2, h3, h4, h5, h6⟩ := h
  exact ⟨Ag, Au, Av, cg, cu, cv, h1, h2, h3, h4.mono hx, h5.mono hx, h6.mono hx⟩
theorem RowAt.moved {w w' : World} {g g' i : Nat} {a : Row} {xs : List Value} (h : RowAt w g a xs i) (hm : (g' = g ∧ w.grownBy w' (some g)) ∨ (g' = w.heap.size ∧ w.grownBy w' none)) (ys : List Value) : RowAt w' g' a (xs ++ ys) i := by
  obtain ⟨Ag, Au, Av, cg, cu, cv, h1, h2, h3, h4, h5, h6⟩ := h
  have ap : ∀ j u, xs[j]? = some u → (xs ++ ys)[j]? = some u := fun j u hj => by
    rw [List.getElem?_append_left (List.getElem?_eq_some_iff.1 hj).1]; exact hj
  exact ⟨Ag, Au, Av, cg, cu, cv, ap _ _ h1, ap _ _ h2, ap _ _ h3, h4.moved hm, h5.moved hm, h6.moved hm⟩
def vlen : Value → Nat
  | .slice _ n _ => n
  | _ => 0
structure RI (p q : List E) (w wr : World) (N g cap : Nat) (xs : List Value) : Prop where
  ext : Ext w wr
  own : OwnR wr w.heap.size 125 3 g (N + 2) cap xs
  rows : RowsAt p q wr g (N + 2) xs

def rowZero : Value := .agg #[.slice none 0 0, .slice none 0 0, .slice none 0 0]
theorem infoRowB : (Try.prog.info? 125).map (fun i => (i.zero, i.size, i.bytes)) = some (some rowZero, 3, 72) := by kernel_rfl
theorem infoRow : ∃ i, Try.prog.info? 125 = some i ∧ i.zero = some rowZero ∧ i.size = 3 ∧ i.bytes = 72 := by
  have h := infoRowB
  cases hi : Try.prog.info? 125 with
  | none => rw [hi] at h; cases h
  | some i => rw [hi] at h; simp only [Option.map_some, Option.some.injEq, Prod.mk.injEq] at h; exact ⟨i, rfl, h.1, h.2.1, h.2.2⟩
theorem tyRow : Try.prog.underlying 122 = some (.slice 125) := by kernel_rfl
theorem run_appRow (w : World) (ty : TypeId) (B g n cap : Nat) (xs : List Value) (hown : OwnR w B 125 3 g n cap xs) (g1 c : Nat) (x y z : Value) (hnews : w.heap[g1]? = some (.cells #[x, y, z] 125))
    (h1 : x.oneCell' = true ∧ y.oneCell' = true ∧ z.oneCell' = true) (hn : n ≤ 1000000000) (hB : B ≤ w.heap.size) :
    ∃ g' cap' w', (Builtin.append_ #[122, 122] ty #[.slice (some ⟨g, 0, none⟩) n cap, .slice (some ⟨g1, 0, none⟩) 1 c]).run Try.prog w = .ok (.slice (some ⟨g', 0, none⟩) (n + 1) cap') w' ∧
      OwnR w' B 125 3 g' (n + 1) cap' (xs ++ [x, y, z]) ∧ ((g' = g ∧ w.grownBy w' (some g)) ∨ (g' = w.heap.size ∧ w.grownBy w' none)) := by
  obtain ⟨i, hi, hz, hs, hb⟩ := infoRow
  obtain ⟨r1, r2, r3⟩ := h1
  have := run_appR w (P := Try.prog) ty tyRow hi hz (by rw [hs]; rfl) B g n cap xs (by rw [hs]; exact hown) ⟨g1, 0, none⟩ c [x, y, z] (by rw [hs]; rfl) (fun j u hj => by
    have hc := cell_of_row w g1 j #[x, y, z] 125 (0, 0) hnews
    simp only [Addr.add_lit, Nat.zero_add]
    rw [hc]
    simpa using hj) (fun u hu => by
    simp only [List.mem_cons, List.not_mem_nil, or_false] at hu
    rcases hu with rfl | rfl | rfl
    · exact r1
    · exact r2
    · exact r3) (by rw [hb]; omega) (by rw [hb]; omega) hB
  rw [hs] at this
  exact this
section
variable {P : Program} {C : World → Prop} {L : Nat → Nat} {Q : Act → World → Prop}
theorem mix_laid {k : Nat} {o : Oper} {rest : List Oper} {a : Act} {w : World} (u : Value) (w' : World) (hL : L k = 1) (hr : (execOp a.eval o).run P w = .ok (.value u) w') (hc : C w')
    (h : wpMix P C L Q (k + 1) rest (a.put o.dst u) w') : wpMix P C L Q k (o :: rest) a w :=
  .inr ⟨by unfold isQ; omega, .inl ⟨u, w', hr, fun _ => hc, h⟩⟩
theorem mix_last {k : Nat} {o : Oper} {rest : List Oper} {a : Act} {w : World} (u : Value) (w' : World) (hL : L k = 2) (hr : (execOp a.eval o).run P w = .ok (.value u) w')
    (h : wpMix P C L Q (k + 1) rest (a.put o.dst u) w') : wpMix P C L Q k (o :: rest) a w :=
  .inr ⟨by unfold isQ; omega, .inl ⟨u, w', hr, fun e => by omega, h⟩⟩
theorem append_run {o : Oper} {a : Act} {w w' : World} {t : TypeId} {s x : Operand} (ho : o.op = .call { callee := .builtin .append, args := #[s, x], argTypes := #[t, t] }) {v u v' : Value} (hs : a.eval s = v) (hx : a.eval x = u)
    (h : (Builtin.append_ #[t, t] o.type #[v, u]).run P w = .ok v' w') : (execOp a.eval o).run P w = .ok (.value v') w' := by
  unfold execOp
  simp only [ho, resolve, invoke, builtin, Sem.run_bind, Sem.run_pure, Result.andThen_ok, List.map_toArray, List.map_cons, List.map_nil, hs, hx, h]
end
end Go.Proofs.Ytemnlcfabaocbaa
