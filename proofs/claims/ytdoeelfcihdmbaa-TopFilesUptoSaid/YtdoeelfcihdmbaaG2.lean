/-
  Texts of mine, merged: RootsFew Quiet2 Poly7 Ref5 Law3 Law4 RootsMore App2 Part Mix Poly8 Bez App3 Ref6 Fam Apart RowsL Ask Own0 Near Col0 Mend1 Mend2 Tab Ker0 Ker1 Ker BW Thr5 Near5 Near6 Col5 OpenU2 Law5 RowsM Wei0 Wei MendS MendW MendV MendR RefMW RefM Law6 MendL.
-/
import Derived.Test.YtdoeelfcihdmbaaG1
import Derived.Deep.Grids
import Derived.Deep.Matrix
import Derived.WalkMore
import Derived.Deep.LoopGhost
/-
  Roots are linear divisors; no more roots than the degree; the product over points; the polynomial through points.
-/
namespace Go.Proofs.Ytdoeelfcihdmbaa.Gf
open S

/-- Division by x + a: what the quotient is. -/
def syn (a : E) : List E → List E
  | [] => []
  | _ :: t => evL t a :: syn a t
theorem lin_mul (a : E) (f : S) : mul (ser [a, 1]) f = add (smul a f) (sh f) := by
  rw [mul_split (ser [a, 1]) f]
  have h0 : ser [a, 1] 0 = a := rfl
  have h1 : tail (ser [a, 1]) = one := funext fun i => by cases i <;> rfl
  rw [h0, h1, one_mul]
theorem syn_ok (a : E) : ∀ l : List E, add (ser l) (smul (evL l a) one) = mul (ser [a, 1]) (ser (syn a l))
  | [] => by rw [lin_mul, ser_nil, evL_nil, syn, ser_nil, smul_zero, sh_zero, zero_smul]
  | c :: t => by
    have ih := syn_ok a t
    rw [lin_mul] at ih ⊢
    funext i
    cases i with
    | zero =>
      simp only [add, smul, sh, syn, ser_cons_zero, evL_cons, one]
      rw [E.mul_one, E.add_zero, ← E.add_assoc, E.add_self, E.zero_add]
    | succ i =>
      have h := congrFun ih i
      simp only [add, smul, sh, syn] at h ⊢
      have e1 : ser (c :: t) (i + 1) = ser t i := congrFun (ser_tail c t) i
      have e2 : ser (evL t a :: syn a t) (i + 1) = ser (syn a t) i := congrFun (ser_tail _ _) i
      rw [e1, e2]
      cases i with
      | zero =>
        have e3 : ser (evL t a :: syn a t) 0 = evL t a := rfl
        rw [e3]
        simp only [one, E.mul_one] at h ⊢
        rw [E.mul_zero, E.add_zero]
        rw [E.add_zero] at h
        rw [← h, E.add_assoc, E.add_self, E.add_zero]
      | succ i =>
        have e3 : ser (evL t a :: syn a t) (i + 1) = ser (syn a t) i := congrFun (ser_tail _ _) i
        rw [e3]
        simpa [one, E.mul_zero, E.add_zero, sh] using h
theorem syn_dlt' (a : E) : ∀ t : List E, ser t = zero → ser (syn a t) = zero
  | [], _ => ser_nil
  | c :: t, h => by
    have ht : ser t = zero := by rw [← ser_tail c t, h]; rfl
    have e0 : evL t a = 0 := by rw [evL_ser (b := []) (by rw [ht, ser_nil]), evL_nil]
    funext i
    cases i with
    | zero => rw [syn, e0]; rfl
    | succ i => rw [syn, show ser (evL t a :: syn a t) (i + 1) = ser (syn a t) i from congrFun (ser_tail _ _) i, syn_dlt' a t ht]; rfl
theorem syn_dlt (a : E) : ∀ (l : List E) (n : Nat), Dlt (ser l) (n + 1) → Dlt (ser (syn a l)) n
  | [], _, _ => fun i _ => by rw [syn, ser_nil]; rfl
  | c :: t, n, h => by
    have ht : Dlt (ser t) n := fun i hi => by rw [← ser_tail c t]; exact h (i + 1) (by omega)
    cases n with
    | zero =>
      have hz : ser t = zero := ht.zero
      have e0 : evL t a = 0 := by rw [evL_ser (b := []) (by rw [hz, ser_nil]), evL_nil]
      have := syn_dlt' a t hz
      intro i _
      cases i with
      | zero => rw [syn, e0]; rfl
      | succ i => rw [syn]; rw [show ser (evL t a :: syn a t) (i + 1) = ser (syn a t) i from congrFun (ser_tail _ _) i, this]; rfl
    | succ n =>
      have ih := syn_dlt a t n ht
      intro i hi
      cases i with
      | zero => omega
      | succ i => rw [syn, show ser (evL t a :: syn a t) (i + 1) = ser (syn a t) i from congrFun (ser_tail _ _) i]; exact ih i (by omega)
theorem evL_lin (a x : E) : evL [a, 1] x = a + x := by
  simp [evL_cons, evL_nil, E.mul_zero, E.add_zero, E.mul_one]
/-- A root splits off. -/
theorem root_split {l : List E} {a : E} (h : evL l a = 0) : ser l = mul (ser [a, 1]) (ser (syn a l)) := by
  have := syn_ok a l
  rwa [h, zero_smul, add_zero] at this
theorem evL_mulS {l g : List E} {a : E} (h : ser l = mul (ser [a, 1]) (ser g)) (x : E) : evL l x = (a + x) * evL g x := by
  rw [← evL_lin, ← evL_times]
  exact evL_ser (by rw [h, ser_timesL]) x
/-- No more roots than the degree. -/
theorem few_roots : ∀ (n : Nat) (l : List E) (xs : List E), Dlt (ser l) n → xs.Nodup → n ≤ xs.length → (∀ x ∈ xs, evL l x = 0) → ser l = zero
  | 0, l, _, h, _, _, _ => h.zero
  | n + 1, l, [], _, _, hl, _ => by simp at hl
  | n + 1, l, a :: xs, h, hn, hl, hr => by
    have hs := root_split (hr a (List.mem_cons_self ..))
    have hz := few_roots n (syn a l) xs (syn_dlt a l n h) (List.nodup_cons.1 hn).2 (by simpa using hl) (fun x hx => by
      have h0 := hr x (List.mem_cons_of_mem _ hx)
      rw [evL_mulS hs] at h0
      rcases E.mul_eq_zero.1 h0 with h1 | h1
      · have : a = x := E.add_eq_zero.1 h1
        subst this
        exact absurd hx (List.nodup_cons.1 hn).1
      · exact h1)
    rw [hs, hz, mul_zero]

/-! The product over points. -/
def vanishL (pts : List E) : List E := pts.foldl (fun o a => timesL o [a, 1]) [1]
theorem vanishL_snoc (pts : List E) (a : E) : vanishL (pts ++ [a]) = timesL (vanishL pts) [a, 1] := by simp [vanishL]
theorem vanishL_take (pts : List E) (k : Nat) (h : k < pts.length) : vanishL (pts.take (k + 1)) = timesL (vanishL (pts.take k)) [pts[k], 1] := by
  rw [List.take_succ_eq_append_getElem h, vanishL_snoc]
/-- Its length and its last coefficient. -/
theorem timesL_lin {l : List E} {n : Nat} (a : E) (h : Dlt (ser l) (n + 1)) : Dlt (ser (timesL l [a, 1])) (n + 2) := by
  rw [ser_timesL]
  exact Dlt.mulN (m := n + 1) (n := 1) h (by exact dlt_ser [a, 1])
theorem vanish_deg : ∀ (k : Nat) (pts : List E), pts.length = k → Dlt (ser (vanishL pts)) (k + 1) ∧ ser (vanishL pts) k = 1
  | 0, pts, h => by
    obtain rfl : pts = [] := List.eq_nil_of_length_eq_zero h
    exact ⟨dlt_ser [1], rfl⟩
  | k + 1, pts, h => by
    obtain ⟨ps, a, rfl⟩ : ∃ ps a, pts = ps ++ [a] := by
      obtain ⟨l, b, e⟩ := (List.eq_nil_or_concat pts).resolve_left (by rintro rfl; simp at h)
      exact ⟨l, b, by rw [e, List.concat_eq_append]⟩
    obtain ⟨h1, h2⟩ := vanish_deg k ps (by simpa using h)
    rw [vanishL_snoc]
    refine ⟨timesL_lin a h1, ?_⟩
    rw [ser_timesL]
    have h3 : mul (ser (vanishL ps)) (ser [a, 1]) (k + 1) = ser (vanishL ps) k * ser [a, 1] 1 := lead_mul h1 (dlt_ser [a, 1])
    rw [h3, h2, E.one_mul]
    rfl
theorem vanish_dg (pts : List E) : dg (vanishL pts) = pts.length + 1 := by
  obtain ⟨h1, h2⟩ := vanish_deg _ pts rfl
  exact dg_eq h1 (fun _ => by rw [Nat.add_sub_cancel, h2]; exact E.one_ne_zero)
theorem trimmed_vanish (pts : List E) : Trimmed (vanishL pts) := by
  rcases List.eq_nil_or_concat pts with rfl | ⟨ps, a, rfl⟩
  · exact trimmed_of fun _ => E.one_ne_zero
  · rw [List.concat_eq_append, vanishL_snoc]; exact trimmed_timesL _ _
theorem vanish_length (pts : List E) : (vanishL pts).length = pts.length + 1 := by
  rw [← (trimmed_vanish pts).dg, vanish_dg]
/-! The polynomial through points. -/
end Go.Proofs.Ytdoeelfcihdmbaa.Gf
/-
  A region that draws its order, whose operations only lay new memory: one walk of the lexical order, where each value is the same in every world beyond.
-/
namespace Go.Proofs.Ytdoeelfcihdmbaa
open Go
set_option linter.unusedVariables false

/-- The worlds beyond. -/
def Beyond (W : World) := {w' : World // Ext W w'}
instance beyondSome (W : World) : Nonempty (Beyond W) := ⟨⟨W, Ext.refl W⟩⟩
section
variable {F : Fence} {n : Nat} {P : Program}
end
end Go.Proofs.Ytdoeelfcihdmbaa
/-
  The walks of layer 2: the product over points; the polynomial through points.
-/
namespace Go.Proofs.Ytdoeelfcihdmbaa
open Go.RowKit Gf
set_option maxRecDepth 20000
set_option linter.unusedVariables false

end Go.Proofs.Ytdoeelfcihdmbaa
/-
  The walks of the document's answer for chapter 2: the product over points, the polynomial through points.
-/
namespace Go.Proofs.Ytdoeelfcihdmbaa
open Go.RowKit Gf
set_option maxRecDepth 20000
set_option linter.unusedVariables false

/-! the document's polynomial through points -/
end Go.Proofs.Ytdoeelfcihdmbaa
/-
  The walks of the outright laws' helpers of chapter 2: elems, equal, trimmed, num, awake.
-/
namespace Go.Proofs.Ytdoeelfcihdmbaa
open Go.RowKit Gf
set_option maxRecDepth 20000
set_option linter.unusedVariables false

/-! awake -/
def e2 : E := E.of 2
def e3 : E := E.of 3
def e6 : E := E.of 6
end Go.Proofs.Ytdoeelfcihdmbaa
/-
  The walks of the outright laws' helpers of chapter 2: unlike, values.
-/
namespace Go.Proofs.Ytdoeelfcihdmbaa
open Go.RowKit Gf
set_option maxRecDepth 20000
set_option linter.unusedVariables false

end Go.Proofs.Ytdoeelfcihdmbaa
/-
  The roots, one by one: how many, where each stands, and when a linear divisor leaves nothing.
-/
namespace Go.Proofs.Ytdoeelfcihdmbaa
open Go.RowKit Gf
set_option linter.unusedVariables false

end Go.Proofs.Ytdoeelfcihdmbaa
/-
  append onto a row of the call's own: the row that was grown from is as it was.
-/
namespace Go.Proofs.Ytdoeelfcihdmbaa
open Go.RowKit Gf

section
variable {P : Program} (w : World)
theorem run_app2 {t e : TypeId} {z : Value} {bytes : Nat} (E : Elt P t e z bytes) (ty : TypeId) (B : Nat) (v : Value) (xs : List Value) (hown : Own w B e v xs)
    (A : Option Addr) (m c : Nat) (news : List Value) (hr : Rd w A news) (hm : news.length = m) (h1 : ∀ u ∈ news, u.oneCell' = true)
    (hbytes : (xs.length + m) * bytes ≤ 140737488355328) (hB : B ≤ w.heap.size) :
    ∃ v' w', (Builtin.append_ #[t, t] ty #[v, .slice A m c]).run P w = .ok v' w' ∧ Own w' B e v' (xs ++ news) ∧ Moved w w' v v' ∧ Own w' B e v xs := by
  obtain ⟨i, hi, hz, hsz, hby⟩ := E.info
  have hzs : z.cells.size = i.size := by rw [E.cells, hsz]; rfl
  have hle : xs.length + m ≤ 140737488355328 := Nat.le_trans (Nat.le_mul_of_pos_right _ E.pos) hbytes
  have hl : news.length = m * i.size := by rw [hsz, Nat.mul_one, hm]
  have hbytes' : (xs.length + m) * i.bytes ≤ 140737488355328 := by rw [hby]; exact hbytes
  rcases A with _ | ad
  · have hm0 : m = 0 := by
      rcases Nat.eq_zero_or_pos m with h0 | h0
      · exact h0
      · obtain ⟨ad, h, _⟩ := hr (by omega)
        cases h
    subst hm0
    obtain rfl : news = [] := List.eq_nil_of_length_eq_zero hm
    exact ⟨v, w, run_append_nil_src w t ty e i E.ty hi B v xs hown c, by simpa using hown, .inl ⟨rfl, World.grownBy.refl _ _⟩, hown⟩
  have hnews : ∀ j u, news[j]? = some u → w.cell? (ad.add j) = some u := by
    intro j u hu
    obtain ⟨ad', h, hc⟩ := hr (by have := (List.getElem?_eq_some_iff.1 hu).1; omega)
    injection h with h
    subst h
    exact hc j u hu
  have grown : ∀ (old : Nat), old < xs.length + m →
      Own (w.drew.alloc (.cells (xs.toArray ++ news.toArray ++ Builtin.zeroCells z.cells (grownCap w (xs.length + m) old e - (xs.length + m))) e)) B e
        (.slice (some ⟨w.heap.size, 0, none⟩) (xs.length + m) (grownCap w (xs.length + m) old e)) (xs ++ news) ∧
      w.grownBy (w.drew.alloc (.cells (xs.toArray ++ news.toArray ++ Builtin.zeroCells z.cells (grownCap w (xs.length + m) old e - (xs.length + m))) e)) none := by
    intro old ho
    have hge := grownCap_ge w (xs.length + m) old e
    have hcm : grownCap w (xs.length + m) old e ≤ maxLen := grownCap_le_maxLen w (xs.length + m) old e (by simp only [maxLen]; omega)
    have hxl : (xs ++ news).length = xs.length + m := by rw [List.length_append, hm]
    refine ⟨⟨by omega, .inr ⟨w.heap.size, _, _, by rw [hxl], hB, heap_alloc_new w.drew _, by omega, hcm, ?_, ?_⟩⟩, ⟨rfl, rfl, rfl, by simp, fun k hk _ => Below.heap_alloc w.drew _ k hk⟩⟩
    · simp only [Array.size_append, List.size_toArray, size_zeroCells, hzs, hsz, hm]
      omega
    · simp only [Array.toList_append, List.append_assoc, Nat.mul_one]
      rw [← List.append_assoc]
      exact List.take_left
  rcases hown.2 with ⟨rfl, hn⟩ | ⟨g, cap, cur, rfl, hbg, hg, hnc, hcm, hcs, htake⟩
  · obtain rfl : xs = [] := List.eq_nil_of_length_eq_zero hn
    simp only [List.length_nil, Nat.zero_add] at hle hbytes' grown
    by_cases hm0 : m = 0
    · subst hm0
      obtain rfl : news = [] := List.eq_nil_of_length_eq_zero hm
      refine ⟨.slice none 0 0, w, ?_, Own.nil _ _ _, .inl ⟨rfl, World.grownBy.refl _ _⟩, Own.nil _ _ _⟩
      simp [Builtin.append_, run_underlying E.ty, sizeOf, typeInfo, hi, Builtin.lenOf, Builtin.firstCells, loadCells, loadCellsFrom]
    · have hr' := run_append_nil (P := P) w t ty e i z E.ty hi hz ad m c news hl hnews (by omega) (by omega) (by omega)
      have hgr := grown 0 (by omega)
      simp only [List.nil_append, Array.empty_append] at hgr ⊢
      exact ⟨_, _, hr', hgr.1, .inr ⟨rfl, hgr.2⟩, (hown.drew).alloc _⟩
  · by_cases hroom : xs.length + m ≤ cap
    · have hfit : xs.length * i.size + news.length ≤ cur.size := by rw [hsz, hcs, hm]; omega
      have hr' := run_append_room (P := P) w t ty e i E.ty hi g xs.length cap cur hg ad m c news hl hnews h1 hroom hfit
      refine ⟨_, _, hr', ⟨by omega, .inr ⟨g, cap, _, by rw [List.length_append, hm], hbg, setRow_heap w g cur _ e _ hg, by rw [List.length_append, hm]; exact hroom, hcm, ?_, ?_⟩⟩, .inl ⟨rfl, rfl, rfl, rfl, by simp, fun k _ hk => setRow_other w g k _ (fun e => hk (by simp [Value.ownBlock, e]))⟩,
        ⟨by omega, .inr ⟨g, cap, _, rfl, hbg, setRow_heap w g cur _ e _ hg, hnc, hcm, ?_, ?_⟩⟩⟩
      · simp only [List.size_toArray, List.length_append, List.length_take, List.length_drop, Array.length_toList]
        rw [hsz] at hfit ⊢
        omega
      · rw [hsz, htake, Nat.mul_one]
        simp only [List.length_append]
        rw [← List.length_append]
        exact List.take_left
      · simp only [List.size_toArray, List.length_append, List.length_take, List.length_drop, Array.length_toList]
        rw [hsz] at hfit ⊢
        omega
      · rw [hsz, htake, Nat.mul_one]
        simp only [List.append_assoc]
        exact List.take_left
    · have holds : ∀ j u, xs[j]? = some u → w.cell? ((⟨g, 0, none⟩ : Addr).add j) = some u := World.ownsRow.cells hown (g := g) rfl
      have hr' := run_append_grow (P := P) w t ty e i z E.ty hi hz ⟨g, 0, none⟩ xs.length cap xs (by rw [hsz]; omega) holds ad m c news hl hnews (by omega) (by omega) (growslice_fits (by omega) hbytes')
      have hgr := grown cap (by omega)
      exact ⟨_, _, hr', hgr.1, .inr ⟨rfl, hgr.2⟩, (hown.drew).alloc _⟩
theorem wpList_push2 {t e : TypeId} {z : Value} {bytes : Nat} (E : Elt P t e z bytes) {ops : Array Oper} {rest : List Oper} {o : Oper} {a : Act} {Q : Exit → Act → World → Prop} (hgd : o.guard = none) (s x : Operand)
    (ho : o.op = .call { callee := .builtin .append, args := #[s, x], argTypes := #[t, t] })
    (B : Nat) (v : Value) (xs : List Value) (hs : a.eval s = v) (hown : Own w B e v xs) (u : Value) (g : Nat) (hg : w.heap.size = g) (hx : a.eval x = .slice (some ⟨g, 0, none⟩) 1 1) (h1 : u.oneCell' = true)
    (hbytes : (xs.length + 1) * bytes ≤ 140737488355328) (hB : B ≤ w.heap.size)
    (h : ∀ v' w', Own w' B e v' (xs ++ [u]) → Moved (w.alloc (.cells #[u] e)) w' v v' → Below B w w' → Own w' B e v xs → wpList P ops Q rest (a.put o.dst v') w') :
    wpList P ops Q (o :: rest) a (w.alloc (.cells #[u] e)) := by
  subst hg
  obtain ⟨v', w', hrun, h2, h3, h4⟩ := run_app2 (P := P) (w.alloc (.cells #[u] e)) E o.type B v xs (hown.alloc _) _ 1 1 [u] (rd_new w u e) rfl (by simpa using h1) hbytes (by simp; omega)
  refine wpList_plain hgd fun _ hK => ?_
  unfold Oper.wp execOp
  simp only [ho, resolve, invoke, builtin, Sem.run_bind, Sem.run_pure, Result.andThen_ok, List.map_toArray, List.map_cons, List.map_nil, hs, hx, hrun]
  exact hK _ _ (h v' w' h2 h3 (((Below.refl _ _).alloc hB _).trans (h3.below (by simp; omega) fun g hg => (hown.lt g hg).1)) h4)
end
end Go.Proofs.Ytdoeelfcihdmbaa
/-
  Euclid's row, plain: each row is the only one of its number; where it is ended.
-/
namespace Go.Proofs.Ytdoeelfcihdmbaa
open Go.RowKit Gf
set_option linter.unusedVariables false

structure Row where
  g : List E
  u : List E
  v : List E
end Go.Proofs.Ytdoeelfcihdmbaa
/-
  A region that draws its order, of operations that only read, of calls that go one behind the other and lay new memory, and of stores at the end: one walk of the lexical order serves every order.
-/
namespace Go.Proofs.Ytdoeelfcihdmbaa
open Go
set_option linter.unusedVariables false

section
variable {P : Program} {ops : Array Oper} {C : World → Prop} {L : Nat → Nat} {Q : Act → World → Prop}

/-- An operation that only reads: in every world of the class the same value, the world as it was. -/
def still (P : Program) (C : World → Prop) (o : Oper) (a : Act) (v : Value) : Prop := ∀ w, C w → (execOp a.eval o).run P w = .ok (.value v) w
/-- An operation that goes on to a world of its own. -/
def loudly (P : Program) (o : Oper) (a : Act) (w : World) (K : Value → World → Prop) : Prop :=
  (∃ u w', (execOp a.eval o).run P w = .ok (.value u) w' ∧ K u w') ∨ (∃ w', (execOp a.eval o).run P w = .ok .skip w' ∧ K undef w') ∨
  (∃ f args w', (execOp a.eval o).run P w = .ok (.enter f args) w' ∧ Calls P f args w' fun e w'' => ∃ u, e = .returned u ∧ K u w'')
theorem loudly.mono {o : Oper} {a : Act} {w : World} {K K' : Value → World → Prop} (h : loudly P o a w K) (hk : ∀ u w', K u w' → K' u w') : loudly P o a w K' := by
  rcases h with ⟨u, w', h1, h2⟩ | ⟨w', h1, h2⟩ | ⟨f, args, w', h1, h2⟩
  · exact .inl ⟨u, w', h1, hk _ _ h2⟩
  · exact .inr (.inl ⟨w', h1, hk _ _ h2⟩)
  · exact .inr (.inr ⟨f, args, w', h1, h2.mono fun e w'' ⟨u, he, h3⟩ => ⟨u, he, hk _ _ h3⟩⟩)
theorem loudly.some {o : Oper} {a : Act} {w : World} {K : Value → World → Prop} (h : loudly P o a w K) : ∃ u w', K u w' := by
  rcases h with ⟨u, w', h1, h2⟩ | ⟨w', h1, h2⟩ | ⟨f, args, w', h1, h2⟩
  · exact ⟨u, w', h2⟩
  · exact ⟨_, w', h2⟩
  · obtain ⟨e, w'', fr, ⟨u, he, h3⟩, _⟩ := h2 []
    exact ⟨u, w'', h3⟩
theorem loudly.of_same {o : Oper} {a a' : Act} {w : World} {K : Value → World → Prop} (h : loudly P o a w K) (he : execOp a'.eval o = execOp a.eval o) : loudly P o a' w K := by
  unfold loudly at *
  rw [he]
  exact h
theorem loudly.wp {o : Oper} {a : Act} {w : World} {K : Act → World → Prop} {Q' : Exit → Act → World → Prop} (h : loudly P o a w (fun u w' => K (a.put o.dst u) w')) : o.wp P a w K Q' := by
  unfold Oper.wp
  rcases h with ⟨u, w', h1, h2⟩ | ⟨w', h1, h2⟩ | ⟨f, args, w', h1, h2⟩
  · rw [h1]; exact h2
  · rw [h1]; exact h2
  · rw [h1]
    refine h2.mono fun e w'' ⟨u, he, h3⟩ => ?_
    subst he
    exact h3

/-- 0: it reads; 3: it looks at no memory; else it goes on. -/
def isQ (l : Nat) : Prop := l = 0 ∨ l = 3
def cls (C : World → Prop) (l : Nat) : World → Prop := fun w => l = 0 → C w
def mOp (P : Program) (ops : Array Oper) (C : World → Prop) (L : Nat → Nat) (i : Nat) (K : Act → World → Prop) (a : Act) (w : World) : Prop :=
  ∃ o, ops[i]? = some o ∧ o.guard = none ∧ ((isQ (L i) ∧ ∃ v, still P (cls C (L i)) o a v ∧ K (a.put o.dst v) w) ∨ (¬ isQ (L i) ∧ loudly P o a w (fun u w' => (L i = 1 → C w') ∧ K (a.put o.dst u) w')))
def wpM (P : Program) (ops : Array Oper) (C : World → Prop) (L : Nat → Nat) (Q : Act → World → Prop) : Nat → Array Bool → Act → World → Prop
  | 0, listed, a, w => Region.ready .any ops listed = [] ∧ Q a w
  | fuel + 1, listed, a, w => (Region.ready .any ops listed = [] → Q a w) ∧ ∀ i ∈ Region.ready .any ops listed, mOp P ops C L i (wpM P ops C L Q fuel (listed.setIfInBounds i true)) a w
/-- Something that reads is still to come. -/
def qleft (ops : Array Oper) (L : Nat → Nat) (listed : Array Bool) : Prop := ∃ j, j < ops.size ∧ listed.getD j true = false ∧ L j = 0
theorem qleft_set {listed : Array Bool} {i : Nat} (h : qleft ops L (listed.setIfInBounds i true)) : qleft ops L listed := by
  obtain ⟨j, hj, h1, h2⟩ := h
  refine ⟨j, hj, ?_, h2⟩
  by_cases hi : i = j
  · subst hi
    rcases Nat.lt_or_ge i listed.size with h | h
    · simp [Array.getD, h] at h1
    · simp [Array.getD] at h1
  · rwa [getD_set_ne true hi] at h1

/-- What is asked of the text: the last ones wait for all that read; those that go on wait for the one before. -/
def reach (ops : Array Oper) : Nat → Nat → Nat → Bool
  | 0, _, _ => false
  | f + 1, j, i => match ops[j]? with
    | none => false
    | some o => o.after.any (fun e => Region.binds .any e && (e.on == i || reach ops f e.on i))
/-- What is listed came behind what it waits for. -/
def Closed (ops : Array Oper) (listed : Array Bool) : Prop := ∀ (j : Nat) (o : Oper), ops[j]? = some o → listed.getD j false = true → ∀ e ∈ o.after, Region.binds .any e = true → listed.getD e.on false = true
theorem Closed.reach {listed : Array Bool} (h : Closed ops listed) : ∀ (f j i : Nat), listed.getD j false = true → reach ops f j i = true → listed.getD i false = true
  | 0, _, _, _, hr => by simp [Go.Proofs.Ytdoeelfcihdmbaa.reach] at hr
  | f + 1, j, i, hj, hr => by
    unfold Go.Proofs.Ytdoeelfcihdmbaa.reach at hr
    cases ho : ops[j]? with
    | none => rw [ho] at hr; cases hr
    | some o =>
      rw [ho] at hr
      obtain ⟨e, he, hb⟩ := Array.any_eq_true'.1 hr
      simp only [Bool.and_eq_true, Bool.or_eq_true, beq_iff_eq] at hb
      have h1 := h j o ho hj e he hb.1
      rcases hb.2 with h2 | h2
      · rw [← h2]; exact h1
      · exact Closed.reach h f e.on i h1 h2
theorem Closed.ready {listed : Array Bool} (h : Closed ops listed) {f j i : Nat} (hj : j ∈ Region.ready .any ops listed) (hr : Go.Proofs.Ytdoeelfcihdmbaa.reach ops f j i = true) : listed.getD i false = true := by
  obtain ⟨_, o, ho, hall⟩ := mem_ready.1 hj
  cases f with
  | zero => simp [Go.Proofs.Ytdoeelfcihdmbaa.reach] at hr
  | succ f =>
    unfold Go.Proofs.Ytdoeelfcihdmbaa.reach at hr
    rw [ho] at hr
    obtain ⟨e, he, hb⟩ := Array.any_eq_true'.1 hr
    simp only [Bool.and_eq_true, Bool.or_eq_true, beq_iff_eq] at hb
    have h1 := hall e he hb.1
    rcases hb.2 with h2 | h2
    · rw [← h2]; exact h1
    · exact Closed.reach h f e.on i h1 h2
theorem Closed.set {listed : Array Bool} (h : Closed ops listed) {j : Nat} (hj : j ∈ Region.ready .any ops listed) : Closed ops (listed.setIfInBounds j true) := by
  intro k o ho hk e he hb
  by_cases hjk : j = k
  · subst hjk
    obtain ⟨_, o', ho', hall⟩ := mem_ready.1 hj
    rw [ho] at ho'
    injection ho' with ho'
    subst ho'
    exact getD_set_true (hall e he hb)
  · rw [getD_set_ne false hjk] at hk
    exact getD_set_true (h k o ho hk e he hb)
theorem listed_both {listed : Array Bool} {i : Nat} (hi : i < listed.size) (h : listed.getD i false = true) (h' : listed.getD i true = false) : False := by
  simp [Array.getD, hi] at h h'
  rw [h] at h'
  cases h'
structure Ordered (ops : Array Oper) (L : Nat → Nat) : Prop where
  last : ∀ (j : Nat), j < ops.size → ¬ isQ (L j) → L j ≠ 1 → ∀ i, i < ops.size → L i = 0 → reach ops ops.size j i = true
  prev : ∀ (j : Nat) (o : Oper), ops[j]? = some o → ¬ isQ (L j) → ∀ i, i < j → ¬ isQ (L i) → ∃ e ∈ o.after, Region.binds .any e = true ∧ i ≤ e.on ∧ e.on < j ∧ ¬ isQ (L e.on)
  sel : ∀ (j : Nat) (o : Oper) (cs : Array SelectCase) (b : Bool), ops[j]? = some o → o.op ≠ .select cs b
  guard : ∀ (j : Nat) (o : Oper), ops[j]? = some o → o.guard = none

theorem not_ready {listed : Array Bool} {j k : Nat} {o : Oper} (ho : ops[j]? = some o) (h : ∃ e ∈ o.after, Region.binds .any e = true ∧ e.on = k) (hk : k < ops.size) (hz : listed.size = ops.size) (hl : listed.getD k true = false) : j ∉ Region.ready .any ops listed := by
  intro hr
  obtain ⟨_, o', ho', hall⟩ := mem_ready.1 hr
  rw [ho] at ho'
  injection ho' with ho'
  subst ho'
  obtain ⟨e, he, hb, rfl⟩ := h
  have := hall e he hb
  have hb2 : e.on < listed.size := by omega
  simp [Array.getD, hb2] at this hl
  rw [this] at hl
  cases hl

theorem first_still {i : Nat} {oi : Oper} {v : Value} (hO : Ordered ops L) (hi : ops[i]? = some oi) (hL : isQ (L i)) :
    ∀ (fuel : Nat) (listed : Array Bool) (a : Act) (w : World), listed.size = ops.size → Closed ops listed → (qleft ops L listed → C w) →
      (∀ j oj, ops[j]? = some oj → j ≠ i → listed.getD j true = false → (∀ e ∈ oj.after, Region.binds .any e = true → e.on ≠ i) → oi.apart ops oj = true) →
      i ∈ Region.ready .any ops listed → still P (cls C (L i)) oi a v →
      wpM P ops C L Q fuel (listed.setIfInBounds i true) (a.put oi.dst v) w → wpM P ops C L Q (fuel + 1) listed a w := by
  have his : i < ops.size := (Array.getElem?_eq_some_iff.1 hi).1
  intro fuel
  induction fuel with
  | zero =>
    intro listed a w hz hcl hC hfree hr hy H
    refine ⟨fun h => (by rw [h] at hr; cases hr), fun j hj => ?_⟩
    by_cases hji : j = i
    · subst hji; exact ⟨oi, hi, hO.guard _ _ hi, .inl ⟨hL, v, hy, H⟩⟩
    · have := ready_mono hj hji
      rw [H.1] at this
      cases this
  | succ fuel ih =>
    intro listed a w hz hcl hC hfree hr hy H
    refine ⟨fun h => (by rw [h] at hr; cases hr), fun j hj => ?_⟩
    by_cases hji : j = i
    · subst hji; exact ⟨oi, hi, hO.guard _ _ hi, .inl ⟨hL, v, hy, H⟩⟩
    · obtain ⟨oj, hoj, hgj, hcase⟩ := H.2 j (ready_mono hj hji)
      have hun := (mem_ready.1 hr).1
      have hjun := (mem_ready.1 hj).1
      have hnot : ∀ e ∈ oj.after, Region.binds .any e = true → e.on ≠ i := fun e he hb heq => not_ready hoj ⟨e, he, hb, heq⟩ his hz hun hj
      obtain ⟨h1, h2, h3⟩ := Oper.apart_spec (hfree j oj hoj hji hjun hnot)
      have hsi := hO.sel i oi
      have hsj := hO.sel j oj
      have keep : ∀ u, still P (cls C (L i)) oi (a.put oj.dst u) v := fun u w hw => by rw [execOp_put oi (fun cs b => hsi cs b hi) a oj.dst u h3]; exact hy w hw
      have eqj : execOp a.eval oj = execOp (a.put oi.dst v).eval oj := (execOp_put oj (fun cs b => hsj cs b hoj) a oi.dst v h1).symm
      have hfree' : ∀ k ok, ops[k]? = some ok → k ≠ i → (listed.setIfInBounds j true).getD k true = false → (∀ e ∈ ok.after, Region.binds .any e = true → e.on ≠ i) → oi.apart ops ok = true := fun k ok hk hki hunk hno => by
        refine hfree k ok hk hki ?_ hno
        by_cases hjk : j = k
        · subst hjk; exact hjun
        · rwa [getD_set_ne true hjk] at hunk
      have hz' : (listed.setIfInBounds j true).size = ops.size := by simpa using hz
      have hr' := ready_mono hr (Ne.symm hji)
      rcases hcase with ⟨hl, u, hu, hn⟩ | ⟨hl, hn⟩
      · refine ⟨oj, hoj, hgj, .inl ⟨hl, u, fun w' hw' => by rw [eqj]; exact hu w' hw', ?_⟩⟩
        refine ih (listed.setIfInBounds j true) (a.put oj.dst u) w hz' (hcl.set hj) (fun h => hC (qleft_set h)) hfree' hr' (keep u) ?_
        rw [Array.setIfInBounds_comm _ _ hji, ← Act.put_comm a v u h2]
        exact hn
      · have hjs : j < ops.size := (Array.getElem?_eq_some_iff.1 hoj).1
        refine ⟨oj, hoj, hgj, .inr ⟨hl, (loudly.of_same hn eqj).mono fun u w' ⟨hc, hn⟩ => ⟨hc, ?_⟩⟩⟩
        refine ih (listed.setIfInBounds j true) (a.put oj.dst u) w' hz' (hcl.set hj) (fun hq => ?_) hfree' hr' (keep u) ?_
        · by_cases hl1 : L j = 1
          · exact hc hl1
          · obtain ⟨q, hq1, hq2, hq3⟩ := qleft_set hq
            exact (listed_both (by omega) (hcl.ready hj (hO.last j hjs hl hl1 q hq1 hq3)) hq2).elim
        · rw [Array.setIfInBounds_comm _ _ hji, ← Act.put_comm a v u h2]
          exact hn

theorem first_loud {i : Nat} {oi : Oper} (hO : Ordered ops L) (hi : ops[i]? = some oi) (hL : ¬ isQ (L i)) :
    ∀ (fuel : Nat) (listed : Array Bool) (a : Act) (w : World), listed.size = ops.size → Closed ops listed → (qleft ops L listed → C w) →
      (∀ j oj, ops[j]? = some oj → j ≠ i → listed.getD j true = false → (∀ e ∈ oj.after, Region.binds .any e = true → e.on ≠ i) → oi.apart ops oj = true) →
      (∀ j, j < i → ¬ isQ (L j) → listed.getD j true = true) → (∀ j, i ≤ j → j < ops.size → ¬ isQ (L j) → listed.getD j true = false) →
      i ∈ Region.ready .any ops listed →
      mOp P ops C L i (wpM P ops C L Q fuel (listed.setIfInBounds i true)) a w → wpM P ops C L Q (fuel + 1) listed a w := by
  have his : i < ops.size := (Array.getElem?_eq_some_iff.1 hi).1
  have quiet : ∀ (listed : Array Bool) (j : Nat), listed.size = ops.size → (∀ j, j < i → ¬ isQ (L j) → listed.getD j true = true) → (∀ j, i ≤ j → j < ops.size → ¬ isQ (L j) → listed.getD j true = false) →
      j ∈ Region.ready .any ops listed → j ≠ i → isQ (L j) := by
    intro listed j hz hlo hhi hj hji
    by_cases hz0 : isQ (L j)
    · exact hz0
    · exfalso
      obtain ⟨hun, oj, hoj, _⟩ := mem_ready.1 hj
      rcases Nat.lt_or_ge j i with h | h
      · rw [hlo j h hz0] at hun; cases hun
      · obtain ⟨e, he, hb, h1, h2, h3⟩ := hO.prev j oj hoj hz0 i (by omega) hL
        have hjs : j < ops.size := (Array.getElem?_eq_some_iff.1 hoj).1
        exact not_ready hoj ⟨e, he, hb, rfl⟩ (by omega) hz (hhi e.on h1 (by omega) h3) hj
  intro fuel
  induction fuel with
  | zero =>
    intro listed a w hz hcl hC hfree hlo hhi hr H
    refine ⟨fun h => (by rw [h] at hr; cases hr), fun j hj => ?_⟩
    by_cases hji : j = i
    · subst hji; exact H
    · have h1 := ready_mono hj hji
      obtain ⟨o, ho, hg, ⟨hl, _⟩ | ⟨hl, hn⟩⟩ := H
      · exact absurd hl hL
      · obtain ⟨u, w', _, hk⟩ := hn.some
        rw [hk.1] at h1
        cases h1
  | succ fuel ih =>
    intro listed a w hz hcl hC hfree hlo hhi hr H
    refine ⟨fun h => (by rw [h] at hr; cases hr), fun j hj => ?_⟩
    by_cases hji : j = i
    · subst hji; exact H
    · have hq := quiet listed j hz hlo hhi hj hji
      obtain ⟨hjun, oj, hoj, _⟩ := mem_ready.1 hj
      have hun := (mem_ready.1 hr).1
      have hjs : j < ops.size := (Array.getElem?_eq_some_iff.1 hoj).1
      have hCw : cls C (L j) w := fun h0 => hC ⟨j, hjs, hjun, h0⟩
      have hnot : ∀ e ∈ oj.after, Region.binds .any e = true → e.on ≠ i := fun e he hb heq => not_ready hoj ⟨e, he, hb, heq⟩ his hz hun hj
      obtain ⟨h1, h2, h3⟩ := Oper.apart_spec (hfree j oj hoj hji hjun hnot)
      have hsi := hO.sel i oi
      have hsj := hO.sel j oj
      have eqj : ∀ u, execOp (a.put oi.dst u).eval oj = execOp a.eval oj := fun u => execOp_put oj (fun cs b => hsj cs b hoj) a oi.dst u h1
      have eqi : ∀ u, execOp (a.put oj.dst u).eval oi = execOp a.eval oi := fun u => execOp_put oi (fun cs b => hsi cs b hi) a oj.dst u h3
      have hjr : j ∈ Region.ready .any ops (listed.setIfInBounds i true) := ready_mono hj hji
      obtain ⟨o, ho, hg, ⟨hl, _⟩ | ⟨hl, hn⟩⟩ := H
      · exact absurd hl hL
      · rw [hi] at ho
        injection ho with ho
        subst ho
        -- what j reads, whatever i came to
        have pick : ∀ u w', wpM P ops C L Q (fuel + 1) (listed.setIfInBounds i true) (a.put oi.dst u) w' → ∃ v, still P (cls C (L j)) oj a v ∧ wpM P ops C L Q fuel ((listed.setIfInBounds i true).setIfInBounds j true) ((a.put oi.dst u).put oj.dst v) w' := fun u w' hk => by
          obtain ⟨o', ho', _, ⟨_, v, hv, hk'⟩ | ⟨hl', _⟩⟩ := hk.2 j hjr
          · rw [hoj] at ho'
            injection ho' with ho'
            subst ho'
            exact ⟨v, fun w'' hw'' => by rw [← eqj u]; exact hv w'' hw'', hk'⟩
          · exact absurd hq hl'
        obtain ⟨u1, w1, _, hk1⟩ := hn.some
        obtain ⟨v, hv, _⟩ := pick u1 w1 hk1
        refine ⟨oj, hoj, hO.guard _ _ hoj, .inl ⟨hq, v, hv, ?_⟩⟩
        have hz' : (listed.setIfInBounds j true).size = ops.size := by simpa using hz
        refine ih (listed.setIfInBounds j true) (a.put oj.dst v) w hz' (hcl.set hj) (fun h => hC (qleft_set h)) ?_ ?_ ?_ (ready_mono hr (Ne.symm hji)) ⟨oi, hi, hg, .inr ⟨hl, ?_⟩⟩
        · intro k ok hk hki hunk hno
          refine hfree k ok hk hki ?_ hno
          by_cases hjk : j = k
          · subst hjk; exact hjun
          · rwa [getD_set_ne true hjk] at hunk
        · intro k hk hlk
          have hjk : j ≠ k := fun e => by subst e; exact hlk hq
          rw [getD_set_ne true hjk]
          exact hlo k hk hlk
        · intro k hk hks hlk
          have hjk : j ≠ k := fun e => by subst e; exact hlk hq
          rw [getD_set_ne true hjk]
          exact hhi k hk hks hlk
        · refine (loudly.of_same hn (eqi v)).mono fun u w' ⟨hc, hk⟩ => ⟨hc, ?_⟩
          obtain ⟨v', hv', hk'⟩ := pick u w' hk
          have e : v' = v := by
            have e1 := hv w hCw
            rw [hv' w hCw] at e1
            injection e1 with e1
            injection e1
          subst e
          rw [Array.setIfInBounds_comm _ _ hji, ← Act.put_comm a u v' (fun d hd => h2 d hd)]
          exact hk'

instance (l : Nat) : Decidable (isQ l) := inferInstanceAs (Decidable (l = 0 ∨ l = 3))
def orderedB (ops : Array Oper) (L : Nat → Nat) : Bool :=
  Region.noSelect ops && ops.all (fun o => o.guard.isNone) &&
  (List.range ops.size).all (fun j => match ops[j]? with
    | none => true
    | some o => (decide (isQ (L j)) || decide (L j = 1) || (List.range ops.size).all (fun i => decide (L i ≠ 0) || reach ops ops.size j i)) &&
      (decide (isQ (L j)) || (List.range j).all (fun i => decide (isQ (L i)) || o.after.any (fun e => Region.binds .any e && decide (i ≤ e.on) && decide (e.on < j) && decide (¬ isQ (L e.on))))))
theorem ordered_of (h : orderedB ops L = true) : Ordered ops L := by
  simp only [orderedB, Bool.and_eq_true, List.all_eq_true, List.mem_range] at h
  obtain ⟨⟨hs, hg⟩, hj⟩ := h
  have at_ : ∀ (j : Nat) (o : Oper), ops[j]? = some o → j < ops.size := fun j o ho => (Array.getElem?_eq_some_iff.1 ho).1
  refine ⟨fun j hjs hl hl1 i hi hli => ?_, fun j o ho hl i hi hli => ?_, fun j o cs b ho => Region.noSelect_spec hs j o cs b ho, fun j o ho => ?_⟩
  · have := hj j hjs
    rw [Array.getElem?_eq_getElem hjs] at this
    simp only [Bool.and_eq_true, Bool.or_eq_true, decide_eq_true_eq, List.all_eq_true, List.mem_range] at this
    rcases this.1 with (h1 | h1) | h1
    · exact absurd h1 hl
    · exact absurd h1 hl1
    · rcases h1 i hi with h2 | h2
      · exact absurd hli h2
      · exact h2
  · have := hj j (at_ j o ho)
    rw [ho] at this
    simp only [Bool.and_eq_true, Bool.or_eq_true, decide_eq_true_eq, List.all_eq_true, List.mem_range] at this
    rcases this.2 with h1 | h1
    · exact absurd h1 hl
    · rcases h1 i hi with h2 | h2
      · exact absurd h2 hli
      · obtain ⟨e, he, hb⟩ := Array.any_eq_true'.1 h2
        simp only [Bool.and_eq_true, decide_eq_true_eq] at hb
        exact ⟨e, he, hb.1.1.1, hb.1.1.2, hb.1.2, hb.2⟩
  · have := Array.all_eq_true_iff_forall_mem.1 hg o (Array.mem_of_getElem? ho)
    simpa using this

/-- The walk of the text's order. -/
def wpMix (P : Program) (C : World → Prop) (L : Nat → Nat) (Q : Act → World → Prop) : Nat → List Oper → Act → World → Prop
  | _, [], a, w => Q a w
  | k, o :: rest, a, w => (isQ (L k) ∧ ∃ v, still P (cls C (L k)) o a v ∧ wpMix P C L Q (k + 1) rest (a.put o.dst v) w) ∨
      (¬ isQ (L k) ∧ loudly P o a w (fun u w' => (L k = 1 → C w') ∧ wpMix P C L Q (k + 1) rest (a.put o.dst u) w'))
theorem no_qleft (hO : Ordered ops L) {listed : Array Bool} {k : Nat} (hz : listed.size = ops.size) (hcl : Closed ops listed) (hr : k ∈ Region.ready .any ops listed) (hk : ¬ isQ (L k)) (hk1 : L k ≠ 1) : ¬ qleft ops L listed := by
  rintro ⟨j, hj, hun, hq⟩
  obtain ⟨_, o, ho, _⟩ := mem_ready.1 hr
  exact listed_both (by omega) (hcl.ready hr (hO.last k (Array.getElem?_eq_some_iff.1 ho).1 hk hk1 j hj hq)) hun
theorem wpM_lex (hO : Ordered ops L) : ∀ (l : List Oper) (k : Nat) (listed : Array Bool) (a : Act) (w : World), (∀ j, l[j]? = ops[k + j]?) → Region.lexFrom .any ops l.length k listed = true → listed.size = ops.size → Closed ops listed →
    (∀ j, j < k → j < ops.size → listed.getD j true = true) → (∀ j, k ≤ j → j < ops.size → listed.getD j true = false) → (qleft ops L listed → C w) →
    wpMix P C L Q k l a w → wpM P ops C L Q l.length listed a w
  | [], _, _, _, _, _, hB, _, _, _, _, _, h => ⟨by simpa [Region.lexFrom] using hB, h⟩
  | o :: l, k, listed, a, w, hl, hB, hz, hcl, hlo, hhi, hC, h => by
    have h0 : ops[k]? = some o := by simpa using (hl 0).symm
    have hks : k < ops.size := (Array.getElem?_eq_some_iff.1 h0).1
    simp only [List.length_cons, Region.lexFrom, Bool.and_eq_true] at hB
    obtain ⟨⟨hr, hf⟩, hB'⟩ := hB
    have hr : k ∈ Region.ready .any ops listed := by simpa using hr
    have hfree := Region.free_spec h0 hf
    have hl' : ∀ j, l[j]? = ops[k + 1 + j]? := fun j => by have := hl (j + 1); simpa [Nat.add_assoc, Nat.add_comm 1 j] using this
    have hz' : (listed.setIfInBounds k true).size = ops.size := by simpa using hz
    have hlo' : ∀ j, j < k + 1 → j < ops.size → (listed.setIfInBounds k true).getD j true = true := fun j hj hjs => by
      by_cases e : k = j
      · subst e; simp [Array.getD, hz, hks]
      · rw [getD_set_ne true e]; exact hlo j (by omega) hjs
    have hhi' : ∀ j, k + 1 ≤ j → j < ops.size → (listed.setIfInBounds k true).getD j true = false := fun j hj hjs => by
      rw [getD_set_ne true (by omega)]; exact hhi j (by omega) hjs
    rcases h with ⟨hL, v, hv, hn⟩ | ⟨hL, hn⟩
    · exact first_still hO h0 hL l.length listed a w hz hcl hC hfree hr hv (wpM_lex hO l (k + 1) _ _ w hl' hB' hz' (hcl.set hr) hlo' hhi' (fun h => hC (qleft_set h)) hn)
    · refine first_loud hO h0 hL l.length listed a w hz hcl hC hfree (fun j hj _ => ?_) (fun j hj hjs _ => hhi j hj hjs) hr ⟨o, h0, hO.guard _ _ h0, .inr ⟨hL, hn.mono fun u w' ⟨hc, hn'⟩ => ⟨hc, ?_⟩⟩⟩
      · exact hlo j hj (by omega)
      · refine wpM_lex hO l (k + 1) _ _ w' hl' hB' hz' (hcl.set hr) hlo' hhi' (fun h => ?_) hn'
        by_cases h2 : L k = 1
        · exact hc h2
        · exact absurd (qleft_set h) (no_qleft hO hz hcl hr hL h2)
theorem any_of_M (hO : Ordered ops L) {Q' : Exit → Act → World → Prop} (hQ : ∀ a w, Q a w → Q' .normal a w) : ∀ (fuel : Nat) (listed : Array Bool) (a : Act) (w : World), listed.size = ops.size → Closed ops listed → (qleft ops L listed → C w) →
    wpM P ops C L Q fuel listed a w → wpAny P .any ops Q' fuel listed a w
  | 0, _, _, _, _, _, _, h => ⟨h.1, hQ _ _ h.2⟩
  | fuel + 1, listed, a, w, hz, hcl, hC, h => by
    refine ⟨fun h0 => hQ _ _ (h.1 h0), fun i hi => ?_⟩
    obtain ⟨o, ho, hg, hcase⟩ := h.2 i hi
    unfold wpOp
    have hw : Region.wanted o (yielded ops a.tmps) = true := by simp [Region.wanted, hg]
    simp only [ho, hw, if_true]
    have hz' : (listed.setIfInBounds i true).size = ops.size := by simpa using hz
    rcases hcase with ⟨hL, v, hv, hn⟩ | ⟨hL, hn⟩
    · have his : i < ops.size := (Array.getElem?_eq_some_iff.1 ho).1
      have hun := (mem_ready.1 hi).1
      refine .inl ?_
      unfold Oper.wp
      rw [hv w (fun h0 => hC ⟨i, his, hun, h0⟩)]
      exact any_of_M hO hQ fuel _ _ w hz' (hcl.set hi) (fun h => hC (qleft_set h)) hn
    · refine .inl ((hn.mono fun u w' ⟨hc, hn'⟩ => ?_ : loudly P o a w (fun u w' => wpAny P .any ops Q' fuel (listed.setIfInBounds i true) (a.put o.dst u) w')).wp)
      refine any_of_M hO hQ fuel _ _ w' hz' (hcl.set hi) (fun h => ?_) hn'
      by_cases h2 : L i = 1
      · exact hc h2
      · exact absurd (qleft_set h) (no_qleft hO hz hcl hi hL h2)
/-- THE REGION. -/
theorem wp_region_mix {id : Nat} {Q' : Exit → Act → World → Prop} {a : Act} {w : World} {l : List Oper} (L : Nat → Nat) (C : World → Prop) (hm : P.follows .mixedOrders = true) (hB : Region.lexB .any l.toArray = true) (hO : orderedB l.toArray L = true) (hC : C w.drew)
    (h : wpMix P C L (fun a w => Q' .normal a w) 0 l a w.drew) : (Code.region id l.toArray true).wp P Q' a w := by
  simp only [Region.lexB, Bool.and_eq_true] at hB
  have hcl0 : Closed l.toArray (Array.replicate l.toArray.size false) := fun j o ho hj => by
    simp [Array.getD] at hj
  refine wp_region_any hm (any_of_M (ordered_of hO) (C := C) (Q := fun a w => Q' .normal a w) (fun _ _ h => h) _ _ _ _ (by simp) hcl0 (fun _ => hC) ?_)
  have := wpM_lex (ops := l.toArray) (P := P) (C := C) (Q := fun a w => Q' .normal a w) (ordered_of hO) l 0 (Array.replicate l.toArray.size false) a w.drew (by simp) (by simpa using hB.2) (by simp) hcl0 (by intro j hj; omega)
    (by intro j _ hj; simp at hj; simp [Array.getD, hj]) (fun _ => hC) h
  simpa using this
theorem mix_nil {k : Nat} {a : Act} {w : World} (h : Q a w) : wpMix P C L Q k [] a w := h
theorem mix_still {k : Nat} {o : Oper} {rest : List Oper} {a : Act} {w : World} (v : Value) (hL : L k = 0) (hv : ∀ w, C w → (execOp a.eval o).run P w = .ok (.value v) w) (h : wpMix P C L Q (k + 1) rest (a.put o.dst v) w) :
    wpMix P C L Q k (o :: rest) a w := .inl ⟨.inl hL, v, fun w hw => hv w (hw hL), h⟩
theorem mix_pure {k : Nat} {o : Oper} {rest : List Oper} {a : Act} {w : World} (v : Value) (hL : L k = 3) (hv : ∀ w, (execOp a.eval o).run P w = .ok (.value v) w) (h : wpMix P C L Q (k + 1) rest (a.put o.dst v) w) :
    wpMix P C L Q k (o :: rest) a w := .inl ⟨.inr hL, v, fun w _ => hv w, h⟩
theorem mix_call {k : Nat} {o : Oper} {rest : List Oper} {a : Act} {w : World} (f : FuncId) (args : Array Value) (hL : L k = 1) (hr : (execOp a.eval o).run P w = .ok (.enter f args) w)
    (h : Calls P f args w fun e w' => ∃ u, e = .returned u ∧ C w' ∧ wpMix P C L Q (k + 1) rest (a.put o.dst u) w') : wpMix P C L Q k (o :: rest) a w :=
  .inr ⟨by unfold isQ; omega, .inr (.inr ⟨f, args, w, hr, h.mono fun e w' ⟨u, he, hc, hn⟩ => ⟨u, he, fun _ => hc, hn⟩⟩)⟩
theorem mix_store {k : Nat} {o : Oper} {rest : List Oper} {a : Act} {w : World} (w' : World) (hL : L k = 2) (hr : (execOp a.eval o).run P w = .ok .skip w')
    (h : wpMix P C L Q (k + 1) rest (a.put o.dst undef) w') : wpMix P C L Q k (o :: rest) a w :=
  .inr ⟨by unfold isQ; omega, .inr (.inl ⟨w', hr, fun e => by omega, h⟩)⟩
end
end Go.Proofs.Ytdoeelfcihdmbaa
/-
  The walks of layer 2: Euclid's algorithm, ended early.
-/
namespace Go.Proofs.Ytdoeelfcihdmbaa
open Go.RowKit Gf
set_option maxRecDepth 20000
set_option linter.unusedVariables false

end Go.Proofs.Ytdoeelfcihdmbaa
/-
  Euclid's row: what it is made of; the parts of a law that asks it.
-/
namespace Go.Proofs.Ytdoeelfcihdmbaa
open Go.RowKit Gf
set_option maxRecDepth 20000
set_option linter.unusedVariables false

end Go.Proofs.Ytdoeelfcihdmbaa
/-
  append of one element of several cells onto a row of the call's own that is not empty.
-/
namespace Go.Proofs.Ytdoeelfcihdmbaa
open Go.RowKit Gf

section
variable {P : Program} (w : World)
end
end Go.Proofs.Ytdoeelfcihdmbaa
/-
  The walks of the document's answer for chapter 2: Euclid's row.
-/
namespace Go.Proofs.Ytdoeelfcihdmbaa
open Go.RowKit Gf
set_option maxRecDepth 20000
set_option linter.unusedVariables false

def vlen : Value → Nat
  | .slice _ n _ => n
  | _ => 0
section
variable {P : Program} {C : World → Prop} {L : Nat → Nat} {Q : Act → World → Prop}
theorem mix_laid {k : Nat} {o : Oper} {rest : List Oper} {a : Act} {w : World} (u : Value) (w' : World) (hL : L k = 1) (hr : (execOp a.eval o).run P w = .ok (.value u) w') (hc : C w')
    (h : wpMix P C L Q (k + 1) rest (a.put o.dst u) w') : wpMix P C L Q k (o :: rest) a w :=
  .inr ⟨by unfold isQ; omega, .inl ⟨u, w', hr, fun _ => hc, h⟩⟩
theorem mix_last {k : Nat} {o : Oper} {rest : List Oper} {a : Act} {w : World} (u : Value) (w' : World) (hL : L k = 2) (hr : (execOp a.eval o).run P w = .ok (.value u) w')
    (h : wpMix P C L Q (k + 1) rest (a.put o.dst u) w') : wpMix P C L Q k (o :: rest) a w :=
  .inr ⟨by unfold isQ; omega, .inl ⟨u, w', hr, fun e => by omega, h⟩⟩
theorem append_run {o : Oper} {a : Act} {w w' : World} {t : TypeId} {s x : Operand} (ho : o.op = .call { callee := .builtin .append, args := #[s, x], argTypes := #[t, t] }) {v u v' : Value} (hs : a.eval s = v) (hx : a.eval x = u)
    (h : (Builtin.append_ #[t, t] o.type #[v, u]).run P w = .ok v' w') : (execOp a.eval o).run P w = .ok (.value v') w' := by
  unfold execOp
  simp only [ho, resolve, invoke, builtin, Sem.run_bind, Sem.run_pure, Result.andThen_ok, List.map_toArray, List.map_cons, List.map_nil, hs, hx, h]
end
end Go.Proofs.Ytdoeelfcihdmbaa
/-
  Families of rows of the call's own: rows of one label may share a block, rows of two labels never do; what an append onto the longest of a label does to all of them.
-/
namespace Go.Proofs.Ytdoeelfcihdmbaa
open Go.RowKit Gf
set_option linter.unusedVariables false

/-- Of what was there, blocks with S alone may have been written. -/
structure Touch (S : Nat → Prop) (w w' : World) : Prop where
  os : w'.os = w.os
  tape : w'.tape = w.tape
  output : w'.output = w.output
  size : w.heap.size ≤ w'.heap.size
  block : ∀ k, k < w.heap.size → ¬ S k → w'.heap[k]? = w.heap[k]?
section
variable {S S' : Nat → Prop} {w w' w'' : World}
theorem Touch.refl (w : World) : Touch S w w := ⟨rfl, rfl, rfl, Nat.le_refl _, fun _ _ _ => rfl⟩
theorem Touch.trans (h : Touch S w w') (k : Touch S w' w'') : Touch S w w'' :=
  ⟨k.os.trans h.os, k.tape.trans h.tape, k.output.trans h.output, Nat.le_trans h.size k.size, fun i hi hn => (k.block i (Nat.lt_of_lt_of_le hi h.size) hn).trans (h.block i hi hn)⟩
theorem Touch.mono (h : Touch S w w') (hs : ∀ k, k < w.heap.size → S k → S' k) : Touch S' w w' := ⟨h.os, h.tape, h.output, h.size, fun i hi hn => h.block i hi fun e => hn (hs i hi e)⟩
theorem Ext.touch (h : Ext w w') : Touch S w w' := ⟨h.os, h.tape, h.output, h.size, fun i hi _ => h.block i hi⟩
theorem Touch.ext (h : Touch S w w') (k : Ext w' w'') : Touch S w w'' := h.trans k.touch
theorem Touch.below {B : Nat} (h : Touch S w w') (hS : ∀ k, k < w.heap.size → S k → B ≤ k) (hB : B ≤ w.heap.size) : Below B w w' :=
  ⟨h.os, h.tape, h.output, h.size, fun k hk => h.block k (by omega) fun e => by have := hS k (by omega) e; omega⟩
theorem touch_set (w : World) (p : Addr) (u : Value) (hp : S p.block) : Touch S w (w.setCell p u) :=
  ⟨rfl, rfl, rfl, by simp, fun k hk hn => Below.heap_setCell w p u k fun e => hn (e ▸ hp)⟩
theorem Rd.touch {A : Option Addr} {xs : List Value} (h : Rd w A xs) (ht : Touch S w w') (hA : ∀ ad, A = some ad → ¬ S ad.block) : Rd w' A xs :=
  h.keep fun p hp hq => World.cell?_of_block (ht.block p.block hp (by
    cases A with
    | none => cases hq
    | some ad => have := hA ad rfl; simp at hq; rwa [hq] at this))
theorem Own.touch {B : Nat} {T : TypeId} {v : Value} {xs : List Value} (h : Own w B T v xs) (ht : Touch S w w') (hA : ∀ g, v.ownBlock = some g → ¬ S g) : Own w' B T v xs :=
  h.keepBlock fun g hg => ht.block g (h.lt g hg).2 (hA g hg)
theorem Blk.touch {g : Nat} {t : TypeId} {cs : Array Value} (h : Blk w g t cs) (ht : Touch S w w') (hg : ¬ S g) : Blk w' g t cs := (ht.block g h.lt hg).trans h
end

section
variable {w w' : World} {B B' : Nat} {T T' : TypeId} {v v' : Value} {xs ys : List Value}
theorem Own.cellsAt (h : Own w B T v xs) {g : Nat} (hg : v.ownBlock = some g) : ∃ cap cur, v = .slice (some ⟨g, 0, none⟩) xs.length cap ∧ w.heap[g]? = some (.cells cur T (0, 0)) ∧ xs.length ≤ cap ∧ cap ≤ maxLen ∧ cur.size = cap ∧ cur.toList.take xs.length = xs := by
  rcases h.2 with ⟨hv, _⟩ | ⟨g', cap, cur, hv, hb, hh, hn, hm, hs, ht⟩
  · rw [hv] at hg; cases hg
  · rw [hv] at hg
    simp only [Value.ownBlock, Option.some.injEq] at hg
    subst hg
    rw [Nat.mul_one] at hs ht
    exact ⟨cap, cur, hv, hh, hn, hm, hs, ht⟩
theorem Own.types (h : Own w B T v xs) (h' : Own w B' T' v' ys) (hT : T ≠ T') : v.ownBlock = none ∨ v.ownBlock ≠ v'.ownBlock := by
  cases e : v.ownBlock with
  | none => exact .inl rfl
  | some g =>
    refine .inr fun e' => ?_
    obtain ⟨_, cur, _, hh, _⟩ := h.cellsAt e
    obtain ⟨_, cur', _, hh', _⟩ := h'.cellsAt e'.symm
    rw [hh] at hh'
    injection hh' with hh'
    injection hh' with _ e2
    exact hT e2
theorem Own.notBlk {g : Nat} {cs : Array Value} (h : Own w B T v xs) (hb : Blk w g T' cs) (hT : T ≠ T') : v.ownBlock ≠ some g := fun e => by
  obtain ⟨_, cur, _, hh, _⟩ := h.cellsAt e
  rw [show w.heap[g]? = _ from hb] at hh
  injection hh with hh
  injection hh with _ e2
  exact hT e2.symm
end

/-- A row of a family: its label, where it lies, what it holds. -/
structure Kin where
  lab : Nat
  val : Value
  xs : List Value
section
variable {w w' : World} {B : Nat} {T : TypeId} {S S' : Kin → Prop}
end

/-- Rows in a list, each of the call's own: the values V, what they hold. -/
structure OwnRows (w : World) (B : Nat) (T : TypeId) (V : List Value) (R : Nat → List E) : Prop where
  own : ∀ i v, V[i]? = some v → Own w B T v (bs (R i))
/-- No two of them share a block. -/
def FarApart (V : List Value) : Prop := ∀ (i j : Nat) (vi vj : Value), V[i]? = some vi → V[j]? = some vj → i ≠ j → vi.ownBlock = none ∨ vi.ownBlock ≠ vj.ownBlock
/-- The blocks of rows. -/
def InRows (V : List Value) (k : Nat) : Prop := ∃ (i : Nat) (v : Value), V[i]? = some v ∧ v.ownBlock = some k
def updR (R : Nat → List E) (i : Nat) (l : List E) : Nat → List E := fun k => if k = i then l else R k
theorem updR_same (R : Nat → List E) (i : Nat) (l : List E) : updR R i l i = l := if_pos rfl
theorem updR_other (R : Nat → List E) (i : Nat) (l : List E) {k : Nat} (h : k ≠ i) : updR R i l k = R k := if_neg h
/-- One place of one row is written. -/
theorem OwnRows.set {w : World} {B : Nat} {T : TypeId} {V : List Value} {R : Nat → List E} (h : OwnRows w B T V R) (hf : FarApart V) {i g n cap : Nat} (hi : V[i]? = some (.slice (some ⟨g, 0, none⟩) n cap)) (j : Nat) (x : E) :
    OwnRows (w.setCell ⟨g, j, none⟩ (bv x)) B T V (updR R i ((R i).set j x)) := ⟨fun k v hk => by
  by_cases e : k = i
  · subst e
    rw [hi] at hk
    injection hk with hk
    subst hk
    rw [updR_same, bs, List.map_set]
    exact (h.own _ _ hi).set j (bv x)
  · rw [updR_other _ _ _ e]
    refine (h.own _ _ hk).far (p := ⟨g, j, none⟩) (fun e' => ?_) _
    rcases hf k i _ _ hk hi e with h1 | h1
    · rw [h1] at e'; cases e'
    · exact h1 e'⟩
theorem OwnRows.ext {w w' : World} {B : Nat} {T : TypeId} {V : List Value} {R : Nat → List E} (h : OwnRows w B T V R) (hx : Ext w w') : OwnRows w' B T V R := ⟨fun i v hi => (h.own i v hi).ext hx⟩

/-! ### Marking: each row is written full with its own mark. -/
/-- The rows below i are full of their marks, row i up to j. -/
structure Marking (w0 w : World) (B BG : Nat) (T TR : TypeId) (G N cap : Nat) (V : List Value) (R : Nat → List E) (mk : Nat → E) (i j : Nat) : Prop where
  touch : Touch (InRows V) w0 w
  own : Own w BG TR (.slice (some ⟨G, 0, none⟩) N cap) V
  rows : ∃ R' : Nat → List E, OwnRows w B T V R' ∧ (∀ r, (R' r).length = (R r).length) ∧ (∀ r, r < i → R' r = List.replicate (R r).length (mk r)) ∧ (R' i).take j = List.replicate j (mk i)
section
variable {w0 w : World} {B BG : Nat} {T TR : TypeId} {G N cap : Nat} {V : List Value} {R : Nat → List E} {mk : Nat → E} {i j : Nat}
end

/-! ### Growing: each row is grown by marks, one by one; all that is grown is kept. -/
section
variable {w0 w w1 : World} {B BG : Nat} {T TR TI : TypeId} {G N cap : Nat} {V : List Value} {R : Nat → List E} {cur : Kin} {vl vw : Value} {L W : List Kin}
end
end Go.Proofs.Ytdoeelfcihdmbaa
/-
  The walk of the laws' own helper apart of chapter 2: rows of the call's own, no two of which share a block, are found apart.
-/
namespace Go.Proofs.Ytdoeelfcihdmbaa
open Go.RowKit Gf
set_option maxRecDepth 20000
set_option linter.unusedVariables false

theorem infoRowEl : (Try.prog.info? 26).map (fun i => (i.zero, i.size, i.bytes)) = some (some (.slice none 0 0), 1, 24) := by kernel_rfl
theorem eltRowEl : Elt Try.prog 117 26 (.slice none 0 0) 24 := ⟨by kernel_rfl, info_parts infoRowEl, rfl, by decide⟩
theorem infoInt : (Try.prog.info? 3).map (fun i => (i.zero, i.size, i.bytes)) = some (some (.int .i64 0), 1, 8) := by kernel_rfl
theorem eltInt : Elt Try.prog 31 3 (.int .i64 0) 8 := ⟨by kernel_rfl, info_parts infoInt, rfl, by decide⟩

theorem OwnRows.at_ {w : World} {B : Nat} {T : TypeId} {V : List Value} {R : Nat → List E} (h : OwnRows w B T V R) {i : Nat} {v : Value} (hi : V[i]? = some v) :
    ∃ A c, v = .slice A (R i).length c ∧ Rd w A (bs (R i)) ∧ (R i).length ≤ c ∧ c ≤ maxLen ∧ (0 < (R i).length → ∃ g, A = some ⟨g, 0, none⟩) := by
  rcases (h.own i v hi).form with ⟨hv, hn⟩ | ⟨g, cap, hv, hb, hlt, hn, hm⟩
  · have : (R i).length = 0 := by rw [← bs_length, hn]; rfl
    exact ⟨none, 0, by rw [hv, this], by rw [hn]; exact Rd.nil _ _, by omega, Nat.zero_le _, fun h => by omega⟩
  · rw [bs_length] at hv hn
    subst hv
    exact ⟨_, cap, rfl, (h.own i _ hi).rd, hn, hm, fun _ => ⟨g, rfl⟩⟩
theorem Own.oneCell {w : World} {B : Nat} {T : TypeId} {v : Value} {xs : List Value} (h : Own w B T v xs) : v.oneCell' = true := by
  rcases h.form with ⟨rfl, _⟩ | ⟨g, cap, rfl, _⟩ <;> rfl
theorem Own.anySlice {w : World} {B : Nat} {T : TypeId} {v : Value} {xs : List Value} (h : Own w B T v xs) : ∃ A c, v = .slice A xs.length c := by
  rcases h.form with ⟨rfl, rfl⟩ | ⟨g, cap, rfl, _⟩
  · exact ⟨_, _, rfl⟩
  · exact ⟨_, _, rfl⟩
end Go.Proofs.Ytdoeelfcihdmbaa
/-
  Lists of lists of elements: what they read; copies, alike.
-/
namespace Go.Proofs.Ytdoeelfcihdmbaa
open Go.RowKit Gf
set_option maxRecDepth 20000
set_option linter.unusedVariables false

/-- A list of lists that read as these. -/
def RdRows (w : World) (A : Option Addr) (rs : List (List E)) : Prop := ∃ V : List Value, V.length = rs.length ∧ Rd w A V ∧ ∀ (i : Nat) (r : List E), rs[i]? = some r → ∃ B c, V[i]? = some (.slice B r.length c) ∧ Rd w B (bs r) ∧ r.length ≤ c ∧ c ≤ maxLen
theorem RdRows.ext {w w' : World} {A : Option Addr} {rs : List (List E)} (h : RdRows w A rs) (hx : Ext w w') : RdRows w' A rs := by
  obtain ⟨V, h1, h2, h3⟩ := h
  exact ⟨V, h1, h2.ext hx, fun i r hi => by obtain ⟨B, c, k1, k2, k3⟩ := h3 i r hi; exact ⟨B, c, k1, k2.ext hx, k3⟩⟩
theorem RdRows.at_ {w : World} {A : Option Addr} {rs : List (List E)} (h : RdRows w A rs) {i : Nat} (hi : i < rs.length) : ∃ ad B c, A = some ad ∧ w.cell? (ad.add i) = some (.slice B rs[i].length c) ∧ Rd w B (bs rs[i]) ∧ rs[i].length ≤ c ∧ c ≤ maxLen := by
  obtain ⟨V, h1, h2, h3⟩ := h
  obtain ⟨B, c, k1, k2, k3⟩ := h3 i rs[i] (List.getElem?_eq_getElem hi)
  obtain ⟨ad, e, hc⟩ := h2.at_ k1
  exact ⟨ad, B, c, e, hc, k2, k3⟩
end Go.Proofs.Ytdoeelfcihdmbaa
/-
  The walk of the laws' own helper ask of chapter 2: what each question answers, in new memory, no two of the lists in one block.
-/
namespace Go.Proofs.Ytdoeelfcihdmbaa
open Go.RowKit Gf
set_option maxRecDepth 20000
set_option linter.unusedVariables false

end Go.Proofs.Ytdoeelfcihdmbaa
/-
  Plain words for the law PolyOwn: lists in new memory between two sizes of the world; a list that is turned in its place.
-/
namespace Go.Proofs.Ytdoeelfcihdmbaa
open Go.RowKit Gf
set_option linter.unusedVariables false

theorem Blk.ext {w w' : World} {g : Nat} {t : TypeId} {cs : Array Value} (h : Blk w g t cs) (hx : Ext w w') : Blk w' g t cs := h.below hx h.lt
/-- A list whose first k elements have been turned. -/
def turned (f : E → E) (l : List E) (k : Nat) : List E := (l.take k).map f ++ l.drop k
end Go.Proofs.Ytdoeelfcihdmbaa
/-
  The code word that is near: it is just one; Euclid's row finds it.
-/
namespace Go.Proofs.Ytdoeelfcihdmbaa
open Go.RowKit Gf
set_option linter.unusedVariables false

/-! ### Euclid's row -/
section
variable {k K : Nat} {xs ys T s rr : List E} {r : Row} {e : Int}
end
end Go.Proofs.Ytdoeelfcihdmbaa
/-
  Chapter 5, plain: the places that are there; what is answered of a word.
-/
namespace Go.Proofs.Ytdoeelfcihdmbaa
open Go.RowKit Gf
set_option linter.unusedVariables false

def bools (l : List Bool) : List Value := l.map Value.bool
def ints (l : List Nat) : List Value := l.map fun (i : Nat) => Value.int .i64 ((i : Nat) : Int)
theorem ints_length (l : List Nat) : (ints l).length = l.length := List.length_map _
theorem ints_snoc (l : List Nat) (i : Nat) : ints (l ++ [i]) = ints l ++ [.int .i64 (i : Int)] := by simp [ints]
/-- The points and the values at places. -/
def ptsL (at_ : List Nat) : List E := at_.map E.of
theorem pts_length (l : List Nat) : (ptsL l).length = l.length := List.length_map _
theorem of_inj {i j : Nat} (hi : i < 256) (hj : j < 256) (h : E.of i = E.of j) : i = j := by
  have := congrArg E.val h
  rwa [E.val_of hi, E.val_of hj] at this
theorem pts_nodup {l : List Nat} (hn : l.Nodup) (hb : ∀ i ∈ l, i < 256) : (ptsL l).Nodup := by
  unfold ptsL List.Nodup
  rw [List.pairwise_map]
  exact List.Pairwise.imp_of_mem (fun {a b} ha hb' hne e => hne (of_inj (hb a ha) (hb b hb') e)) hn
end Go.Proofs.Ytdoeelfcihdmbaa
/-
  The walks of layer 5: there, near, Column.
-/
namespace Go.Proofs.Ytdoeelfcihdmbaa
open Go.RowKit Gf
set_option maxRecDepth 20000
set_option linter.unusedVariables false

/-- A row that is being filled. -/
structure Filling (w : World) (g n : Nat) (T : TypeId) (l : List E) (j : Nat) : Prop where
  blk : ∃ cs, Blk w g T cs ∧ cs.size = n ∧ cs.toList.take j = bs (l.take j)
theorem Filling.start {w : World} {g n : Nat} {T : TypeId} {cs : Array Value} (l : List E) (h : Blk w g T cs) (hs : cs.size = n) : Filling w g n T l 0 := ⟨cs, h, hs, by simp [bs]⟩
theorem Filling.frozen {w : World} {g n j : Nat} {T : TypeId} {l : List E} (h : Filling w g n T l j) (i : Nat) : w.frozen? ⟨g, i, none⟩ = false := by obtain ⟨cs, hb, _⟩ := h.blk; exact hb.frozen i
theorem Filling.some_ {w : World} {g n j : Nat} {T : TypeId} {l : List E} (h : Filling w g n T l j) {i : Nat} (hi : i < n) : ∃ u, w.cell? ⟨g, i, none⟩ = some u := by
  obtain ⟨cs, hb, hs, _⟩ := h.blk
  exact ⟨cs[i], by rw [hb.cell i]; exact Array.getElem?_eq_getElem (by omega)⟩
theorem Filling.step {w : World} {g n j : Nat} {T : TypeId} {l : List E} (h : Filling w g n T l j) (hj : j < l.length) (hn : j < n) : Filling (w.setCell ⟨g, j, none⟩ (bv l[j])) g n T l (j + 1) := by
  obtain ⟨cs, hb, hs, ht⟩ := h.blk
  refine ⟨_, hb.set_ j _, by simpa using hs, ?_⟩
  rw [set_take _ (by omega) ht, take_snoc' l j hj, bs_append]
  rfl
theorem Filling.done {w : World} {g n B : Nat} {T : TypeId} {l : List E} (h : Filling w g n T l n) (hl : l.length = n) (hB : B ≤ g) (hm : n ≤ maxLen) : Own w B T (.slice (some ⟨g, 0, none⟩) n n) (bs l) := by
  obtain ⟨cs, hb, hs, ht⟩ := h.blk
  have := hb.own (B := B) (n := n) (cap := n) hB (Nat.le_refl _) hm hs
  subst hl
  rwa [ht, List.take_length] at this
end Go.Proofs.Ytdoeelfcihdmbaa
/-
  The walk of layer 5's Column.
-/
namespace Go.Proofs.Ytdoeelfcihdmbaa
open Go.RowKit Gf
set_option maxRecDepth 20000
set_option linter.unusedVariables false

end Go.Proofs.Ytdoeelfcihdmbaa
/-
  The walks of the document's answer for chapter 5: the table of all products, inverses by it, values by it.
-/
namespace Go.Proofs.Ytdoeelfcihdmbaa
open Go.RowKit Gf
set_option maxRecDepth 20000
set_option linter.unusedVariables false

theorem infoRowU8 : (Try.prog.info? 24).map (fun i => (i.zero, i.size, i.bytes)) = some (some (.slice none 0 0), 1, 24) := by kernel_rfl
theorem eltRowU8 : Elt Try.prog 32 24 (.slice none 0 0) 24 := ⟨by kernel_rfl, info_parts infoRowU8, rfl, by decide⟩
end Go.Proofs.Ytdoeelfcihdmbaa
/-
  Elimination, plain: sums, the staircase, what each step keeps, what a kernel is.
-/
namespace Go.Proofs.Ytdoeelfcihdmbaa
open Go.RowKit Gf
set_option linter.unusedVariables false

def sumN : Nat → (Nat → E) → E
  | 0, _ => 0
  | n + 1, f => sumN n f + f n
theorem sumN_zero {n : Nat} {f : Nat → E} (h : ∀ i, i < n → f i = 0) : sumN n f = 0 := by
  induction n with
  | zero => rfl
  | succ n ih => rw [sumN, ih (fun i hi => h i (by omega)), h n (by omega), E.add_zero]
theorem sumN_add (n : Nat) (f g : Nat → E) : sumN n (fun i => f i + g i) = sumN n f + sumN n g := by
  induction n with
  | zero => exact (E.add_zero _).symm
  | succ n ih => rw [sumN, sumN, sumN, ih, E.add_assoc, E.add_assoc]; congr 1; rw [E.add_left_comm]
theorem sumN_smul (n : Nat) (c : E) (f : Nat → E) : sumN n (fun i => c * f i) = c * sumN n f := by
  induction n with
  | zero => exact (E.mul_zero _).symm
  | succ n ih => rw [sumN, sumN, ih, E.mul_add]
theorem sumN_congr {n : Nat} {f g : Nat → E} (h : ∀ i, i < n → f i = g i) : sumN n f = sumN n g := by
  induction n with
  | zero => rfl
  | succ n ih => rw [sumN, sumN, ih (fun i hi => h i (by omega)), h n (by omega)]
theorem sumN_one {n a : Nat} {f : Nat → E} (ha : a < n) (h : ∀ i, i < n → i ≠ a → f i = 0) : sumN n f = f a := by
  induction n with
  | zero => omega
  | succ n ih =>
    rw [sumN]
    by_cases e : a = n
    · subst e; rw [sumN_zero (fun i hi => h i (by omega) (by omega)), E.zero_add]
    · rw [ih (by omega) (fun i hi hne => h i (by omega) hne), h n (by omega) (fun h => e h.symm), E.add_zero]
theorem sumN_two {n a b : Nat} {f : Nat → E} (ha : a < n) (hb : b < n) (hab : a ≠ b) (h : ∀ i, i < n → i ≠ a → i ≠ b → f i = 0) : sumN n f = f a + f b := by
  have h1 : sumN n f = sumN n (fun i => (if i = a then f a else 0) + (if i = b then f b else 0)) := sumN_congr fun i hi => by
    by_cases e1 : i = a
    · subst e1; rw [if_pos rfl, if_neg hab, E.add_zero]
    · by_cases e2 : i = b
      · subst e2; rw [if_neg e1, if_pos rfl, E.zero_add]
      · rw [if_neg e1, if_neg e2, E.add_zero]; exact h i hi e1 e2
  rw [h1, sumN_add, sumN_one ha (fun i _ hne => if_neg hne), sumN_one hb (fun i _ hne => if_neg hne), if_pos rfl, if_pos rfl]
section
variable {m U : Nat} {M M' : Nat → Nat → E} {c at_ : Nat} {place : Nat → Nat}
end
end Go.Proofs.Ytdoeelfcihdmbaa
/-
  The memory of the elimination: rows that are swapped and written in their places.
-/
namespace Go.Proofs.Ytdoeelfcihdmbaa
open Go.RowKit Gf
set_option linter.unusedVariables false

/-- The new ones below i, the old ones from i on. -/
def mixL (new old : List E) (i : Nat) : List E := new.take i ++ old.drop i
theorem mixL_zero (new old : List E) : mixL new old 0 = old := by simp [mixL]
theorem mixL_all {new old : List E} (h : new.length = old.length) : mixL new old old.length = new := by simp [mixL, ← h]
theorem mixL_length {new old : List E} (h : new.length = old.length) (i : Nat) : (mixL new old i).length = old.length := by simp [mixL]; omega
theorem mixL_get {new old : List E} (h : new.length = old.length) {i : Nat} (hi : i < old.length) : (mixL new old i)[i]'(by rw [mixL_length h]; exact hi) = old[i] := by
  have hl : (new.take i).length = i := by rw [List.length_take]; omega
  have : (mixL new old i)[i]? = some old[i] := by
    rw [mixL, List.getElem?_append_right (by omega), hl, Nat.sub_self, List.getElem?_drop, Nat.add_zero, List.getElem?_eq_getElem hi]
  rw [List.getElem?_eq_getElem (by rw [mixL_length h]; exact hi)] at this
  exact Option.some.inj this
theorem mixL_set {new old : List E} (h : new.length = old.length) {i : Nat} (hi : i < old.length) : (mixL new old i).set i (new[i]'(by omega)) = mixL new old (i + 1) := by
  have hl : (new.take i).length = i := by rw [List.length_take]; omega
  rw [mixL, mixL, take_snoc' new i (by omega), List.set_append_right _ _ (by omega), hl, Nat.sub_self, List.drop_eq_getElem_cons hi, List.set_cons_zero, List.append_assoc]
  rfl
/-- A row times a number; a row and so many times another one. -/
def scaleR (c : E) (a : List E) : List E := a.map (c * ·)
def elimR (f : E) (a b : List E) : List E := List.zipWith (fun x y => x + f * y) a b
theorem scaleR_length (c : E) (a : List E) : (scaleR c a).length = a.length := List.length_map _
theorem elimR_length {f : E} {a b : List E} (h : b.length = a.length) : (elimR f a b).length = a.length := by simp [elimR, h]
theorem ser_scaleR (c : E) (a : List E) (i : Nat) : ser (scaleR c a) i = c * ser a i := by
  by_cases h : i < a.length
  · rw [ser_at _ _ (by rw [scaleR_length]; exact h), ser_at _ _ h]; simp [scaleR]
  · rw [ser_out _ _ (by rw [scaleR_length]; omega), ser_out _ _ (by omega), E.mul_zero]
theorem ser_elimR {f : E} {a b : List E} (h : b.length = a.length) (i : Nat) : ser (elimR f a b) i = ser a i + f * ser b i := by
  by_cases hi : i < a.length
  · rw [ser_at _ _ (by rw [elimR_length h]; exact hi), ser_at _ _ hi, ser_at _ _ (by omega)]; simp [elimR]
  · rw [ser_out _ _ (by rw [elimR_length h]; omega), ser_out _ _ (by omega), ser_out _ _ (by omega), E.mul_zero, E.add_zero]
theorem elimR_zero {a b : List E} (h : b.length = a.length) : elimR 0 a b = a := by
  apply List.ext_getElem
  · exact elimR_length h
  · intro i h1 h2; simp [elimR, E.zero_mul, E.add_zero]
theorem elimR_get {f : E} {a b : List E} (h : b.length = a.length) {i : Nat} (hi : i < a.length) : (elimR f a b)[i]'(by rw [elimR_length h]; exact hi) = a[i] + f * b[i] := by simp [elimR]
theorem scaleR_get {c : E} {a : List E} {i : Nat} (hi : i < a.length) : (scaleR c a)[i]'(by rw [scaleR_length]; exact hi) = c * a[i] := by simp [scaleR]

/-- The rows p and a swapped. -/
def sw (p a i : Nat) : Nat := if i = a then p else if i = p then a else i
def swapR (R : Nat → List E) (p a : Nat) : Nat → List E := fun i => R (sw p a i)
theorem sw_inj {p a i j : Nat} (h : sw p a i = sw p a j) : i = j := by unfold sw at h; split at h <;> split at h <;> (try split at h) <;> (try split at h) <;> omega

section
variable {w0 w : World} {B G m cap U gp : Nat} {V : List Value} {R : Nat → List E} {pl : List Nat}
end
end Go.Proofs.Ytdoeelfcihdmbaa
/-
  The walk of the document's kernel of chapter 5: elimination in place.
-/
namespace Go.Proofs.Ytdoeelfcihdmbaa
open Go.RowKit Gf
set_option maxRecDepth 20000
set_option linter.unusedVariables false

/-- The rows behind the elimination of those below r. -/
def elimTo (R : Nat → List E) (c a r : Nat) : Nat → List E := fun j => if j < r ∧ j ≠ a then elimR (ser (R j) c) (R j) (R a) else R j
theorem elimTo_zero (R : Nat → List E) (c a : Nat) : elimTo R c a 0 = R := funext fun j => by simp [elimTo]
theorem elimTo_self (R : Nat → List E) (c a r : Nat) : elimTo R c a r a = R a := by simp [elimTo]
theorem elimTo_at (R : Nat → List E) (c a r : Nat) : elimTo R c a r r = R r := by simp [elimTo]
theorem elimTo_skip (R : Nat → List E) (c a : Nat) : elimTo R c a (a + 1) = elimTo R c a a := funext fun j => by
  unfold elimTo
  by_cases e : j = a
  · subst e; simp
  · by_cases h : j < a
    · rw [if_pos ⟨by omega, e⟩, if_pos ⟨h, e⟩]
    · rw [if_neg (by omega), if_neg (by omega)]
theorem elimTo_step (R : Nat → List E) (c a r : Nat) (hne : r ≠ a) : updR (elimTo R c a r) r (elimR (ser (R r) c) (R r) (R a)) = elimTo R c a (r + 1) := funext fun j => by
  unfold updR elimTo
  by_cases e : j = r
  · subst e; rw [if_pos rfl, if_pos ⟨by omega, hne⟩]
  · rw [if_neg e]
    by_cases h : j < r ∧ j ≠ a
    · rw [if_pos h, if_pos (show j < r + 1 ∧ j ≠ a from ⟨by omega, h.2⟩)]
    · rw [if_neg h, if_neg (show ¬ (j < r + 1 ∧ j ≠ a) from fun h2 => h ⟨by omega, h2.2⟩)]
theorem updR_idem (R : Nat → List E) (i : Nat) (a b : List E) : updR (updR R i a) i b = updR R i b := funext fun j => by unfold updR; split <;> rfl
theorem updR_self (R : Nat → List E) (i : Nat) : updR R i (R i) = R := funext fun j => by unfold updR; split <;> simp_all
end Go.Proofs.Ytdoeelfcihdmbaa
/-
  Plain: the polynomial through points by Lagrange's sum; the code word that is near by linear equations.
-/
namespace Go.Proofs.Ytdoeelfcihdmbaa
open Go.RowKit Gf
set_option linter.unusedVariables false

/-! ### Lagrange -/
theorem evL_elim {c : E} {a b : List E} (h : b.length = a.length) (x : E) : evL (elimR c a b) x = evL a x + c * evL b x := by
  rw [← evL_scale, ← evL_plus]
  exact evL_ser (by rw [ser_plusL, ser_scaleL]; exact funext fun i => ser_elimR h i) x
/-! ### Linear equations -/
section
variable {e k : Nat} {xs ys q : List E}
end
end Go.Proofs.Ytdoeelfcihdmbaa
/-
  The walks of the document's answer for chapter 5: the polynomial through points; whether all lie on it.
-/
namespace Go.Proofs.Ytdoeelfcihdmbaa
open Go.RowKit Gf
set_option maxRecDepth 20000
set_option linter.unusedVariables false

end Go.Proofs.Ytdoeelfcihdmbaa
/-
  The walks of the document's answer for chapter 5: straight, near.
-/
namespace Go.Proofs.Ytdoeelfcihdmbaa
open Go.RowKit Gf
set_option maxRecDepth 20000
set_option linter.unusedVariables false

end Go.Proofs.Ytdoeelfcihdmbaa
/-
  The walk of the document's answer for chapter 5: near, by linear equations.
-/
namespace Go.Proofs.Ytdoeelfcihdmbaa
open Go.RowKit Gf
set_option maxRecDepth 20000
set_option linter.unusedVariables false

end Go.Proofs.Ytdoeelfcihdmbaa
/-
  The walks of the document's answer for chapter 5: there, column, Column.
-/
namespace Go.Proofs.Ytdoeelfcihdmbaa
open Go.RowKit Gf
set_option maxRecDepth 20000
set_option linter.unusedVariables false

end Go.Proofs.Ytdoeelfcihdmbaa
/-
  The arguments of a law opened where they are together of a bulk that is bounded: rows of bools, rows of rows of bytes, a struct of three.
-/
namespace Go.Proofs.Ytdoeelfcihdmbaa
open Go.ChangeShapes Go.WideShapes Go.ChangeAt Go.RowKit Gf Go.Deep
set_option linter.unusedVariables false

section
variable {H : Type} {enc : TypeId × Value → H} {P : Program} {w : World}
theorem intRow_bulk {k : IntKind} {A : Option Addr} {L : Nat} {Z : List Int} (h : A = none → Z.length = 0) : Z.length ≤ Rows.uptoBulk (H := H) (intRow k A L Z) := by
  cases A with
  | none => rw [h rfl]; exact Nat.zero_le _
  | some a =>
    simp only [intRow, Rows.uptoBulk]
    have h1 := bulk_len (H := H) (lits k (Z.take L))
    have h2 := bulk_len (H := H) (lits k (Z.drop L))
    rw [lits_length, List.length_take] at h1
    rw [lits_length, List.length_drop] at h2
    omega
theorem open_rows_u {base : Nat} {held : Bool} {t e q : TypeId} {fuel : Nat} {cs : List Value} {y : DataW H × List MemPlace} (ht : P.underlying t = some (.slice e)) (he : P.underlying e = some (.slice q)) (hq : P.underlying q = some (.int .u8)) (ce : P.cellsOf e = 1) (cq : P.cellsOf q = 1)
    (h : DataW.trod enc P w base (fun _ => true) held fuel t cs = some y) (hB : Rows.uptoBulk y.1 ≤ 1048576) :
    ∃ (A : Option Addr) (cap : Nat) (rs : List (List E)), cs = [.slice A rs.length cap] ∧ RdRows w A rs ∧ rs.length ≤ cap ∧ cap ≤ 1048576 ∧ ∀ r ∈ rs, r.length ≤ 1048576 := by
  rcases open_int_rows ht he hq ce cq h with ⟨hcs, _⟩ | ⟨a, l, c', A, L, C, Z, hcs, _, hl, hm, hx, hrow⟩
  · exact ⟨none, 0, [], hcs, ⟨[], rfl, Rd.nil _ _, fun i r hi => by simp at hi⟩, Nat.le_refl _, by omega, by simp⟩
  · rw [hx] at hB
    simp only [Rows.uptoBulk] at hB
    have h1 := bulk_len (H := H) ((List.range l).map fun r => intRow .u8 (A r) (L r) (Z r))
    have h2 := bulk_len (H := H) ((List.range (c' - l)).map fun j => intRow .u8 (A (l + j)) (L (l + j)) (Z (l + j)))
    rw [List.length_map, List.length_range] at h1 h2
    have hcap : c' ≤ 1048576 := by omega
    have hC : ∀ r, r < l → C r ≤ 1048576 := fun r hr => by
      obtain ⟨_, _, _, hz, _, hnone, _⟩ := hrow r (by omega)
      have h3 := intRow_bulk (H := H) (k := .u8) (A := A r) (L := L r) (Z := Z r) (fun e => by rw [hz]; exact hnone e)
      have h4 := bulk_part (H := H) (List.mem_map.2 ⟨r, List.mem_range.2 hr, rfl⟩ : intRow .u8 (A r) (L r) (Z r) ∈ (List.range l).map fun r => intRow .u8 (A r) (L r) (Z r))
      omega
    have hE : ∀ r, r < l → ∃ xs : List E, xs.length = L r ∧ Rd w (A r) (bs xs) ∧ L r ≤ C r ∧ C r ≤ maxLen := fun r hr => by
      obtain ⟨_, hLC, hCm, hz, hwf, hnone, hcell⟩ := hrow r (by omega)
      let f : Nat → E := fun i => ⟨((Z r).getD i 0).toNat % 256, Nat.mod_lt _ (by decide)⟩
      have hf : ∀ i, i < (Z r).length → (Z r).getD i 0 = ((f i).val : Int) := fun i hi => by
        have hmem : (Z r).getD i 0 ∈ Z r := by
          rw [List.getD_eq_getElem?_getD, List.getElem?_eq_getElem hi]
          exact List.getElem_mem hi
        obtain ⟨x, hx⟩ := toE (hwf _ hmem)
        have hlt := x.lt
        show (Z r).getD i 0 = ((((Z r).getD i 0).toNat % 256 : Nat) : Int)
        rw [hx]
        omega
      refine ⟨(List.range (L r)).map f, by simp, fun hn => ?_, hLC, hCm⟩
      have hL0 : 0 < L r := by simpa [bs] using hn
      cases eA : A r with
      | none => have := hnone eA; omega
      | some ad =>
        refine ⟨ad, rfl, fun j u hu => ?_⟩
        have hj : j < L r := by
          have := (List.getElem?_eq_some_iff.1 hu).1
          simpa [bs] using this
        rw [(hcell ad eA).2 j (by omega), hf j (by omega)]
        rw [bs, List.getElem?_map, List.getElem?_map, List.getElem?_range hj] at hu
        simpa [bv] using hu
    obtain ⟨xs, hxs⟩ := choose_lt hE
    refine ⟨some a, c', (List.range l).map xs, by simpa using hcs, ⟨(List.range l).map fun r => .slice (A r) (L r) (C r), by simp, fun _ => ⟨a, rfl, fun j u hu => ?_⟩, fun i r hi => ?_⟩, by simpa using hl, hcap, fun r hr => ?_⟩
    · have hj : j < l := by
        have := (List.getElem?_eq_some_iff.1 hu).1
        simpa using this
      rw [(hrow j (by omega)).1]
      rw [List.getElem?_map, List.getElem?_range hj] at hu
      simpa using hu
    · have hj : i < l := by
        have := (List.getElem?_eq_some_iff.1 hi).1
        simpa using this
      rw [List.getElem?_map, List.getElem?_range hj] at hi
      simp only [Option.map_some, Option.some.injEq] at hi
      obtain ⟨e1, e2, e3, e4⟩ := hxs i hj
      subst hi
      exact ⟨A i, C i, by rw [List.getElem?_map, List.getElem?_range hj, e1]; rfl, e2, by rw [e1]; exact e3, e4⟩
    · obtain ⟨i, hi, rfl⟩ := List.mem_map.1 hr
      have hj := List.mem_range.1 hi
      rw [(hxs i hj).1]
      exact Nat.le_trans (hxs i hj).2.2.1 (hC i hj)
end
end Go.Proofs.Ytdoeelfcihdmbaa
/-
  The walks of the laws' own helpers of chapter 5: num, sameInts.
-/
namespace Go.Proofs.Ytdoeelfcihdmbaa
open Go.RowKit Gf
set_option maxRecDepth 20000
set_option linter.unusedVariables false
theorem infoBool : (Try.prog.info? 4).map (fun i => (i.zero, i.size, i.bytes)) = some (some (.bool false), 1, 1) := by kernel_rfl
theorem eltBool : Elt Try.prog 51 4 (.bool false) 1 := ⟨by kernel_rfl, info_parts infoBool, rfl, by decide⟩
end Go.Proofs.Ytdoeelfcihdmbaa
/-
  Layer 5, rows: how long they are, which are lost; a column of them.
-/
namespace Go.Proofs.Ytdoeelfcihdmbaa
open Go.RowKit Gf
set_option maxRecDepth 20000
set_option linter.unusedVariables false

/-- A row filled as far as k, with d behind. -/
def half (l : List Value) (d : Value) (k : Nat) : List Value := l.take k ++ List.replicate (l.length - k) d
theorem half_length (l : List Value) (d : Value) (k : Nat) (h : k ≤ l.length) : (half l d k).length = l.length := by simp [half]; omega
theorem half_zero (l : List Value) (d : Value) : half l d 0 = List.replicate l.length d := by simp [half]
theorem half_done (l : List Value) (d : Value) : half l d l.length = l := by simp [half]
theorem half_step (l : List Value) (d : Value) (k : Nat) (h : k < l.length) : (half l d k).set k l[k] = half l d (k + 1) := by
  unfold half
  have e : (l.take k).length = k := by simp; omega
  rw [show l.length - k = (l.length - (k + 1)) + 1 by omega, List.replicate_succ, List.set_append_right _ _ (by omega), e, Nat.sub_self, List.set_cons_zero, ← List.take_append_getElem h, List.append_assoc]
  rfl
end Go.Proofs.Ytdoeelfcihdmbaa
/-
  Chapter 5, plain: the polynomial through values as a sum of weights; a straight column.
-/
namespace Go.Proofs.Ytdoeelfcihdmbaa
open Go.RowKit Gf
set_option maxRecDepth 20000
set_option linter.unusedVariables false

/-- The product of what x differs by from these. -/
def pr (l : List E) (x : E) : E := l.foldl (fun s b => s * (x + b)) 1
theorem pr_snoc (l : List E) (b x : E) : pr (l ++ [b]) x = pr l x * (x + b) := by simp [pr]
theorem foldl_pull (x : E) : ∀ (l : List E) (c : E), l.foldl (fun s b => s * (x + b)) c = c * pr l x
  | [], c => (E.mul_one c).symm
  | b :: l, c => by
    show l.foldl (fun s b => s * (x + b)) (c * (x + b)) = c * l.foldl (fun s b => s * (x + b)) (1 * (x + b))
    rw [foldl_pull x l, foldl_pull x l (1 * (x + b)), E.one_mul, E.mul_assoc]
theorem pr_cons (l : List E) (b x : E) : pr (b :: l) x = (x + b) * pr l x := by
  show l.foldl (fun s b => s * (x + b)) (1 * (x + b)) = _
  rw [foldl_pull, E.one_mul]
theorem pr_ne {l : List E} {x : E} (h : x ∉ l) : pr l x ≠ 0 := by
  induction l with
  | nil => exact E.one_ne_zero
  | cons b l ih =>
    rw [pr_cons]
    intro hz
    rcases E.mul_eq_zero.1 hz with h1 | h1
    · exact h (by rw [E.add_eq_zero.1 h1]; exact List.mem_cons_self)
    · exact ih (fun hm => h (List.mem_cons_of_mem _ hm)) h1
theorem pr_zero {l : List E} {x : E} (h : x ∈ l) : pr l x = 0 := by
  induction l with
  | nil => cases h
  | cons b l ih =>
    rw [pr_cons]
    rcases List.mem_cons.1 h with rfl | h1
    · rw [E.add_self, E.zero_mul]
    · rw [ih h1, E.mul_zero]
/-- All but one. -/
def less (l : List E) (a : E) : List E := l.filter fun b => !decide (b = a)
theorem less_length {l : List E} {a : E} (hn : l.Nodup) (ha : a ∈ l) : (less l a).length + 1 = l.length := by
  induction l with
  | nil => cases ha
  | cons b l ih =>
    obtain ⟨h1, h2⟩ := List.nodup_cons.1 hn
    by_cases e : b = a
    · subst e
      have : less (b :: l) b = l := by
        rw [less, List.filter_cons_of_neg (by simp)]
        exact List.filter_eq_self.2 fun x hx => by
          have : x ≠ b := fun e => h1 (e ▸ hx)
          simp [this]
      rw [this]; rfl
    · have : less (b :: l) a = b :: less l a := by rw [less, List.filter_cons_of_pos (by simp [e])]; rfl
      rw [this, List.length_cons, ih h2 (by rcases List.mem_cons.1 ha with h | h; exact absurd h.symm e; exact h), List.length_cons]
theorem pr_less {l : List E} {a : E} (hn : l.Nodup) (ha : a ∈ l) (x : E) : pr l x = (x + a) * pr (less l a) x := by
  induction l with
  | nil => cases ha
  | cons b l ih =>
    obtain ⟨h1, h2⟩ := List.nodup_cons.1 hn
    by_cases e : b = a
    · subst e
      have : less (b :: l) b = l := by
        rw [less, List.filter_cons_of_neg (by simp)]
        exact List.filter_eq_self.2 fun x hx => by
          have : x ≠ b := fun e => h1 (e ▸ hx)
          simp [this]
      rw [this, pr_cons]
    · have : less (b :: l) a = b :: less l a := by rw [less, List.filter_cons_of_pos (by simp [e])]; rfl
      rw [this, pr_cons, pr_cons, ih h2 (by rcases List.mem_cons.1 ha with h | h; exact absurd h.symm e; exact h), E.mul_left_comm]
theorem evL_pr (x : E) (l : List E) : evL (vanishL l) x = pr l x := by
  have : ∀ k, k ≤ l.length → evL (vanishL (l.take k)) x = pr (l.take k) x := by
    intro k
    induction k with
    | zero => intro _; show evL [1] x = 1; rw [evL_cons, evL_nil, E.mul_zero, E.add_zero]
    | succ k ih =>
      intro hk
      rw [vanishL_take l k (by omega), evL_times, ih (by omega), ← List.take_append_getElem (show k < l.length by omega), pr_snoc, evL_lin, E.add_comm x]
  have := this l.length (Nat.le_refl _)
  rwa [List.take_length] at this
theorem not_less (l : List E) (a : E) : a ∉ less l a := fun h => by
  have := (List.mem_filter.1 h).2
  simp at this
/-- How the value at place j of these makes the one at x. -/
def wgt (pts : List E) (x : E) (j : Nat) : E := pr (less pts (pts.getD j 0)) x * E.inv (pr (less pts (pts.getD j 0)) (pts.getD j 0))
theorem lagrange {pts : List E} (hn : pts.Nodup) (vals : List E) : ∀ j, j ≤ pts.length → ∃ f : List E, f.length = pts.length ∧ (∀ i, i < pts.length → evL f (pts.getD i 0) = if i < j then vals.getD i 0 else 0) ∧ ∀ x, evL f x = sumN j (fun i => wgt pts x i * vals.getD i 0)
  | 0, _ => ⟨List.replicate pts.length 0, by simp, fun i hi => by
      rw [if_neg (by omega)]
      exact (evL_ser (a := List.replicate pts.length 0) (b := []) (funext fun i => by simp [ser, List.getElem?_replicate]; split <;> rfl) _).trans (evL_nil _), fun x => (evL_ser (a := List.replicate pts.length 0) (b := []) (funext fun i => by simp [ser, List.getElem?_replicate]; split <;> rfl) _).trans (evL_nil _)⟩
  | j + 1, hj => by
    obtain ⟨f, h1, h2, h3⟩ := lagrange hn vals j (by omega)
    have hjp : j < pts.length := by omega
    have hg : ∀ i (hi : i < pts.length), pts.getD i 0 = pts[i] := fun i hi => by rw [List.getD_eq_getElem?_getD, List.getElem?_eq_getElem hi]; rfl
    have hmem : pts.getD j 0 ∈ pts := by rw [hg j hjp]; exact List.getElem_mem hjp
    have hl : (vanishL (less pts (pts.getD j 0))).length = f.length := by rw [vanish_length, less_length hn hmem, h1]
    have hne : pr (less pts (pts.getD j 0)) (pts.getD j 0) ≠ 0 := pr_ne (not_less _ _)
    refine ⟨elimR (vals.getD j 0 * E.inv (pr (less pts (pts.getD j 0)) (pts.getD j 0))) f (vanishL (less pts (pts.getD j 0))), by rw [elimR_length hl, h1], fun i hi => ?_, fun x => ?_⟩
    · rw [evL_elim hl, h2 i hi, evL_pr]
      by_cases e : i = j
      · subst e
        rw [if_neg (Nat.lt_irrefl _), if_pos (Nat.lt_succ_self _), E.zero_add, E.mul_assoc, E.inv_mul hne, E.mul_one]
      · have hin : pts.getD i 0 ∈ less pts (pts.getD j 0) := by
          rw [less, List.mem_filter, hg i hi, hg j hjp]
          refine ⟨List.getElem_mem hi, ?_⟩
          have : pts[i] ≠ pts[j] := fun h => e ((List.getElem_inj hn).1 h)
          simp [this]
        rw [pr_zero hin, E.mul_zero, E.add_zero]
        by_cases h4 : i < j
        · rw [if_pos h4, if_pos (by omega)]
        · rw [if_neg h4, if_neg (by omega)]
    · rw [evL_elim hl, h3 x, sumN, evL_pr]
      congr 1
      rw [wgt, E.mul_comm (pr (less pts (pts.getD j 0)) x), E.mul_comm (vals.getD j 0), E.mul_assoc, E.mul_assoc, E.mul_comm (vals.getD j 0)]
theorem wgt_off {pts : List E} (hn : pts.Nodup) {x : E} (hx : x ∉ pts) {j : Nat} (hj : j < pts.length) : pr pts x * E.inv ((x + pts.getD j 0) * pr (less pts (pts.getD j 0)) (pts.getD j 0)) = wgt pts x j := by
  have hg : pts.getD j 0 = pts[j] := by rw [List.getD_eq_getElem?_getD, List.getElem?_eq_getElem hj]; rfl
  have hmem : pts.getD j 0 ∈ pts := by rw [hg]; exact List.getElem_mem hj
  rw [wgt, pr_less hn hmem x]
  generalize pts.getD j 0 = a at *
  have h1 : x + a ≠ 0 := fun h => hx (by rw [E.add_eq_zero.1 h]; exact hmem)
  have h2 : pr (less pts a) a ≠ 0 := pr_ne (not_less _ _)
  have h3 : E.inv ((x + a) * pr (less pts a) a) = E.inv (x + a) * E.inv (pr (less pts a) a) := (E.inv_eq (by
    rw [E.mul_assoc, E.mul_left_comm (pr (less pts a) a), ← E.mul_assoc, E.mul_inv h1, E.one_mul, E.mul_inv h2])).symm
  rw [h3, E.mul_comm (x + a), E.mul_assoc, ← E.mul_assoc (x + a), E.mul_inv h1, E.one_mul]
theorem wgt_own {pts : List E} (hn : pts.Nodup) {i j : Nat} (hi : i < pts.length) (hj : j < pts.length) : wgt pts (pts.getD i 0) j = if j = i then 1 else 0 := by
  have hg : ∀ i (hi : i < pts.length), pts.getD i 0 = pts[i] := fun i hi => by rw [List.getD_eq_getElem?_getD, List.getElem?_eq_getElem hi]; rfl
  rw [wgt]
  by_cases e : j = i
  · subst e
    rw [if_pos rfl, E.mul_inv (pr_ne (not_less _ _))]
  · have hin : pts.getD i 0 ∈ less pts (pts.getD j 0) := by
      rw [less, List.mem_filter, hg i hi, hg j hj]
      refine ⟨List.getElem_mem hi, ?_⟩
      have : pts[i] ≠ pts[j] := fun h => e ((List.getElem_inj hn).1 h).symm
      simp [this]
    rw [if_neg e, pr_zero hin, E.zero_mul]
end Go.Proofs.Ytdoeelfcihdmbaa
/-
  Layer 5: the weights.
-/
namespace Go.Proofs.Ytdoeelfcihdmbaa
open Go.RowKit Gf
set_option maxRecDepth 20000
set_option linter.unusedVariables false

theorem less_yes {l : List E} {k : Nat} (hk : k < l.length) {a : E} (h : l[k] ≠ a) : less (l.take (k + 1)) a = less (l.take k) a ++ [l[k]] := by
  rw [← List.take_append_getElem hk, less, List.filter_append, List.filter_cons_of_pos (by simp [h]), List.filter_nil]; rfl
theorem less_no {l : List E} {k : Nat} (hk : k < l.length) {a : E} (h : l[k] = a) : less (l.take (k + 1)) a = less (l.take k) a := by
  rw [← List.take_append_getElem hk, less, List.filter_append, List.filter_cons_of_neg (by simp [h]), List.filter_nil, List.append_nil]; rfl
theorem ofXor {a b : Nat} (ha : a < 256) (hb : b < 256) : E.of (a ^^^ b) = E.of a + E.of b := E.ext (by
  show (E.of (a ^^^ b)).val = (E.of a).val ^^^ (E.of b).val
  rw [E.val_of (xor_lt ha hb), E.val_of ha, E.val_of hb])
theorem xorE {a b : Nat} (ha : a < 256) (hb : b < 256) : ((a ^^^ b : Nat) : Int) = ((E.of a + E.of b).val : Int) := by
  rw [← ofXor ha hb, E.val_of (xor_lt ha hb)]

def wrow (pts : List E) (m i : Nat) : List E := (List.range m).map fun j => wgt pts (E.of i) j
theorem wrow_length (pts : List E) (m i : Nat) : (wrow pts m i).length = m := by simp [wrow]
theorem wrow_get (pts : List E) (m i j : Nat) (h : j < (wrow pts m i).length) : (wrow pts m i)[j] = wgt pts (E.of i) j := by simp [wrow]
def rowsV (b m N : Nat) : List Value := (List.range N).map fun i => .slice (some ⟨b + i, 0, none⟩) m m
theorem rowsV_length (b m N : Nat) : (rowsV b m N).length = N := by simp [rowsV]
theorem rowsV_get (b m N i : Nat) (h : i < N) : (rowsV b m N)[i]? = some (.slice (some ⟨b + i, 0, none⟩) m m) := by simp [rowsV, h]
end Go.Proofs.Ytdoeelfcihdmbaa
/-
  Layer 5, plain: what is answered of rows.
-/
namespace Go.Proofs.Ytdoeelfcihdmbaa
open Go.RowKit Gf
set_option maxRecDepth 20000
set_option linter.unusedVariables false

end Go.Proofs.Ytdoeelfcihdmbaa
/-
  Layer 5: what mend.Mend holds while it goes through the columns.
-/
namespace Go.Proofs.Ytdoeelfcihdmbaa
open Go.RowKit Gf
set_option maxRecDepth 20000
set_option linter.unusedVariables false

end Go.Proofs.Ytdoeelfcihdmbaa
/-
  Layer 5, plain: how mend.Mend's memory goes on by a column.
-/
namespace Go.Proofs.Ytdoeelfcihdmbaa
open Go.RowKit Gf
set_option maxRecDepth 20000
set_option linter.unusedVariables false

end Go.Proofs.Ytdoeelfcihdmbaa
/-
  Layer 5: mend.Mend.
-/
namespace Go.Proofs.Ytdoeelfcihdmbaa
open Go.RowKit Gf
set_option maxRecDepth 20000
set_option linter.unusedVariables false

/-- The rows that are answered: each of its own, no two of one block. -/
structure RowsOut (w : World) (B : Nat) (v : Value) (rs : List (List E)) : Prop where
  vals : ∃ V : List Value, Own w B 24 v V ∧ V.length = rs.length ∧ (∀ i u, V[i]? = some u → Own w B 5 u (bs (rs.getD i []))) ∧ FarApart V
end Go.Proofs.Ytdoeelfcihdmbaa
/-
  Layer 5: what the document's Mend holds while it goes through the columns.
-/
namespace Go.Proofs.Ytdoeelfcihdmbaa
open Go.RowKit Gf
set_option maxRecDepth 20000
set_option linter.unusedVariables false

theorem ne_some {a : Option Nat} {g : Nat} (h : a = none ∨ a ≠ some g) : a ≠ some g := by
  rcases h with h | h
  · rw [h]; simp
  · exact h
section
variable {W1 wr wa w2 : World} {N : Nat} {V : List Value} {R : Nat → List E} {M : List Bool}
end
end Go.Proofs.Ytdoeelfcihdmbaa
/-
  Layer 5: the document's Mend.
-/
namespace Go.Proofs.Ytdoeelfcihdmbaa
open Go.RowKit Gf
set_option maxRecDepth 20000
set_option linter.unusedVariables false

end Go.Proofs.Ytdoeelfcihdmbaa
/-
  The walks of the laws' own helpers of chapter 5: sameBytes, sameRows, lent, kept.
-/
namespace Go.Proofs.Ytdoeelfcihdmbaa
open Go.RowKit Gf
set_option maxRecDepth 20000
set_option linter.unusedVariables false

end Go.Proofs.Ytdoeelfcihdmbaa
/-
  Layer 5: what is known of Mend's answer, for the laws.
-/
namespace Go.Proofs.Ytdoeelfcihdmbaa
open Go.RowKit Gf
set_option maxRecDepth 20000
set_option linter.unusedVariables false

theorem RowsOut.rd {w : World} {B : Nat} {v : Value} {rs : List (List E)} (h : RowsOut w B v rs) : ∃ A c, v = .slice A rs.length c ∧ RdRows w A rs ∧ rs.length ≤ c ∧ c ≤ maxLen := by
  obtain ⟨V, ho, hl, hr, -⟩ := h.vals
  obtain ⟨A, c, rfl, h1, h2, h3, -⟩ := ho.slice
  rw [hl] at h2 ⊢
  refine ⟨A, c, rfl, ⟨V, hl, h1, fun i r hi => ?_⟩, h2, h3⟩
  have hlt : i < V.length := by rw [hl]; exact (List.getElem?_eq_some_iff.1 hi).1
  have h4 := hr i V[i] (List.getElem?_eq_getElem hlt)
  rw [List.getD_eq_getElem?_getD, hi, Option.getD_some] at h4
  obtain ⟨A', c', hv, k1, k2, k3, -⟩ := h4.slice
  rw [bs_length] at hv k2
  exact ⟨A', c', by rw [List.getElem?_eq_getElem hlt, hv], k1, k2, k3⟩
end Go.Proofs.Ytdoeelfcihdmbaa
