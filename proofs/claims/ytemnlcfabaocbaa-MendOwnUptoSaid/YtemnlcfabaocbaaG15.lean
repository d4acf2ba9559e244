/-
  Texts of mine, merged: FarP PushF MixG FarW.
-/
import Derived.Test.YtemnlcfabaocbaaG5
import Derived.Test.YtemnlcfabaocbaaG6
import Derived.Test.YtemnlcfabaocbaaG14
import Derived.Deep.DeepCutAuto
/-
  Layer 5, plain: rows of the code made of data that differ, differ at more places than there are rows of parity.
-/
namespace Go.Proofs.Ytemnlcfabaocbaa
open Go.RowKit Gf
set_option maxRecDepth 20000
set_option linter.unusedVariables false

theorem enc_poly2 {N n L : Nat} {Z : List (List E)} (hZ : Z.length = N) (hN : N ≤ 256) {c : Nat} (hc : c < L) : ∃ p : List E, p.length = N ∧ (∀ i, i < n → ((encM N n L Z).getD i []).getD c 0 = evL p (E.of i)) ∧ ∀ i, i < N → evL p (E.of i) = (Z.getD i []).getD c 0 := by
  have hpn : (ptsK N).Nodup := ptsK_nodup hN
  obtain ⟨f, f1, f2, f3⟩ := lagrange hpn (Z.map fun r => r.getD c 0) (ptsK N).length (Nat.le_refl _)
  rw [ptsK_length] at f1 f2 f3
  have e4 : ∀ t, t < N → (Z.getD t []).getD c 0 = (Z.map fun r => r.getD c 0).getD t 0 := fun t ht => by
    rw [List.getD_eq_getElem?_getD (l := Z), List.getElem?_eq_getElem (by omega), Option.getD_some, List.getD_eq_getElem?_getD (l := Z.map _), List.getElem?_map, List.getElem?_eq_getElem (by omega)]; rfl
  refine ⟨f, f1, fun i hi => ?_, fun i hi => ?_⟩
  · have e1 : (encM N n L Z).getD i [] = prodRow (wrow (ptsK N) N i) Z L N := by
      rw [List.getD_eq_getElem?_getD, encM, prodM, List.getElem?_map, codeR_get hi, hZ]; rfl
    rw [e1, List.getD_eq_getElem?_getD, prodRow_get _ _ _ _ _ hc, Option.getD_some, f3]
    apply sumN_congr
    intro t ht
    have e3 : (wrow (ptsK N) N i).getD t 0 = wgt (ptsK N) (E.of i) t := by
      rw [List.getD_eq_getElem?_getD, List.getElem?_eq_getElem (by rw [wrow_length]; exact ht), wrow_get]; rfl
    rw [e3, e4 t ht]
  · have := f2 i hi
    rw [ptsK_getD hi, if_pos hi] at this
    rw [this, e4 i hi]
/-- Where rows differ. -/
def diffB (A B : List (List E)) (i : Nat) : Bool := !eqB (A.getD i []) (B.getD i [])
theorem far_rows {N n L : Nat} {Y Z : List (List E)} (hY : Y.length = N) (hZ : Z.length = N) (hYr : ∀ r ∈ Y, r.length = L) (hZr : ∀ r ∈ Z, r.length = L) (hNn : N ≤ n) (hn : n ≤ 255) (hd : othN (diffB (encM N n L Y) (encM N n L Z)) n + N ≤ n) : Y = Z := by
  obtain ⟨b, hb⟩ : ∃ b, b = diffB (encM N n L Y) (encM N n L Z) := ⟨_, rfl⟩
  rw [← hb] at hd
  have hs := filter_split b (List.range n)
  rw [List.length_range] at hs
  rw [othN] at hd
  obtain ⟨xs, hxs⟩ : ∃ xs, xs = ((List.range n).filter fun i => !b i).map E.of := ⟨_, rfl⟩
  have hxn : xs.Nodup := by
    rw [hxs]
    exact pts_nodup (List.nodup_range.filter _) fun i hi => by have := List.mem_range.1 (List.mem_filter.1 hi).1; omega
  have hxl : N ≤ xs.length := by rw [hxs, List.length_map]; omega
  apply List.ext_getElem (by omega)
  intro i h1 h2
  have hYi := hYr _ (List.getElem_mem h1)
  have hZi := hZr _ (List.getElem_mem h2)
  apply List.ext_getElem (by omega)
  intro c hc1 hc2
  have hcL : c < L := by omega
  obtain ⟨p, p1, p2, p3⟩ := enc_poly2 (n := n) hY (by omega) hcL
  obtain ⟨q, q1, q2, q3⟩ := enc_poly2 (n := n) hZ (by omega) hcL
  have hz : ser (plusL p q) = S.zero := by
    refine few_roots N (plusL p q) xs ?_ hxn hxl fun x hx => ?_
    · intro j hj
      rw [ser_plusL]
      show ser p j + ser q j = 0
      rw [ser_out p j (by omega), ser_out q j (by omega)]; rfl
    · rw [hxs] at hx
      obtain ⟨j, hj, rfl⟩ := List.mem_map.1 hx
      obtain ⟨hj1, hj2⟩ := List.mem_filter.1 hj
      have hj1 := List.mem_range.1 hj1
      rw [evL_plus, ← p2 j hj1, ← q2 j hj1]
      have he : (encM N n L Y).getD j [] = (encM N n L Z).getD j [] := by
        rw [hb, diffB, Bool.not_not, eqB] at hj2
        exact of_decide_eq_true hj2
      rw [he]
      exact E.add_eq_zero.2 rfl
  have hi : i < N := by omega
  have e1 := p3 i hi
  have e2 := q3 i hi
  have e3 : evL (plusL p q) (E.of i) = 0 := by
    rw [evL_ser (b := []) (by rw [hz]; rfl)]; rfl
  rw [evL_plus] at e3
  have e4 := E.add_eq_zero.1 e3
  rw [e1, e2, List.getD_eq_getElem?_getD (l := Y), List.getElem?_eq_getElem h1, Option.getD_some, List.getD_eq_getElem?_getD (l := Z), List.getElem?_eq_getElem h2, Option.getD_some, List.getD_eq_getElem?_getD, List.getElem?_eq_getElem hc1, Option.getD_some, List.getD_eq_getElem?_getD, List.getElem?_eq_getElem hc2, Option.getD_some] at e4
  exact e4
theorem diff_none (A : List (List E)) (n : Nat) : othN (diffB A A) n = 0 := by
  rw [othN, List.length_eq_zero_iff, List.filter_eq_nil_iff]
  intro i _
  rw [diffB, eqB_true rfl]; simp
end Go.Proofs.Ytemnlcfabaocbaa
/-
  append of one element onto a list without room behind (s[:n:n]): it is copied to new memory, what it was stays.
-/
namespace Go.Proofs.Ytemnlcfabaocbaa
open Go.RowKit Gf
set_option linter.unusedVariables false

section
variable {P : Program} (w : World)
theorem run_appFull {t e : TypeId} {z : Value} {bytes : Nat} (E : Elt P t e z bytes) (ty : TypeId) (A0 : Option Addr) (n : Nat) (xs : List Value) (hr0 : Rd w A0 xs) (hn : xs.length = n) (hA0 : A0 = none → n = 0)
    (ad : Addr) (m c : Nat) (news : List Value) (hr : Rd w (some ad) news) (hm : news.length = m) (hm0 : 0 < m)
    (hbytes : (n + m) * bytes ≤ 140737488355328) :
    ∃ v' w', (Builtin.append_ #[t, t] ty #[.slice A0 n n, .slice (some ad) m c]).run P w = .ok v' w' ∧ Own w' w.heap.size e v' (xs ++ news) ∧ Ext w w' := by
  obtain ⟨i, hi, hz, hsz, hby⟩ := E.info
  have hzs : z.cells.size = i.size := by rw [E.cells, hsz]; rfl
  have hle : n + m ≤ 140737488355328 := Nat.le_trans (Nat.le_mul_of_pos_right _ E.pos) hbytes
  have hl : news.length = m * i.size := by rw [hsz, Nat.mul_one, hm]
  have hbytes' : (n + m) * i.bytes ≤ 140737488355328 := by rw [hby]; exact hbytes
  have hnews : ∀ j u, news[j]? = some u → w.cell? (ad.add j) = some u := by
    intro j u hu
    obtain ⟨ad', h, hc⟩ := hr (by have := (List.getElem?_eq_some_iff.1 hu).1; omega)
    injection h with h
    subst h
    exact hc j u hu
  have grown : ∀ (old : Nat), old < n + m →
      Own (w.drew.alloc (.cells (xs.toArray ++ news.toArray ++ Builtin.zeroCells z.cells (grownCap w (n + m) old e - (n + m))) e)) w.heap.size e
        (.slice (some ⟨w.heap.size, 0, none⟩) (n + m) (grownCap w (n + m) old e)) (xs ++ news) ∧
      Ext w (w.drew.alloc (.cells (xs.toArray ++ news.toArray ++ Builtin.zeroCells z.cells (grownCap w (n + m) old e - (n + m))) e)) := by
    intro old ho
    have hge := grownCap_ge w (n + m) old e
    have hcm : grownCap w (n + m) old e ≤ maxLen := grownCap_le_maxLen w (n + m) old e (by simp only [maxLen]; omega)
    have hxl : (xs ++ news).length = n + m := by rw [List.length_append, hm, hn]
    refine ⟨⟨by omega, .inr ⟨w.heap.size, _, _, by rw [hxl], Nat.le_refl _, heap_alloc_new w.drew _, by omega, hcm, ?_, ?_⟩⟩, ((Ext.refl w).drewN 1).alloc _⟩
    · simp only [Array.size_append, List.size_toArray, size_zeroCells, hzs, hsz, hm, hn]
      omega
    · simp only [Array.toList_append, List.append_assoc, Nat.mul_one]
      rw [← List.append_assoc]
      exact List.take_left
  rcases A0 with _ | ad0
  · have hn0 := hA0 rfl
    subst hn0
    obtain rfl : xs = [] := List.eq_nil_of_length_eq_zero hn
    simp only [Nat.zero_add] at hle hbytes' grown
    have hr' := run_append_nil (P := P) w t ty e i z E.ty hi hz ad m c news hl hnews (by omega) (by omega) (by omega)
    have hgr := grown 0 (by omega)
    simp only [List.nil_append, Array.empty_append] at hgr ⊢
    exact ⟨_, _, hr', hgr.1, hgr.2⟩
  · have holds : ∀ j u, xs[j]? = some u → w.cell? (ad0.add j) = some u := by
      intro j u hu
      obtain ⟨ad', h, hc⟩ := hr0 (by have := (List.getElem?_eq_some_iff.1 hu).1; omega)
      injection h with h
      subst h
      exact hc j u hu
    have hr' := run_append_grow (P := P) w t ty e i z E.ty hi hz ad0 n n xs (by rw [hsz]; omega) holds ad m c news hl hnews (by omega) (by omega) (growslice_fits (by omega) hbytes')
    have hgr := grown n (by omega)
    exact ⟨_, _, hr', hgr.1, hgr.2⟩
theorem wpList_pushFull {t e : TypeId} {z : Value} {bytes : Nat} (E : Elt P t e z bytes) {ops : Array Oper} {rest : List Oper} {o : Oper} {a : Act} {Q : Exit → Act → World → Prop} (hgd : o.guard = none) (s x : Operand)
    (ho : o.op = .call { callee := .builtin .append, args := #[s, x], argTypes := #[t, t] })
    (A : Option Addr) (n : Nat) (xs : List Value) (hs : a.eval s = .slice A n n) (hr : Rd w A xs) (hn : xs.length = n) (hA : A = none → n = 0) (u : Value) (g : Nat) (hg : w.heap.size = g) (hx : a.eval x = .slice (some ⟨g, 0, none⟩) 1 1)
    (hbytes : (n + 1) * bytes ≤ 140737488355328)
    (h : ∀ v' w', Own w' w.heap.size e v' (xs ++ [u]) → Ext w w' → wpList P ops Q rest (a.put o.dst v') w') :
    wpList P ops Q (o :: rest) a (w.alloc (.cells #[u] e)) := by
  subst hg
  obtain ⟨v', w', hrun, h2, h3⟩ := run_appFull (P := P) (w.alloc (.cells #[u] e)) E o.type A n xs (hr.ext ((Ext.refl w).alloc _)) hn hA _ 1 1 [u] (rd_new w u e) rfl (by omega) hbytes
  refine wpList_plain hgd fun _ hK => ?_
  unfold Oper.wp execOp
  simp only [ho, resolve, invoke, builtin, Sem.run_bind, Sem.run_pure, Result.andThen_ok, List.map_toArray, List.map_cons, List.map_nil, hs, hx, hrun]
  exact hK _ _ (h v' w' (h2.mono (by simp)) (((Ext.refl w).alloc _).trans h3))
end
/-- One row more. -/
theorem RdRows.snoc {w : World} {V : List Value} {rs : List (List E)} {B : Nat} {T : TypeId} {v : Value} {r : List E} (hV : V.length = rs.length) (hO : ∃ A, Rd w A (V ++ [v]))
    (h : ∀ (i : Nat) (r : List E), rs[i]? = some r → ∃ B c, V[i]? = some (.slice B r.length c) ∧ Rd w B (bs r) ∧ r.length ≤ c ∧ c ≤ maxLen) (hv : ∃ B c, v = .slice B r.length c ∧ Rd w B (bs r) ∧ r.length ≤ c ∧ c ≤ maxLen) :
    ∀ {A : Option Addr}, Rd w A (V ++ [v]) → RdRows w A (rs ++ [r]) := fun {A} hA => by
  refine ⟨V ++ [v], by simp [hV], hA, fun i x hi => ?_⟩
  rcases Nat.lt_trichotomy i rs.length with h1 | h1 | h1
  · rw [List.getElem?_append_left h1] at hi
    obtain ⟨B, c, k1, k2⟩ := h i x hi
    exact ⟨B, c, by rw [List.getElem?_append_left (by rw [hV]; exact h1)]; exact k1, k2⟩
  · subst h1
    rw [List.getElem?_append_right (Nat.le_refl _)] at hi
    simp at hi
    subst hi
    obtain ⟨B, c, k1, k2⟩ := hv
    exact ⟨B, c, by rw [← hV, List.getElem?_append_right (Nat.le_refl _), ← k1]; simp, k2⟩
  · rw [List.getElem?_eq_none (by simp; omega)] at hi; cases hi
end Go.Proofs.Ytemnlcfabaocbaa
/-
  Regions that draw their order, with operations under a guard that is met: as wp_region_mix.
-/
namespace Go.Proofs.Ytemnlcfabaocbaa
namespace Grd
open Go.RowKit
set_option linter.unusedVariables false
section
variable {P : Program} {ops : Array Oper} {C : World → Prop} {L : Nat → Nat} {Q : Act → World → Prop}
def mOp (P : Program) (ops : Array Oper) (C : World → Prop) (L : Nat → Nat) (i : Nat) (K : Act → World → Prop) (a : Act) (w : World) : Prop :=
  ∃ o, ops[i]? = some o ∧ Region.wanted o (yielded ops a.tmps) = true ∧ ((isQ (L i) ∧ ∃ v, still P (cls C (L i)) o a v ∧ K (a.put o.dst v) w) ∨ (¬ isQ (L i) ∧ loudly P o a w (fun u w' => (L i = 1 → C w') ∧ K (a.put o.dst u) w')))
theorem mOp_mono {i : Nat} {K K' : Act → World → Prop} {a : Act} {w : World} (h : mOp P ops C L i K a w) (hk : ∀ a w, K a w → K' a w) : mOp P ops C L i K' a w := by
  obtain ⟨o, ho, hg, ⟨hl, v, h1, h2⟩ | ⟨hl, h1⟩⟩ := h
  · exact ⟨o, ho, hg, .inl ⟨hl, v, h1, hk _ _ h2⟩⟩
  · exact ⟨o, ho, hg, .inr ⟨hl, h1.mono fun u w' ⟨h2, h3⟩ => ⟨h2, hk _ _ h3⟩⟩⟩
def wpM (P : Program) (ops : Array Oper) (C : World → Prop) (L : Nat → Nat) (Q : Act → World → Prop) : Nat → Array Bool → Act → World → Prop
  | 0, listed, a, w => Region.ready .any ops listed = [] ∧ Q a w
  | fuel + 1, listed, a, w => (Region.ready .any ops listed = [] → Q a w) ∧ ∀ i ∈ Region.ready .any ops listed, mOp P ops C L i (wpM P ops C L Q fuel (listed.setIfInBounds i true)) a w
structure Ordered (ops : Array Oper) (L : Nat → Nat) : Prop where
  last : ∀ (j : Nat), j < ops.size → ¬ isQ (L j) → L j ≠ 1 → ∀ i, i < ops.size → L i = 0 → reach ops ops.size j i = true
  prev : ∀ (j : Nat) (o : Oper), ops[j]? = some o → ¬ isQ (L j) → ∀ i, i < j → ¬ isQ (L i) → ∃ e ∈ o.after, Region.binds .any e = true ∧ i ≤ e.on ∧ e.on < j ∧ ¬ isQ (L e.on)
  sel : ∀ (j : Nat) (o : Oper) (cs : Array SelectCase) (b : Bool), ops[j]? = some o → o.op ≠ .select cs b

theorem first_still {i : Nat} {oi : Oper} {v : Value} (hO : Ordered ops L) (hi : ops[i]? = some oi) (hL : isQ (L i)) :
    ∀ (fuel : Nat) (listed : Array Bool) (a : Act) (w : World), listed.size = ops.size → Closed ops listed → (qleft ops L listed → C w) →
      (∀ j oj, ops[j]? = some oj → j ≠ i → listed.getD j true = false → (∀ e ∈ oj.after, Region.binds .any e = true → e.on ≠ i) → oi.apart ops oj = true) →
      i ∈ Region.ready .any ops listed → Region.wanted oi (yielded ops a.tmps) = true → still P (cls C (L i)) oi a v →
      wpM P ops C L Q fuel (listed.setIfInBounds i true) (a.put oi.dst v) w → wpM P ops C L Q (fuel + 1) listed a w := by
  have his : i < ops.size := (Array.getElem?_eq_some_iff.1 hi).1
  intro fuel
  induction fuel with
  | zero =>
    intro listed a w hz hcl hC hfree hr hwi hy H
    refine ⟨fun h => (by rw [h] at hr; cases hr), fun j hj => ?_⟩
    by_cases hji : j = i
    · subst hji; exact ⟨oi, hi, hwi, .inl ⟨hL, v, hy, H⟩⟩
    · have := ready_mono hj hji
      rw [H.1] at this
      cases this
  | succ fuel ih =>
    intro listed a w hz hcl hC hfree hr hwi hy H
    refine ⟨fun h => (by rw [h] at hr; cases hr), fun j hj => ?_⟩
    by_cases hji : j = i
    · subst hji; exact ⟨oi, hi, hwi, .inl ⟨hL, v, hy, H⟩⟩
    · obtain ⟨oj, hoj, hgj, hcase⟩ := H.2 j (ready_mono hj hji)
      have hun := (mem_ready.1 hr).1
      have hjun := (mem_ready.1 hj).1
      have hnot : ∀ e ∈ oj.after, Region.binds .any e = true → e.on ≠ i := fun e he hb heq => not_ready hoj ⟨e, he, hb, heq⟩ his hz hun hj
      obtain ⟨h1, h2, h3⟩ := Oper.apart_spec (hfree j oj hoj hji hjun hnot)
      have hsi := hO.sel i oi
      have hsj := hO.sel j oj
      have keep : ∀ u, still P (cls C (L i)) oi (a.put oj.dst u) v := fun u w hw => by rw [execOp_put oi (fun cs b => hsi cs b hi) a oj.dst u h3]; exact hy w hw
      have eqj : execOp a.eval oj = execOp (a.put oi.dst v).eval oj := (execOp_put oj (fun cs b => hsj cs b hoj) a oi.dst v h1).symm
      have hgj' : Region.wanted oj (yielded ops a.tmps) = true := by rw [← wanted_put oj a oi.dst v h1]; exact hgj
      have hwi' : ∀ u, Region.wanted oi (yielded ops (a.put oj.dst u).tmps) = true := fun u => by rw [wanted_put oi a oj.dst u h3]; exact hwi
      have hfree' : ∀ k ok, ops[k]? = some ok → k ≠ i → (listed.setIfInBounds j true).getD k true = false → (∀ e ∈ ok.after, Region.binds .any e = true → e.on ≠ i) → oi.apart ops ok = true := fun k ok hk hki hunk hno => by
        refine hfree k ok hk hki ?_ hno
        by_cases hjk : j = k
        · subst hjk; exact hjun
        · rwa [getD_set_ne true hjk] at hunk
      have hz' : (listed.setIfInBounds j true).size = ops.size := by simpa using hz
      have hr' := ready_mono hr (Ne.symm hji)
      rcases hcase with ⟨hl, u, hu, hn⟩ | ⟨hl, hn⟩
      · refine ⟨oj, hoj, hgj', .inl ⟨hl, u, fun w' hw' => by rw [eqj]; exact hu w' hw', ?_⟩⟩
        refine ih (listed.setIfInBounds j true) (a.put oj.dst u) w hz' (hcl.set hj) (fun h => hC (qleft_set h)) hfree' hr' (hwi' u) (keep u) ?_
        rw [Array.setIfInBounds_comm _ _ hji, ← Act.put_comm a v u h2]
        exact hn
      · have hjs : j < ops.size := (Array.getElem?_eq_some_iff.1 hoj).1
        refine ⟨oj, hoj, hgj', .inr ⟨hl, (loudly.of_same hn eqj).mono fun u w' ⟨hc, hn⟩ => ⟨hc, ?_⟩⟩⟩
        refine ih (listed.setIfInBounds j true) (a.put oj.dst u) w' hz' (hcl.set hj) (fun hq => ?_) hfree' hr' (hwi' u) (keep u) ?_
        · by_cases hl1 : L j = 1
          · exact hc hl1
          · obtain ⟨q, hq1, hq2, hq3⟩ := qleft_set hq
            exact (listed_both (by omega) (hcl.ready hj (hO.last j hjs hl hl1 q hq1 hq3)) hq2).elim
        · rw [Array.setIfInBounds_comm _ _ hji, ← Act.put_comm a v u h2]
          exact hn

theorem first_loud {i : Nat} {oi : Oper} (hO : Ordered ops L) (hi : ops[i]? = some oi) (hL : ¬ isQ (L i)) :
    ∀ (fuel : Nat) (listed : Array Bool) (a : Act) (w : World), listed.size = ops.size → Closed ops listed → (qleft ops L listed → C w) →
      (∀ j oj, ops[j]? = some oj → j ≠ i → listed.getD j true = false → (∀ e ∈ oj.after, Region.binds .any e = true → e.on ≠ i) → oi.apart ops oj = true) →
      (∀ j, j < i → ¬ isQ (L j) → listed.getD j true = true) → (∀ j, i ≤ j → j < ops.size → ¬ isQ (L j) → listed.getD j true = false) →
      i ∈ Region.ready .any ops listed →
      mOp P ops C L i (wpM P ops C L Q fuel (listed.setIfInBounds i true)) a w → wpM P ops C L Q (fuel + 1) listed a w := by
  have his : i < ops.size := (Array.getElem?_eq_some_iff.1 hi).1
  have quiet : ∀ (listed : Array Bool) (j : Nat), listed.size = ops.size → (∀ j, j < i → ¬ isQ (L j) → listed.getD j true = true) → (∀ j, i ≤ j → j < ops.size → ¬ isQ (L j) → listed.getD j true = false) →
      j ∈ Region.ready .any ops listed → j ≠ i → isQ (L j) := by
    intro listed j hz hlo hhi hj hji
    by_cases hz0 : isQ (L j)
    · exact hz0
    · exfalso
      obtain ⟨hun, oj, hoj, _⟩ := mem_ready.1 hj
      rcases Nat.lt_or_ge j i with h | h
      · rw [hlo j h hz0] at hun; cases hun
      · obtain ⟨e, he, hb, h1, h2, h3⟩ := hO.prev j oj hoj hz0 i (by omega) hL
        have hjs : j < ops.size := (Array.getElem?_eq_some_iff.1 hoj).1
        exact not_ready hoj ⟨e, he, hb, rfl⟩ (by omega) hz (hhi e.on h1 (by omega) h3) hj
  intro fuel
  induction fuel with
  | zero =>
    intro listed a w hz hcl hC hfree hlo hhi hr H
    refine ⟨fun h => (by rw [h] at hr; cases hr), fun j hj => ?_⟩
    by_cases hji : j = i
    · subst hji; exact H
    · have h1 := ready_mono hj hji
      obtain ⟨o, ho, hg, ⟨hl, _⟩ | ⟨hl, hn⟩⟩ := H
      · exact absurd hl hL
      · obtain ⟨u, w', _, hk⟩ := hn.some
        rw [hk.1] at h1
        cases h1
  | succ fuel ih =>
    intro listed a w hz hcl hC hfree hlo hhi hr H
    refine ⟨fun h => (by rw [h] at hr; cases hr), fun j hj => ?_⟩
    by_cases hji : j = i
    · subst hji; exact H
    · have hq := quiet listed j hz hlo hhi hj hji
      obtain ⟨hjun, oj, hoj, _⟩ := mem_ready.1 hj
      have hun := (mem_ready.1 hr).1
      have hjs : j < ops.size := (Array.getElem?_eq_some_iff.1 hoj).1
      have hCw : cls C (L j) w := fun h0 => hC ⟨j, hjs, hjun, h0⟩
      have hnot : ∀ e ∈ oj.after, Region.binds .any e = true → e.on ≠ i := fun e he hb heq => not_ready hoj ⟨e, he, hb, heq⟩ his hz hun hj
      obtain ⟨h1, h2, h3⟩ := Oper.apart_spec (hfree j oj hoj hji hjun hnot)
      have hsi := hO.sel i oi
      have hsj := hO.sel j oj
      have eqj : ∀ u, execOp (a.put oi.dst u).eval oj = execOp a.eval oj := fun u => execOp_put oj (fun cs b => hsj cs b hoj) a oi.dst u h1
      have eqi : ∀ u, execOp (a.put oj.dst u).eval oi = execOp a.eval oi := fun u => execOp_put oi (fun cs b => hsi cs b hi) a oj.dst u h3
      have hjr : j ∈ Region.ready .any ops (listed.setIfInBounds i true) := ready_mono hj hji
      obtain ⟨o, ho, hg, ⟨hl, _⟩ | ⟨hl, hn⟩⟩ := H
      · exact absurd hl hL
      · rw [hi] at ho
        injection ho with ho
        subst ho
        -- what j reads, whatever i came to
        have pick : ∀ u w', wpM P ops C L Q (fuel + 1) (listed.setIfInBounds i true) (a.put oi.dst u) w' → ∃ v, Region.wanted oj (yielded ops a.tmps) = true ∧ still P (cls C (L j)) oj a v ∧ wpM P ops C L Q fuel ((listed.setIfInBounds i true).setIfInBounds j true) ((a.put oi.dst u).put oj.dst v) w' := fun u w' hk => by
          obtain ⟨o', ho', hw', ⟨_, v, hv, hk'⟩ | ⟨hl', _⟩⟩ := hk.2 j hjr
          · rw [hoj] at ho'
            injection ho' with ho'
            subst ho'
            exact ⟨v, by rw [← wanted_put oj a oi.dst u h1]; exact hw', fun w'' hw'' => by rw [← eqj u]; exact hv w'' hw'', hk'⟩
          · exact absurd hq hl'
        obtain ⟨u1, w1, _, hk1⟩ := hn.some
        obtain ⟨v, hwj, hv, _⟩ := pick u1 w1 hk1
        refine ⟨oj, hoj, hwj, .inl ⟨hq, v, hv, ?_⟩⟩
        have hz' : (listed.setIfInBounds j true).size = ops.size := by simpa using hz
        refine ih (listed.setIfInBounds j true) (a.put oj.dst v) w hz' (hcl.set hj) (fun h => hC (qleft_set h)) ?_ ?_ ?_ (ready_mono hr (Ne.symm hji)) ⟨oi, hi, by rw [wanted_put oi a oj.dst v h3]; exact hg, .inr ⟨hl, ?_⟩⟩
        · intro k ok hk hki hunk hno
          refine hfree k ok hk hki ?_ hno
          by_cases hjk : j = k
          · subst hjk; exact hjun
          · rwa [getD_set_ne true hjk] at hunk
        · intro k hk hlk
          have hjk : j ≠ k := fun e => by subst e; exact hlk hq
          rw [getD_set_ne true hjk]
          exact hlo k hk hlk
        · intro k hk hks hlk
          have hjk : j ≠ k := fun e => by subst e; exact hlk hq
          rw [getD_set_ne true hjk]
          exact hhi k hk hks hlk
        · refine (loudly.of_same hn (eqi v)).mono fun u w' ⟨hc, hk⟩ => ⟨hc, ?_⟩
          obtain ⟨v', _, hv', hk'⟩ := pick u w' hk
          have e : v' = v := by
            have e1 := hv w hCw
            rw [hv' w hCw] at e1
            injection e1 with e1
            injection e1
          subst e
          rw [Array.setIfInBounds_comm _ _ hji, ← Act.put_comm a u v' (fun d hd => h2 d hd)]
          exact hk'

def orderedB (ops : Array Oper) (L : Nat → Nat) : Bool :=
  Region.noSelect ops &&
  (List.range ops.size).all (fun j => match ops[j]? with
    | none => true
    | some o => (decide (isQ (L j)) || decide (L j = 1) || (List.range ops.size).all (fun i => decide (L i ≠ 0) || reach ops ops.size j i)) &&
      (decide (isQ (L j)) || (List.range j).all (fun i => decide (isQ (L i)) || o.after.any (fun e => Region.binds .any e && decide (i ≤ e.on) && decide (e.on < j) && decide (¬ isQ (L e.on))))))
theorem ordered_of (h : orderedB ops L = true) : Ordered ops L := by
  simp only [orderedB, Bool.and_eq_true, List.all_eq_true, List.mem_range] at h
  obtain ⟨hs, hj⟩ := h
  have at_ : ∀ (j : Nat) (o : Oper), ops[j]? = some o → j < ops.size := fun j o ho => (Array.getElem?_eq_some_iff.1 ho).1
  refine ⟨fun j hjs hl hl1 i hi hli => ?_, fun j o ho hl i hi hli => ?_, fun j o cs b ho => Region.noSelect_spec hs j o cs b ho⟩
  · have := hj j hjs
    rw [Array.getElem?_eq_getElem hjs] at this
    simp only [Bool.and_eq_true, Bool.or_eq_true, decide_eq_true_eq, List.all_eq_true, List.mem_range] at this
    rcases this.1 with (h1 | h1) | h1
    · exact absurd h1 hl
    · exact absurd h1 hl1
    · rcases h1 i hi with h2 | h2
      · exact absurd hli h2
      · exact h2
  · have := hj j (at_ j o ho)
    rw [ho] at this
    simp only [Bool.and_eq_true, Bool.or_eq_true, decide_eq_true_eq, List.all_eq_true, List.mem_range] at this
    rcases this.2 with h1 | h1
    · exact absurd h1 hl
    · rcases h1 i hi with h2 | h2
      · exact absurd h2 hli
      · obtain ⟨e, he, hb⟩ := Array.any_eq_true'.1 h2
        simp only [Bool.and_eq_true, decide_eq_true_eq] at hb
        exact ⟨e, he, hb.1.1.1, hb.1.1.2, hb.1.2, hb.2⟩
/-- The walk of the text's order. -/
def wpMix (P : Program) (ops : Array Oper) (C : World → Prop) (L : Nat → Nat) (Q : Act → World → Prop) : Nat → List Oper → Act → World → Prop
  | _, [], a, w => Q a w
  | k, o :: rest, a, w => Region.wanted o (yielded ops a.tmps) = true ∧ ((isQ (L k) ∧ ∃ v, still P (cls C (L k)) o a v ∧ wpMix P ops C L Q (k + 1) rest (a.put o.dst v) w) ∨
      (¬ isQ (L k) ∧ loudly P o a w (fun u w' => (L k = 1 → C w') ∧ wpMix P ops C L Q (k + 1) rest (a.put o.dst u) w')))
theorem no_qleft (hO : Ordered ops L) {listed : Array Bool} {k : Nat} (hz : listed.size = ops.size) (hcl : Closed ops listed) (hr : k ∈ Region.ready .any ops listed) (hk : ¬ isQ (L k)) (hk1 : L k ≠ 1) : ¬ qleft ops L listed := by
  rintro ⟨j, hj, hun, hq⟩
  obtain ⟨_, o, ho, _⟩ := mem_ready.1 hr
  exact listed_both (by omega) (hcl.ready hr (hO.last k (Array.getElem?_eq_some_iff.1 ho).1 hk hk1 j hj hq)) hun
theorem wpM_lex (hO : Ordered ops L) : ∀ (l : List Oper) (k : Nat) (listed : Array Bool) (a : Act) (w : World), (∀ j, l[j]? = ops[k + j]?) → Region.lexFrom .any ops l.length k listed = true → listed.size = ops.size → Closed ops listed →
    (∀ j, j < k → j < ops.size → listed.getD j true = true) → (∀ j, k ≤ j → j < ops.size → listed.getD j true = false) → (qleft ops L listed → C w) →
    wpMix P ops C L Q k l a w → wpM P ops C L Q l.length listed a w
  | [], _, _, _, _, _, hB, _, _, _, _, _, h => ⟨by simpa [Region.lexFrom] using hB, h⟩
  | o :: l, k, listed, a, w, hl, hB, hz, hcl, hlo, hhi, hC, h => by
    have h0 : ops[k]? = some o := by simpa using (hl 0).symm
    have hks : k < ops.size := (Array.getElem?_eq_some_iff.1 h0).1
    simp only [List.length_cons, Region.lexFrom, Bool.and_eq_true] at hB
    obtain ⟨⟨hr, hf⟩, hB'⟩ := hB
    have hr : k ∈ Region.ready .any ops listed := by simpa using hr
    have hfree := Region.free_spec h0 hf
    have hl' : ∀ j, l[j]? = ops[k + 1 + j]? := fun j => by have := hl (j + 1); simpa [Nat.add_assoc, Nat.add_comm 1 j] using this
    have hz' : (listed.setIfInBounds k true).size = ops.size := by simpa using hz
    have hlo' : ∀ j, j < k + 1 → j < ops.size → (listed.setIfInBounds k true).getD j true = true := fun j hj hjs => by
      by_cases e : k = j
      · subst e; simp [Array.getD, hz, hks]
      · rw [getD_set_ne true e]; exact hlo j (by omega) hjs
    have hhi' : ∀ j, k + 1 ≤ j → j < ops.size → (listed.setIfInBounds k true).getD j true = false := fun j hj hjs => by
      rw [getD_set_ne true (by omega)]; exact hhi j (by omega) hjs
    obtain ⟨hw, h⟩ := h
    rcases h with ⟨hL, v, hv, hn⟩ | ⟨hL, hn⟩
    · exact first_still hO h0 hL l.length listed a w hz hcl hC hfree hr hw hv (wpM_lex hO l (k + 1) _ _ w hl' hB' hz' (hcl.set hr) hlo' hhi' (fun h => hC (qleft_set h)) hn)
    · refine first_loud hO h0 hL l.length listed a w hz hcl hC hfree (fun j hj _ => ?_) (fun j hj hjs _ => hhi j hj hjs) hr ⟨o, h0, hw, .inr ⟨hL, hn.mono fun u w' ⟨hc, hn'⟩ => ⟨hc, ?_⟩⟩⟩
      · exact hlo j hj (by omega)
      · refine wpM_lex hO l (k + 1) _ _ w' hl' hB' hz' (hcl.set hr) hlo' hhi' (fun h => ?_) hn'
        by_cases h2 : L k = 1
        · exact hc h2
        · exact absurd (qleft_set h) (no_qleft hO hz hcl hr hL h2)
theorem any_of_M (hO : Ordered ops L) {Q' : Exit → Act → World → Prop} (hQ : ∀ a w, Q a w → Q' .normal a w) : ∀ (fuel : Nat) (listed : Array Bool) (a : Act) (w : World), listed.size = ops.size → Closed ops listed → (qleft ops L listed → C w) →
    wpM P ops C L Q fuel listed a w → wpAny P .any ops Q' fuel listed a w
  | 0, _, _, _, _, _, _, h => ⟨h.1, hQ _ _ h.2⟩
  | fuel + 1, listed, a, w, hz, hcl, hC, h => by
    refine ⟨fun h0 => hQ _ _ (h.1 h0), fun i hi => ?_⟩
    obtain ⟨o, ho, hg, hcase⟩ := h.2 i hi
    unfold wpOp
    simp only [ho, hg, if_true]
    have hz' : (listed.setIfInBounds i true).size = ops.size := by simpa using hz
    rcases hcase with ⟨hL, v, hv, hn⟩ | ⟨hL, hn⟩
    · have his : i < ops.size := (Array.getElem?_eq_some_iff.1 ho).1
      have hun := (mem_ready.1 hi).1
      refine .inl ?_
      unfold Oper.wp
      rw [hv w (fun h0 => hC ⟨i, his, hun, h0⟩)]
      exact any_of_M hO hQ fuel _ _ w hz' (hcl.set hi) (fun h => hC (qleft_set h)) hn
    · refine .inl ((hn.mono fun u w' ⟨hc, hn'⟩ => ?_ : loudly P o a w (fun u w' => wpAny P .any ops Q' fuel (listed.setIfInBounds i true) (a.put o.dst u) w')).wp)
      refine any_of_M hO hQ fuel _ _ w' hz' (hcl.set hi) (fun h => ?_) hn'
      by_cases h2 : L i = 1
      · exact hc h2
      · exact absurd (qleft_set h) (no_qleft hO hz hcl hi hL h2)
/-- THE REGION. -/
theorem wp_region_mix {id : Nat} {Q' : Exit → Act → World → Prop} {a : Act} {w : World} {l : List Oper} (L : Nat → Nat) (C : World → Prop) (hm : P.follows .mixedOrders = true) (hB : Region.lexB .any l.toArray = true) (hO : orderedB l.toArray L = true) (hC : C w.drew)
    (h : wpMix P l.toArray C L (fun a w => Q' .normal a w) 0 l a w.drew) : (Code.region id l.toArray true).wp P Q' a w := by
  simp only [Region.lexB, Bool.and_eq_true] at hB
  have hcl0 : Closed l.toArray (Array.replicate l.toArray.size false) := fun j o ho hj => by
    simp [Array.getD] at hj
  refine wp_region_any hm (any_of_M (ordered_of hO) (C := C) (Q := fun a w => Q' .normal a w) (fun _ _ h => h) _ _ _ _ (by simp) hcl0 (fun _ => hC) ?_)
  have := wpM_lex (ops := l.toArray) (P := P) (C := C) (Q := fun a w => Q' .normal a w) (ordered_of hO) l 0 (Array.replicate l.toArray.size false) a w.drew (by simp) (by simpa using hB.2) (by simp) hcl0 (by intro j hj; omega)
    (by intro j _ hj; simp at hj; simp [Array.getD, hj]) (fun _ => hC) h
  simpa using this
theorem mix_nil {k : Nat} {a : Act} {w : World} (h : Q a w) : wpMix P ops C L Q k [] a w := h
theorem mix_still {k : Nat} {o : Oper} {rest : List Oper} {a : Act} {w : World} (v : Value) (hL : L k = 0) (hg : Region.wanted o (yielded ops a.tmps) = true) (hv : ∀ w, C w → (execOp a.eval o).run P w = .ok (.value v) w) (h : wpMix P ops C L Q (k + 1) rest (a.put o.dst v) w) :
    wpMix P ops C L Q k (o :: rest) a w := ⟨hg, .inl ⟨.inl hL, v, fun w hw => hv w (hw hL), h⟩⟩
theorem mix_pure {k : Nat} {o : Oper} {rest : List Oper} {a : Act} {w : World} (v : Value) (hL : L k = 3) (hg : Region.wanted o (yielded ops a.tmps) = true) (hv : ∀ w, (execOp a.eval o).run P w = .ok (.value v) w) (h : wpMix P ops C L Q (k + 1) rest (a.put o.dst v) w) :
    wpMix P ops C L Q k (o :: rest) a w := ⟨hg, .inl ⟨.inr hL, v, fun w _ => hv w, h⟩⟩
theorem mix_call {k : Nat} {o : Oper} {rest : List Oper} {a : Act} {w : World} (f : FuncId) (args : Array Value) (hL : L k = 1) (hg : Region.wanted o (yielded ops a.tmps) = true) (hr : (execOp a.eval o).run P w = .ok (.enter f args) w)
    (h : Calls P f args w fun e w' => ∃ u, e = .returned u ∧ C w' ∧ wpMix P ops C L Q (k + 1) rest (a.put o.dst u) w') : wpMix P ops C L Q k (o :: rest) a w :=
  ⟨hg, .inr ⟨by unfold isQ; omega, .inr (.inr ⟨f, args, w, hr, h.mono fun e w' ⟨u, he, hc, hn⟩ => ⟨u, he, fun _ => hc, hn⟩⟩)⟩⟩
end
end Grd
end Go.Proofs.Ytemnlcfabaocbaa
/-
  Layer 5: the walk of the statement MendFar.
-/
namespace Go.Proofs.Ytemnlcfabaocbaa
open Go.RowKit Gf
set_option maxRecDepth 20000
set_option linter.unusedVariables false

theorem padded_n (A : Option Addr) (n c L : Nat) (r : List E) (w : World) (hn : r.length = n) (hr : Rd w A (bs r)) (hL : L ≤ 1048576) :
    Calls Try.prog 81 #[.slice A n c, .int .i64 (L : Int)] w fun e w' => ∃ g, e = .returned (.slice (some ⟨g, 0, none⟩) L L) ∧ Own w' w.heap.size 5 (.slice (some ⟨g, 0, none⟩) L L) (bs (padR L r)) ∧ Ext w w' := by
  have hmkL : ∀ w, (Instr.makeSlice 24 (.int .i64 (L : Int)) (.int .i64 (L : Int))).run Try.prog w = .ok (.slice (some ⟨w.heap.size, 0, none⟩) L L) (w.alloc (.cells (zrow (.int .u8 0) L) 5)) := fun w => run_make_elt eltU8 _ _ L (by omega) w
  have HR := Lib.hid (hr.ext ((Ext.refl w).alloc (.cells (zrow (.int .u8 0) L) 5)))
  have HN := Lib.hid hn
  clear hr hn
  go_enter Try.func81, Try.ntmps81
  go_wp2_with (with_reducible refine wpList_copyPad eltU8 rfl _ _ rfl w.heap.size L L 5 (Blk.new _ _ _) rfl A n c r rfl HR.out HN.out w.heap.size w (Below.alloc (Below.refl _ _) (Nat.le_refl _) _) (Nat.le_refl _) (by simp only [maxLen]; omega) ?_)
  intro w1 kk ho hbl
  have HO := Lib.hid ho
  have HX : Hid (Ext w w1) := Lib.hid hbl
  clear ho hbl
  go_wp2_with fail
  go_ret
  exact ⟨_, rfl, HO.out, HX.out⟩

theorem run_sliceFull (A : Option Addr) (n cap N : Nat) (h : N ≤ cap) (w : World) :
    (Instr.sliceAt 77 (.slice A n cap) none (some (.int .i64 (N : Int))) (some (.int .i64 (N : Int)))).run Try.prog w = .ok (.slice A N N) w := by
  have hN : (N : Int) ≤ (cap : Int) := by omega
  rcases A with _ | ad
  all_goals
    unfold Instr.sliceAt
    go_simp
/-- What is read lies in another block than g. -/
def RdO (g : Nat) (w : World) (A : Option Addr) (xs : List Value) : Prop := Rd w A xs ∧ (0 < xs.length → ∃ ad, A = some ad ∧ ad.block ≠ g)
section
variable {g : Nat} {w w' : World} {A : Option Addr} {xs : List Value}
theorem RdO.ext (h : RdO g w A xs) (hx : Ext w w') : RdO g w' A xs := ⟨h.1.ext hx, h.2⟩
theorem RdO.touch (h : RdO g w A xs) (ht : Touch (· = g) w w') : RdO g w' A xs := ⟨fun hn => by
  obtain ⟨ad, hA, hne⟩ := h.2 hn
  exact (h.1.touch ht fun ad' e => by rw [hA] at e; injection e with e; subst e; exact hne) hn, h.2⟩
theorem RdO.of_lt (h : Rd w A xs) (hg : w.heap.size ≤ g) : RdO g w A xs := ⟨h, fun hn => by
  obtain ⟨ad, e, hlt⟩ := h.lt hn
  exact ⟨ad, e, by omega⟩⟩
theorem RdO.own {B : Nat} {T : TypeId} {n c : Nat} (h : Own w B T (.slice A n c) xs) (hg : g < B) : RdO g w A xs := ⟨h.rd, fun hn => by
  obtain ⟨ad, e, _⟩ := h.rd hn
  refine ⟨ad, e, fun hb => ?_⟩
  rcases h.form with ⟨hv, _⟩ | ⟨g', cap, hv, hb', _⟩
  · injection hv with hv; rw [hv] at e; cases e
  · injection hv with hv
    rw [hv] at e
    injection e with e
    subst e
    simp only at hb
    omega⟩
end
/-- Rows that all lie in other blocks than g. -/
def RowsO (g : Nat) (w : World) (A : Option Addr) (rs : List (List E)) : Prop := ∃ V : List Value, V.length = rs.length ∧ RdO g w A V ∧ ∀ (i : Nat) (r : List E), rs[i]? = some r → ∃ B c, V[i]? = some (.slice B r.length c) ∧ RdO g w B (bs r) ∧ r.length ≤ c ∧ c ≤ maxLen
section
variable {g : Nat} {w w' : World} {A : Option Addr} {rs : List (List E)}
theorem RowsO.ext (h : RowsO g w A rs) (hx : Ext w w') : RowsO g w' A rs := by
  obtain ⟨V, h1, h2, h3⟩ := h
  exact ⟨V, h1, h2.ext hx, fun i r hi => by obtain ⟨B, c, k1, k2, k3⟩ := h3 i r hi; exact ⟨B, c, k1, k2.ext hx, k3⟩⟩
theorem RowsO.touch (h : RowsO g w A rs) (ht : Touch (· = g) w w') : RowsO g w' A rs := by
  obtain ⟨V, h1, h2, h3⟩ := h
  exact ⟨V, h1, h2.touch ht, fun i r hi => by obtain ⟨B, c, k1, k2, k3⟩ := h3 i r hi; exact ⟨B, c, k1, k2.touch ht, k3⟩⟩
theorem RowsO.of_lt (h : RdRows w A rs) (hg : w.heap.size ≤ g) : RowsO g w A rs := by
  obtain ⟨V, h1, h2, h3⟩ := h
  exact ⟨V, h1, RdO.of_lt h2 hg, fun i r hi => by obtain ⟨B, c, k1, k2, k3⟩ := h3 i r hi; exact ⟨B, c, k1, RdO.of_lt k2 hg, k3⟩⟩
theorem RowsO.rd (h : RowsO g w A rs) : RdRows w A rs := by
  obtain ⟨V, h1, h2, h3⟩ := h
  exact ⟨V, h1, h2.1, fun i r hi => by obtain ⟨B, c, k1, k2, k3⟩ := h3 i r hi; exact ⟨B, c, k1, k2.1, k3⟩⟩
end
/-- A head put ahead of the other rows. -/
theorem headed {w : World} {A B : Option Addr} {rs : List (List E)} {V : List Value} {r : List E} {v : Value} (hV : V.length = rs.length) (h : ∀ (i : Nat) (r : List E), rs[i]? = some r → ∃ B c, V[i]? = some (.slice B r.length c) ∧ Rd w B (bs r) ∧ r.length ≤ c ∧ c ≤ maxLen)
    (hv : ∃ B c, v = .slice B r.length c ∧ Rd w B (bs r) ∧ r.length ≤ c ∧ c ≤ maxLen) (hA : Rd w A ([v] ++ V.drop 1)) : RdRows w A (r :: rs.drop 1) := by
  refine ⟨[v] ++ V.drop 1, by simp [hV], hA, fun i x hi => ?_⟩
  cases i with
  | zero =>
    simp at hi
    subst hi
    obtain ⟨B, c, k1, k2⟩ := hv
    exact ⟨B, c, by rw [k1]; rfl, k2⟩
  | succ i =>
    rw [List.getElem?_cons_succ, List.getElem?_drop] at hi
    obtain ⟨B, c, k1, k2⟩ := h (1 + i) x hi
    refine ⟨B, c, ?_, k2⟩
    rw [List.singleton_append, List.getElem?_cons_succ, List.getElem?_drop]
    exact k1
/-- Rows that have been filled up to a number with rows of one byte. -/
def filled (rows : List (List E)) (q : Nat) : List (List E) := rows ++ List.replicate q [E.of 1]
/-- The second data of MendFar. -/
def headL (L N : Nat) (rows : List (List E)) : List (List E) := padR L ((rows.take N).getD 0 []) :: (rows.take N).drop 1
theorem headL_length {L N : Nat} {rows : List (List E)} (h1 : 1 ≤ N) (h2 : N ≤ rows.length) : (headL L N rows).length = N := by simp [headL]; omega
theorem headL_first {L N : Nat} {rows : List (List E)} : firstL (headL L N rows) = L := by
  show (padR L _).length = L
  exact padR_length _ _
theorem filled_zero (rows : List (List E)) : filled rows 0 = rows := by simp [filled]
theorem filled_length (rows : List (List E)) (q : Nat) : (filled rows q).length = rows.length + q := by simp [filled]
theorem filled_succ (rows : List (List E)) (q : Nat) : filled rows (q + 1) = filled rows q ++ [[E.of 1]] := by
  rw [filled, filled, List.replicate_succ', List.append_assoc]
theorem RowsO.push {g B : Nat} {w : World} {A : Option Addr} {T : TypeId} {n c : Nat} {V : List Value} {u : Value} {rs : List (List E)} {r : List E} (hV : V.length = rs.length) (h : ∀ (i : Nat) (r : List E), rs[i]? = some r → ∃ B c, V[i]? = some (.slice B r.length c) ∧ RdO g w B (bs r) ∧ r.length ≤ c ∧ c ≤ maxLen)
    (ho : Own w B T (.slice A n c) (V ++ [u])) (hg : g < B) (hv : ∃ B c, u = .slice B r.length c ∧ RdO g w B (bs r) ∧ r.length ≤ c ∧ c ≤ maxLen) : RowsO g w A (rs ++ [r]) := by
  refine ⟨V ++ [u], by simp [hV], RdO.own ho hg, fun i x hi => ?_⟩
  rcases Nat.lt_trichotomy i rs.length with h1 | h1 | h1
  · rw [List.getElem?_append_left h1] at hi
    obtain ⟨B, c, k1, k2⟩ := h i x hi
    exact ⟨B, c, by rw [List.getElem?_append_left (by rw [hV]; exact h1)]; exact k1, k2⟩
  · subst h1
    rw [List.getElem?_append_right (Nat.le_refl _)] at hi
    simp at hi
    subst hi
    obtain ⟨B, c, k1, k2⟩ := hv
    exact ⟨B, c, by rw [← hV, List.getElem?_append_right (Nat.le_refl _), ← k1]; simp, k2⟩
  · rw [List.getElem?_eq_none (by simp; omega)] at hi; cases hi
theorem othN_succ (b : Nat → Bool) (q : Nat) : othN b (q + 1) = othN b q + (if b q then 1 else 0) := by
  rw [othN, othN, List.range_succ, List.filter_append, List.length_append]
  cases h : b q <;> simp [h]
theorem othN_le (b : Nat → Bool) (q : Nat) : othN b q ≤ q := by
  rw [othN]
  exact filter_le _ _
def sameN (Y Z : List (List E)) (q : Nat) : Bool := (List.range q).all fun i => eqB (Y.getD i []) (Z.getD i [])
theorem sameN_succ (Y Z : List (List E)) (q : Nat) : sameN Y Z (q + 1) = (sameN Y Z q && eqB (Y.getD q []) (Z.getD q [])) := by
  rw [sameN, sameN, List.range_succ, List.all_append]; simp
theorem sameN_true {Y Z : List (List E)} {N : Nat} (hY : Y.length = N) (hZ : Z.length = N) (h : sameN Y Z N = true) : Y = Z := by
  apply List.ext_getElem (by omega)
  intro i h1 h2
  rw [sameN, List.all_eq_true] at h
  have := h i (List.mem_range.2 (by omega))
  rw [eqB] at this
  have := of_decide_eq_true this
  rwa [List.getD_eq_getElem?_getD, List.getElem?_eq_getElem h1, Option.getD_some, List.getD_eq_getElem?_getD, List.getElem?_eq_getElem h2, Option.getD_some] at this
theorem sameN_refl (Y : List (List E)) (N : Nat) : sameN Y Y N = true := by
  rw [sameN, List.all_eq_true]
  intro i _
  exact eqB_true rfl
/-- The loop that fills up. -/
structure FarFill (w wr : World) (N : Nat) (b1 : Array Value) (M c2 c3 : Value) (rows : List (List E)) (q : Nat) (A : Option Addr) (n cap : Nat) : Prop where
  ext : Ext w wr
  size : w.heap.size + 2 ≤ wr.heap.size
  list : RowsO (w.heap.size + 1) wr A (filled rows q)
  len : rows.length + q = n
  room : n ≤ cap
  top : n ≤ 1048576
  blk1 : Blk wr w.heap.size 96 b1
  blk2 : Blk wr (w.heap.size + 1) 96 #[.slice A n cap, M, c2, c3]
set_option maxHeartbeats 16000000 in
theorem farWalk_n (Ad At Ay Bd Bt By : Option Addr) (N cd na cat ny cay n cb nt cbt nz cbz : Nat) (M M2 : Int) (data rows : List (List E)) (w : World) (hN : data.length = N) (hr : RdRows w Ad data) (hN2 : N ≤ 1048576) (hb : ∀ r ∈ data, r.length ≤ 1048576) (hwm : (Lit.int .i64 M).wf = true)
    (hn : rows.length = n) (hs : RdRows w Bd rows) (hn2 : n ≤ 1048576) (hb2 : ∀ r ∈ rows, r.length ≤ 1048576) (hwm2 : (Lit.int .i64 M2).wf = true) (hcb : n ≤ cb) :
    Calls Try.prog 21 #[.agg #[.slice Ad N cd, .int .i64 M, .slice At na cat, .slice Ay ny cay], .agg #[.slice Bd n cb, .int .i64 M2, .slice Bt nt cbt, .slice By nz cbz]] w fun e w' => e = .returned (.bool true) ∧ Ext w w' := by
  have HN := Lib.hid hN
  have HB := Lib.hid hb
  have HR := Lib.hid hr
  have HM := Lib.hid hn
  have HB2 := Lib.hid hb2
  have HS := Lib.hid hs
  clear hN hb hr hn hb2 hs
  have hmo : Try.prog.follows Departure.mixedOrders = true := by kernel_rfl
  have hwd : Fence.wide.depth = none := rfl
  have hwf : ∀ f, Fence.wide.fn f := fun _ => trivial
  have hq := fun (w : World) (a : Option Addr) (l c : Nat) => Lib.run_eql_slice_nil (P := Try.prog) w 77 24 a l c 0 0 Try.underlying77
  obtain ⟨wb, hwb⟩ : ∃ wb, wb = (w.alloc (.cells #[.slice Ad N cd, .int .i64 M, .slice At na cat, .slice Ay ny cay] 96)).alloc (.cells #[.slice Bd n cb, .int .i64 M2, .slice Bt nt cbt, .slice By nz cbz] 96) := ⟨_, rfl⟩
  have hy : Ext w wb := by rw [hwb]; exact ((Ext.refl w).alloc _).alloc _
  have hsz : wb.heap.size = w.heap.size + 2 := by rw [hwb]; simp
  have hbk : Blk wb w.heap.size 96 #[.slice Ad N cd, .int .i64 M, .slice At na cat, .slice Ay ny cay] := by rw [hwb]; exact (Blk.new _ _ _).alloc _
  have hbk2 : Blk wb (w.heap.size + 1) 96 #[.slice Bd n cb, .int .i64 M2, .slice Bt nt cbt, .slice By nz cbz] := by
    have h : (w.alloc (.cells #[.slice Ad N cd, .int .i64 M, .slice At na cat, .slice Ay ny cay] 96)).heap.size = w.heap.size + 1 := by simp
    rw [hwb, ← h]; exact Blk.new _ _ _
  have hro : RowsO (w.heap.size + 1) wb Bd rows := (RowsO.of_lt HS.out (by omega)).ext hy
  have BK := Lib.hid hbk
  have BK2 := Lib.hid hbk2
  have Y := Lib.hid hy
  have RO := Lib.hid hro
  have HWB := Lib.hid hwb
  clear hbk hbk2 hy hwb hro HS
  go_enter Try.func21, Try.ntmps21
  go_wp2_with fail
  rw [← HWB.out]
  clear HWB
  refine (awake_n _).mono ?_
  rintro e w1 ⟨rfl, hx1⟩
  replace BK := Lib.hid (BK.out.below hx1 BK.out.lt)
  replace BK2 := Lib.hid (BK2.out.below hx1 BK2.out.lt)
  replace RO := Lib.hid (RO.out.ext hx1)
  replace Y := Lib.hid (Y.out.trans hx1)
  have hsz1 : w.heap.size + 2 ≤ w1.heap.size := by have := hx1.le; omega
  clear hx1 hsz
  have q1 : World.cell? w1 ⟨w.heap.size, 1, none⟩ = some (.int .i64 M) := BK.out.cell 1
  have p1 : World.cell? w1 ⟨w.heap.size + 1, 1, none⟩ = some (.int .i64 M2) := BK2.out.cell 1
  have f1 := BK2.out.frozen 1
  go_wp2_with fail
  have HF : Hid (FarFill w (w1.setCell ⟨w.heap.size + 1, 1, none⟩ (.int .i64 M)) N #[.slice Ad N cd, .int .i64 M, .slice At na cat, .slice Ay ny cay] (.int .i64 M) (.slice Bt nt cbt) (.slice By nz cbz) rows 0 Bd n cb) := Lib.hid (by
    have ht : Touch (· = w.heap.size + 1) w1 (w1.setCell ⟨w.heap.size + 1, 1, none⟩ (.int .i64 M)) := touch_set w1 _ _ rfl
    refine ⟨Y.out.touched ht fun k e => by omega, by simpa using hsz1, ?_, by rw [HM.out]; rfl, hcb, hn2, BK.out.far (p := ⟨w.heap.size + 1, 1, none⟩) (by show w.heap.size ≠ w.heap.size + 1; omega) _, BK2.out.set_ 1 (.int .i64 M)⟩
    rw [filled_zero]
    exact RO.out.touch ht)
  clear BK BK2 RO Y q1 p1 f1 hsz1 hcb hn2
  go_loopw [] (fun wr => ∃ (q n' cap : Nat) (A : Option Addr), FarFill w wr N #[.slice Ad N cd, .int .i64 M, .slice At na cat, .slice Ay ny cay] (.int .i64 M) (.slice Bt nt cbt) (.slice By nz cbz) rows q A n' cap) (fun wr => match wr.cell? ⟨w.heap.size + 1, 0, none⟩ with | some (.slice _ n' _) => N - n' | _ => 0)
  case atStart => exact ⟨0, n, cb, Bd, HF.out⟩
  case round =>
    obtain ⟨W, rfl⟩ : ∃ W, W = wr := ⟨_, rfl⟩
    obtain ⟨q, n', cap, A, hF⟩ := hrel
    clear HF
    have q0 : World.cell? W ⟨w.heap.size, 0, none⟩ = some (.slice Ad N cd) := hF.blk1.cell 0
    have p0 : World.cell? W ⟨w.heap.size + 1, 0, none⟩ = some (.slice A n' cap) := hF.blk2.cell 0
    by_cases hlt : n' < N
    · obtain ⟨V, hV1, hV2, hV3⟩ := hF.list
      have hVn : V.length = n' := by rw [hV1, filled_length, hF.len]
      have hA : A = none → n' = 0 := fun e => by
        rcases Nat.eq_zero_or_pos n' with h | h
        · exact h
        · obtain ⟨ad, e', _⟩ := hV2.2 (by omega)
          rw [e] at e'; cases e'
      rcases A with _ | ad
      · obtain rfl : n' = 0 := hA rfl
        clear hA
        have hcp : 0 ≤ cap := hF.room
        have hdn : decide ((0 : Int) < (N : Int)) = true := decide_eq_true (by omega)
        have hbd : (0 + 1) * 24 ≤ 140737488355328 := by omega
        have HF := Lib.hid hF
        have HVR : Hid (Rd (W.alloc (.cells #[.int .u8 1] 5)) none V) := Lib.hid (hV2.1.ext ((Ext.refl W).alloc _))
        have HV2 := Lib.hid hV2
        have HV3 := Lib.hid hV3
        have HVN := Lib.hid hVn
        clear hF hV2 hV3 hVn
        go_wp2_with (at_builtin; refine wpList_pushFull (W.alloc (.cells #[.int .u8 1] 5)) eltRowU8 rfl _ _ (by rfl) none 0 V (by rfl) HVR.out HVN.out (fun _ => rfl) (.slice (some ⟨W.heap.size, 0, none⟩) 1 1) (W.heap.size + 1) (by simp) (by rfl) hbd ?_)
        intro v3 w3 ho3 hx3
        have hx : Ext W w3 := ((Ext.refl W).alloc _).trans hx3
        have hrow : Rd w3 (some ⟨W.heap.size, 0, none⟩) (bs [E.of 1]) := (rd_new W (.int .u8 1) 5 : Rd (W.alloc (.cells #[.int .u8 1] 5)) _ _).ext hx3
        obtain ⟨A3, c3, hv3, -, hc3, hm3, -⟩ := ho3.slice
        rw [List.length_append, HVN.out, show [Value.slice (some ⟨W.heap.size, 0, none⟩) 1 1].length = 1 from rfl] at hv3 hc3
        subst hv3
        have hsz3 := hx.le
        have hsW := HF.out.size
        have p1 : World.cell? w3 ⟨w.heap.size + 1, 0, none⟩ = some (.slice none 0 cap) := ((HF.out.blk2.below hx HF.out.blk2.lt).cell 0)
        have f1 := (HF.out.blk2.below hx HF.out.blk2.lt).frozen 0
        have HN3 : Hid (FarFill w (w3.setCell ⟨w.heap.size + 1, 0, none⟩ (.slice A3 1 c3)) N #[.slice Ad N cd, .int .i64 M, .slice At na cat, .slice Ay ny cay] (.int .i64 M) (.slice Bt nt cbt) (.slice By nz cbz) rows (q + 1) A3 1 c3) := Lib.hid (by
          have ht : Touch (· = w.heap.size + 1) w3 (w3.setCell ⟨w.heap.size + 1, 0, none⟩ (.slice A3 1 c3)) := touch_set w3 _ _ rfl
          refine ⟨(HF.out.ext.trans hx).touched ht fun k e => by omega, by simp; omega, ?_, by have := HF.out.len; omega, hc3, by omega, (HF.out.blk1.below hx HF.out.blk1.lt).far (p := ⟨w.heap.size + 1, 0, none⟩) (by show w.heap.size ≠ w.heap.size + 1; omega) _, (HF.out.blk2.below hx HF.out.blk2.lt).set_ 0 _⟩
          rw [filled_succ]
          refine RowsO.touch (RowsO.push (B := W.heap.size) hV1 (fun i r hi => ?_) (ho3.mono (by simp)) (by omega) ⟨_, 1, rfl, ⟨hrow, fun _ => ⟨_, rfl, by show W.heap.size ≠ _; omega⟩⟩, Nat.le_refl _, by decide⟩) ht
          obtain ⟨B, c, k1, k2, k3⟩ := HV3.out i r hi
          exact ⟨B, c, k1, k2.ext hx, k3⟩)
        clear hx hx3 ho3 hrow hsz3 hsW HF HVR HV2 HV3 HVN
        go_wp2_with fail
        go_roundw
        case rel => exact ⟨q + 1, 1, c3, A3, HN3.out⟩
        case measure =>
          have e1 : (w3.setCell ⟨w.heap.size + 1, 0, none⟩ (.slice A3 1 c3)).cell? ⟨w.heap.size + 1, 0, none⟩ = some (.slice A3 1 c3) := HN3.out.blk2.cell 0
          rw [e1, p0]
          simp only
          omega
      · clear hA
        have hcp : n' ≤ cap := hF.room
        have hdn : decide ((n' : Int) < (N : Int)) = true := decide_eq_true (by omega)
        have hbd : (n' + 1) * 24 ≤ 140737488355328 := by omega
        have HF := Lib.hid hF
        have HVR : Hid (Rd (W.alloc (.cells #[.int .u8 1] 5)) (some ad) V) := Lib.hid (hV2.1.ext ((Ext.refl W).alloc _))
        have HV2 := Lib.hid hV2
        have HV3 := Lib.hid hV3
        have HVN := Lib.hid hVn
        clear hF hV2 hV3 hVn
        go_wp2_with (at_builtin; refine wpList_pushFull (W.alloc (.cells #[.int .u8 1] 5)) eltRowU8 rfl _ _ (by rfl) (some ad) n' V (by rfl) HVR.out HVN.out (fun e => by cases e) (.slice (some ⟨W.heap.size, 0, none⟩) 1 1) (W.heap.size + 1) (by simp) (by rfl) hbd ?_)
        intro v3 w3 ho3 hx3
        have hx : Ext W w3 := ((Ext.refl W).alloc _).trans hx3
        have hrow : Rd w3 (some ⟨W.heap.size, 0, none⟩) (bs [E.of 1]) := (rd_new W (.int .u8 1) 5 : Rd (W.alloc (.cells #[.int .u8 1] 5)) _ _).ext hx3
        obtain ⟨A3, c3, hv3, -, hc3, hm3, -⟩ := ho3.slice
        rw [List.length_append, HVN.out, show [Value.slice (some ⟨W.heap.size, 0, none⟩) 1 1].length = 1 from rfl] at hv3 hc3
        subst hv3
        have hsz3 := hx.le
        have hsW := HF.out.size
        have p1 : World.cell? w3 ⟨w.heap.size + 1, 0, none⟩ = some (.slice (some ad) n' cap) := ((HF.out.blk2.below hx HF.out.blk2.lt).cell 0)
        have f1 := (HF.out.blk2.below hx HF.out.blk2.lt).frozen 0
        have HN3 : Hid (FarFill w (w3.setCell ⟨w.heap.size + 1, 0, none⟩ (.slice A3 (n' + 1) c3)) N #[.slice Ad N cd, .int .i64 M, .slice At na cat, .slice Ay ny cay] (.int .i64 M) (.slice Bt nt cbt) (.slice By nz cbz) rows (q + 1) A3 (n' + 1) c3) := Lib.hid (by
          have ht : Touch (· = w.heap.size + 1) w3 (w3.setCell ⟨w.heap.size + 1, 0, none⟩ (.slice A3 (n' + 1) c3)) := touch_set w3 _ _ rfl
          refine ⟨(HF.out.ext.trans hx).touched ht fun k e => by omega, by simp; omega, ?_, by have := HF.out.len; omega, hc3, by omega, (HF.out.blk1.below hx HF.out.blk1.lt).far (p := ⟨w.heap.size + 1, 0, none⟩) (by show w.heap.size ≠ w.heap.size + 1; omega) _, (HF.out.blk2.below hx HF.out.blk2.lt).set_ 0 _⟩
          rw [filled_succ]
          refine RowsO.touch (RowsO.push (B := W.heap.size) hV1 (fun i r hi => ?_) (ho3.mono (by simp)) (by omega) ⟨_, 1, rfl, ⟨hrow, fun _ => ⟨_, rfl, by show W.heap.size ≠ _; omega⟩⟩, Nat.le_refl _, by decide⟩) ht
          obtain ⟨B, c, k1, k2, k3⟩ := HV3.out i r hi
          exact ⟨B, c, k1, k2.ext hx, k3⟩)
        clear hx hx3 ho3 hrow hsz3 hsW HF HVR HV2 HV3 HVN
        go_wp2_with fail
        go_roundw
        case rel => exact ⟨q + 1, n' + 1, c3, A3, HN3.out⟩
        case measure =>
          have e1 : (w3.setCell ⟨w.heap.size + 1, 0, none⟩ (.slice A3 (n' + 1) c3)).cell? ⟨w.heap.size + 1, 0, none⟩ = some (.slice A3 (n' + 1) c3) := HN3.out.blk2.cell 0
          rw [e1, p0]
          simp only
          omega
    · have hle : N ≤ n' := by omega
      have hc' := hF.room
      have hA : A = none → n' = 0 := fun e => by
        obtain ⟨V, hV1, hV2, -⟩ := hF.list
        rcases Nat.eq_zero_or_pos n' with h | h
        · exact h
        · obtain ⟨ad, e', _⟩ := hV2.2 (by rw [hV1, filled_length, hF.len]; exact h)
          rw [e] at e'; cases e'
      have f0 := hF.blk2.frozen 0
      have q1 : World.cell? W ⟨w.heap.size, 1, none⟩ = some (.int .i64 M) := hF.blk1.cell 1
      have q2 : World.cell? W ⟨w.heap.size, 2, none⟩ = some (.slice At na cat) := hF.blk1.cell 2
      have q3 : World.cell? W ⟨w.heap.size, 3, none⟩ = some (.slice Ay ny cay) := hF.blk1.cell 3
      have HF := Lib.hid hF
      clear hF
      rcases A with _ | ad
      · obtain rfl : n' = 0 := hA rfl
        obtain rfl : N = 0 := by omega
        clear hA
        have HX0 : Hid (Ext w (W.setCell ⟨w.heap.size + 1, 0, none⟩ (.slice none 0 0))) := Lib.hid (by
          have ht : Touch (· = w.heap.size + 1) W (W.setCell ⟨w.heap.size + 1, 0, none⟩ (.slice none 0 0)) := touch_set W _ _ rfl
          exact HF.out.ext.touched ht fun k e => by omega)
        go_wp2_with fail
        refine (encoded_n Ad 0 cd M (.slice At na cat) (.slice Ay ny cay) data _ HN.out (HR.out.ext HX0.out) hwm hN2 HB.out ⟨_, _, _, rfl⟩ ⟨_, _, _, rfl⟩).mono ?_
        rintro e W2 (⟨-, rfl, hx2⟩ | ⟨m, g, c, hG, rfl, rfl, hro, hx2⟩)
        case inr => exact absurd hG.1 (by omega)
        have HX := Lib.hid (HX0.out.trans hx2)
        clear hx2
        go_wp2_with fail
        go_ret
        exact ⟨rfl, HX.out⟩
      clear hA
      go_wp2_with fail -- CUTA
      clear q0 q1 q2 q3 p0 f0 hc'
      obtain ⟨W1, hW1⟩ : ∃ x, x = W.setCell ⟨w.heap.size + 1, 0, none⟩ (.slice (some ad) N N) := ⟨_, rfl⟩
      rw [← hW1]
      obtain ⟨R, hR⟩ : ∃ R, R = (filled rows q).take N := ⟨_, rfl⟩
      have hRN : R.length = N := by rw [hR, List.length_take, filled_length]; have := HF.out.len; omega
      have HRB : Hid (∀ r ∈ R, r.length ≤ 1048576) := Lib.hid (fun r hr => by
        rw [hR] at hr
        have h1 := List.mem_of_mem_take hr
        rw [filled, List.mem_append] at h1
        rcases h1 with h1 | h1
        · exact HB2.out r h1
        · rw [List.eq_of_mem_replicate h1]; simp)
      have hft : Ext w W1 ∧ RdRows W1 (some ad) R := by
        have ht : Touch (· = w.heap.size + 1) W W1 := by rw [hW1]; exact touch_set W _ _ rfl
        refine ⟨HF.out.ext.touched ht fun k e => by omega, ?_⟩
        rw [hR]
        exact (HF.out.list.touch ht).rd.take N
      have BK : Hid (Blk W1 w.heap.size 96 #[.slice Ad N cd, .int .i64 M, .slice At na cat, .slice Ay ny cay]) := Lib.hid (by rw [hW1]; exact HF.out.blk1.far (p := ⟨w.heap.size + 1, 0, none⟩) (by show w.heap.size ≠ w.heap.size + 1; omega) _)
      have BK2 : Hid (Blk W1 (w.heap.size + 1) 96 #[.slice (some ad) N N, .int .i64 M, .slice Bt nt cbt, .slice By nz cbz]) := Lib.hid (by rw [hW1]; exact HF.out.blk2.set_ 0 _)
      have Y := Lib.hid hft.1
      have HRT := Lib.hid hft.2
      have HRN := Lib.hid hRN
      clear hft hW1 hR hRN HF
      refine (encoded_n Ad N cd M (.slice At na cat) (.slice Ay ny cay) data _ HN.out (HR.out.ext Y.out) hwm hN2 HB.out ⟨_, _, _, rfl⟩ ⟨_, _, _, rfl⟩).mono ?_
      rintro e W2 (⟨-, rfl, hx2⟩ | ⟨m, g, c, hG, rfl, rfl, hro, hx2⟩)
      · have HX := Lib.hid (Y.out.trans hx2)
        clear hx2
        go_wp2_with fail
        go_ret
        exact ⟨rfl, HX.out⟩
      obtain ⟨hg1, hg2, hg3, hg4, hg5⟩ := hG
      obtain ⟨L, hL⟩ : ∃ L, L = firstL data := ⟨_, rfl⟩
      have hL0 : 0 < L := by rw [hL, firstL]; omega
      have hd0 : 0 < data.length := by rw [HN.out]; omega
      have hfl : data[0].length = L := by rw [hL, firstL, List.getD_eq_getElem?_getD, List.getElem?_eq_getElem hd0]; rfl
      have hLb : L ≤ 1048576 := by rw [← hfl]; exact HB.out _ (List.getElem_mem _)
      obtain ⟨A', c', e', hrr, hcc, -⟩ := hro.rd
      rw [encS_length] at e' hcc
      injection e' with eA eN eC
      subst eA
      subst eC
      clear eN
      replace BK := Lib.hid (BK.out.below hx2 BK.out.lt)
      replace BK2 := Lib.hid (BK2.out.below hx2 BK2.out.lt)
      replace Y := Lib.hid (Y.out.trans hx2)
      replace HRT := Lib.hid (HRT.out.ext hx2)
      have HRR := Lib.hid hrr
      have HL := Lib.hid hL
      clear hx2 hro hrr hL hg5
      have hR0 : 0 < R.length := by rw [HRN.out]; omega
      obtain ⟨ad0, D0, e0, hA0, hz0, -, -, -⟩ := (HR.out.ext Y.out).at_ hd0
      subst hA0
      rw [add_zero', hfl] at hz0
      obtain ⟨at0, D1, e1, hA1, hz1, hr1, -, -⟩ := HRT.out.at_ hR0
      cases hA1
      rw [add_zero'] at hz1
      have hmkL : ∀ w, (Instr.makeSlice 24 (.int .i64 (L : Int)) (.int .i64 (L : Int))).run Try.prog w = .ok (.slice (some ⟨w.heap.size, 0, none⟩) L L) (w.alloc (.cells (zrow (.int .u8 0) L) 5)) := fun w => run_make_elt eltU8 _ _ L (by omega) w
      have hN0 : (0 : Int) < (N : Int) := by omega
      have hxa : Ext W2 (W2.alloc (.cells (zrow (.int .u8 0) L) 5)) := (Ext.refl W2).alloc _
      have q0 : World.cell? W2 ⟨w.heap.size, 0, none⟩ = some (.slice (some ad0) N cd) := BK.out.cell 0
      have p0 : (W2.alloc (.cells (zrow (.int .u8 0) L) 5)).cell? ⟨w.heap.size + 1, 0, none⟩ = some (.slice (some ad) N N) := (BK2.out.below hxa BK2.out.lt).cell 0
      have p2 : (W2.alloc (.cells (zrow (.int .u8 0) L) 5)).cell? ad = some (.slice D1 R[0].length e1) := hxa.cell (World.block_lt_of_cell? _ _ hz1) ▸ hz1
      have HR2 := Lib.hid (hr1.ext hxa)
      clear hr1 hxa hz1
      go_wp2_with (with_reducible refine wpList_copyPad eltU8 rfl _ _ rfl W2.heap.size L L 5 (Blk.new _ _ _) rfl D1 R[0].length e1 R[0] rfl HR2.out rfl W2.heap.size W2 (Below.alloc (Below.refl _ _) (Nat.le_refl _) _) (Nat.le_refl _) (by simp only [maxLen]; omega) ?_)
      intro w3 kk ho hbl
      have hx3 : Ext W2 w3 := hbl
      have HO := Lib.hid ho
      have HX3 := Lib.hid hx3
      clear ho hbl q0 p0 p2 HR2 hz0
      obtain ⟨V, hV1, hV2, hV3⟩ := HRT.out
      rw [HRN.out] at hV1
      have HV2 := Lib.hid hV2
      have HV3 := Lib.hid hV3
      have HV1 := Lib.hid hV1
      have hVo : ∀ u ∈ V, u.oneCell' = true := fun u hu => by
        obtain ⟨i, hi⟩ := List.mem_iff_getElem?.1 hu
        have hlt : i < R.length := by rw [HRN.out, ← hV1]; exact (List.getElem?_eq_some_iff.1 hi).1
        obtain ⟨B, c, k1, -⟩ := hV3 i R[i] (List.getElem?_eq_getElem hlt)
        rw [hi] at k1
        injection k1 with k1
        rw [k1]; rfl
      have HVO := Lib.hid hVo
      clear hV1 hV2 hV3 hVo
      obtain ⟨D, hD⟩ : ∃ D, D = padR L R[0] :: R.drop 1 := ⟨_, rfl⟩
      have HD := Lib.hid hD
      clear hD
      have HFIN : Hid (∀ (wx : World) (A8 : Option Addr), Ext w3 wx → Rd wx A8 ([.slice (some ⟨W2.heap.size, 0, none⟩) L L] ++ V.drop 1) → RdRows wx A8 D) := Lib.hid (fun wx A8 hx hrd => by
        rw [HD.out]
        refine headed (B := none) (by rw [HV1.out, HRN.out]) (fun i r hi => ?_) ⟨some ⟨W2.heap.size, 0, none⟩, L, by rw [padR_length], (HO.out.rd).ext hx, by rw [padR_length]; exact Nat.le_refl _, by simp only [maxLen]; omega⟩ hrd
        obtain ⟨B, c, k1, k2, k3⟩ := HV3.out i r hi
        exact ⟨B, c, k1, k2.ext (HX3.out.trans hx), k3⟩)
      go_upto_region 13 with fail
      go_cut [8] (fun s8 wx => ∃ (A8 : Option Addr) (c8 : Nat), s8 = .slice A8 N c8 ∧ N ≤ c8 ∧ RdRows wx A8 D ∧ Ext w3 wx)
      case first =>
        rcases (show N = 1 ∨ 2 ≤ N by omega) with hN1 | hN1
        · have p0 : World.cell? (w3.alloc (.cells #[.slice (some ⟨W2.heap.size, 0, none⟩) L L] 24)) ⟨w.heap.size + 1, 0, none⟩ = some (.slice (some ad) N N) := ((BK2.out.below HX3.out BK2.out.lt).alloc _).cell 0
          have HR1 : Hid (RdRows (w3.alloc (.cells #[.slice (some ⟨W2.heap.size, 0, none⟩) L L] 24)) (some ⟨w3.heap.size, 0, none⟩) D) := Lib.hid (by
            refine HFIN.out _ _ ((Ext.refl w3).alloc _) ?_
            rw [List.drop_eq_nil_of_le (by rw [HV1.out]; omega)]
            exact rd_new w3 _ _)
          go_wp2_with fail
          go_meet
          exact ⟨_, 1, by rw [hN1], by omega, HR1.out, (Ext.refl w3).alloc _⟩
        · have p0 : World.cell? (w3.alloc (.cells #[.slice (some ⟨W2.heap.size, 0, none⟩) L L] 24)) ⟨w.heap.size + 1, 0, none⟩ = some (.slice (some ad) N N) := ((BK2.out.below HX3.out BK2.out.lt).alloc _).cell 0
          have hN1' : ¬ N = 1 := by omega
          have HRV : Hid (Rd (w3.alloc (.cells #[.slice (some ⟨W2.heap.size, 0, none⟩) L L] 24)) (some (ad.add 1)) (V.drop 1)) := Lib.hid (by
            have h := HV2.out.cut (k := 1) (cap := N) (by rw [HV1.out]; omega) (by rw [HV1.out]; exact Nat.le_refl _)
            rw [if_neg hN1'] at h
            exact (h.ext HX3.out).ext ((Ext.refl w3).alloc _))
          have HDL : Hid ((V.drop 1).length = N - 1) := Lib.hid (by rw [List.length_drop, HV1.out])
          have h0 : Own (w3.alloc (.cells #[.slice (some ⟨W2.heap.size, 0, none⟩) L L] 24)) w3.heap.size 24 (.slice (some ⟨w3.heap.size, 0, none⟩) 1 1) [.slice (some ⟨W2.heap.size, 0, none⟩) L L] := (Blk.new w3 24 #[.slice (some ⟨W2.heap.size, 0, none⟩) L L]).own (Nat.le_refl _) (Nat.le_refl _) (by decide) rfl
          have hbd : (([.slice (some ⟨W2.heap.size, 0, none⟩) L L] : List Value).length + (N - 1)) * 24 ≤ 140737488355328 := by simp; omega
          have HVO2 : Hid (∀ u ∈ V.drop 1, u.oneCell' = true) := Lib.hid (fun u hu => HVO.out u (List.mem_of_mem_drop hu))
          have H0 := Lib.hid h0
          clear h0
          go_wp2_with (at_builtin; refine wpList_app (w3.alloc (.cells #[.slice (some ⟨W2.heap.size, 0, none⟩) L L] 24)) eltRowU8 rfl _ _ (by rfl) w3.heap.size (.slice (some ⟨w3.heap.size, 0, none⟩) 1 1) [.slice (some ⟨W2.heap.size, 0, none⟩) L L] (by rfl) (by exact H0.out) (some (ad.add 1)) (N - 1) (N - 1) (V.drop 1) (by rfl) HRV.out HDL.out HVO2.out hbd (by simp) ?_)
          intro v8 w8 ho8 hmv8
          have hx8 : Ext w3 w8 := ((Ext.refl w3).alloc _).below.trans (hmv8.below (by simp) fun g hg => by simp [Value.ownBlock] at hg; omega)
          have ho8' : Own w8 w3.heap.size 24 v8 ([.slice (some ⟨W2.heap.size, 0, none⟩) L L] ++ V.drop 1) := by simpa using ho8
          obtain ⟨A8, c8, hv8, hr8, hc8, -, -⟩ := ho8'.slice
          rw [List.length_append, HDL.out, show [Value.slice (some ⟨W2.heap.size, 0, none⟩) L L].length + (N - 1) = N by simp; omega] at hv8 hc8
          subst hv8
          have HR8 := Lib.hid (HFIN.out w8 A8 hx8 hr8)
          clear ho8 ho8' hmv8 hr8 hbd
          go_wp2_with fail
          go_meet
          exact ⟨A8, c8, rfl, hc8, HR8.out, hx8⟩
      case rest =>
        obtain ⟨A8, c8, rfl, hc8, hr8, hx8⟩ := hcut
        replace BK := Lib.hid (BK.out.below (HX3.out.trans hx8) BK.out.lt)
        replace Y := Lib.hid (Y.out.trans (HX3.out.trans hx8))
        replace HRR := Lib.hid (HRR.out.ext (HX3.out.trans hx8))
        have HR8 := Lib.hid hr8
        have hDN : D.length = N := by rw [HD.out]; simp; have := HRN.out; omega
        have hDL : firstL D = L := by rw [HD.out]; exact padR_length _ _
        have HDB : Hid (∀ r ∈ D, r.length ≤ 1048576) := Lib.hid (fun r hr => by
          rw [HD.out] at hr
          rcases List.mem_cons.1 hr with h | h
          · rw [h, padR_length]; exact hLb
          · exact HRB.out r (List.mem_of_mem_drop h))
        have HDN := Lib.hid hDN
        have HDL := Lib.hid hDL
        clear hx8 hr8 HX3 HFIN HV1 HV2 HV3 HVO HO BK2 HRT hDN hDL
        have q1 : World.cell? wc ⟨w.heap.size, 1, none⟩ = some (.int .i64 (m : Int)) := BK.out.cell 1
        go_wp2_with fail -- CUTB
        clear q1
        refine (encoded_n A8 N c8 (m : Int) (.slice none 0 0) (.slice none 0 0) D _ HDN.out HR8.out hwm hN2 HDB.out ⟨_, _, _, rfl⟩ ⟨_, _, _, rfl⟩).mono ?_
        rintro e W5 (⟨hG, rfl, hx5⟩ | ⟨m', g5, c5, hG, hm, rfl, hro, hx5⟩)
        · exact absurd ⟨hg1, hg2, hg3, hg4, by have := HDL.out; rw [firstL] at this; omega⟩ hG
        obtain rfl : m = m' := by omega
        obtain ⟨A', c', e', hrr5, -, -⟩ := hro.rd
        rw [encS_length] at e'
        injection e' with eA eN eC
        subst eA
        subst eC
        clear eN hG hm
        replace BK := Lib.hid (BK.out.below hx5 BK.out.lt)
        replace Y := Lib.hid (Y.out.trans hx5)
        replace HRR := Lib.hid (HRR.out.ext hx5)
        replace HR8 := Lib.hid (HR8.out.ext hx5)
        obtain ⟨n2, hn⟩ : ∃ n, n = N + m := ⟨_, rfl⟩
        obtain ⟨ra, hra⟩ : ∃ r, r = encS N m data := ⟨_, rfl⟩
        obtain ⟨rb, hrb⟩ : ∃ r, r = encS N m D := ⟨_, rfl⟩
        obtain ⟨ga, hga⟩ : ∃ a : Addr, a = ⟨g, 0, none⟩ := ⟨_, rfl⟩
        obtain ⟨gb, hgb⟩ : ∃ a : Addr, a = ⟨g5, 0, none⟩ := ⟨_, rfl⟩
        obtain ⟨YD, hYD⟩ : ∃ Y, Y = data.map (padR L) := ⟨_, rfl⟩
        obtain ⟨ZD, hZD⟩ : ∃ Y, Y = D.map (padR L) := ⟨_, rfl⟩
        have hYl : YD.length = N := by rw [hYD, List.length_map, HN.out]
        have hZl : ZD.length = N := by rw [hZD, List.length_map, HDN.out]
        have hrae : ra = encM N n2 L YD := by rw [hra, encS, ← HL.out, hYD, hn]
        have hrbe : rb = encM N n2 L ZD := by rw [hrb, encS, HDL.out, hZD, hn]
        have PFAR : Hid (othN (diffB ra rb) n2 ≤ m → YD = ZD) := Lib.hid (fun h => by
          rw [hrae, hrbe] at h
          exact far_rows (N := N) (n := n2) (L := L) hYl hZl (fun r hr => by rw [hYD] at hr; obtain ⟨x, -, rfl⟩ := List.mem_map.1 hr; exact padR_length _ _) (fun r hr => by rw [hZD] at hr; obtain ⟨x, -, rfl⟩ := List.mem_map.1 hr; exact padR_length _ _) (by omega) (by omega) (by omega))
        have PSAME : Hid (YD = ZD → othN (diffB ra rb) n2 = 0) := Lib.hid (fun h => by rw [hrae, hrbe, h]; exact diff_none _ _)
        have hRAL : ra.length = n2 := by rw [hra, encS_length, hn]
        have hRBL : rb.length = n2 := by rw [hrb, encS_length, hn]
        have HRAL := Lib.hid hRAL
        have HRBL := Lib.hid hRBL
        have HRAR : Hid (∀ r ∈ ra, r.length = L) := Lib.hid (fun r hr => by rw [hra] at hr; rw [HL.out]; exact encS_rows r hr)
        have HRBR : Hid (∀ r ∈ rb, r.length = L) := Lib.hid (fun r hr => by rw [hrb] at hr; rw [← HDL.out]; exact encS_rows r hr)
        have HYD := Lib.hid hYD
        have HZD := Lib.hid hZD
        have HYL := Lib.hid hYl
        have HZL := Lib.hid hZl
        have HNM := Lib.hid hn
        rw [← hn, ← hga, ← hgb]
        rw [← hga, ← hra] at HRR
        rw [← hgb, ← hrb] at hrr5
        have HRR5 := Lib.hid hrr5
        have hn255 : n2 ≤ 255 := by omega
        clear hx5 hro hrr5 hra hrb hga hgb hYD hZD hYl hZl hrae hrbe hRAL hRBL hn
        have d0 : ((n2 : Int) != (n2 : Int)) = false := by simp
        go_wp2_with fail -- CUTC
        clear d0
        go_loopw [10, 11] (fun d i wr => ∃ q : Nat, q ≤ n2 ∧ i = .int .i64 q ∧ d = .int .i64 (othN (diffB ra rb) q : Nat) ∧ Ext W5 wr) (fun _ i _ => n2 - (intOf i).toNat)
        case atStart => exact ⟨0, by omega, rfl, rfl, Ext.refl _⟩
        case round =>
          obtain ⟨W6, rfl⟩ : ∃ W, W = wr := ⟨_, rfl⟩
          obtain ⟨q2, hq2, rfl, rfl, hx⟩ := hrel
          have hdle := othN_le (diffB ra rb) q2
          obtain ⟨dd, hdd⟩ : ∃ d, d = othN (diffB ra rb) q2 := ⟨_, rfl⟩
          rw [← hdd] at hdle ⊢
          by_cases hlt2 : q2 < n2
          · have ha1 : q2 < ra.length := by rw [HRAL.out]; exact hlt2
            have hb1 : q2 < rb.length := by rw [HRBL.out]; exact hlt2
            obtain ⟨_, D1, e1, hA, hc1, hr1, -, -⟩ := (HRR.out.ext hx).at_ ha1
            cases hA
            obtain ⟨_, D2, e2, hA, hc2, hr2, -, -⟩ := (HRR5.out.ext hx).at_ hb1
            cases hA
            have hl1 : ra[q2].length = L := HRAR.out _ (List.getElem_mem _)
            have hl2 : rb[q2].length = L := HRBR.out _ (List.getElem_mem _)
            rw [hl1] at hc1
            rw [hl2] at hc2
            obtain ⟨b, hb⟩ : ∃ b, b = eqB ra[q2] rb[q2] := ⟨_, rfl⟩
            have hgd : diffB ra rb q2 = !b := by
              rw [diffB, List.getD_eq_getElem?_getD, List.getElem?_eq_getElem ha1, Option.getD_some, List.getD_eq_getElem?_getD, List.getElem?_eq_getElem hb1, Option.getD_some, hb]
            have HNX : Hid (othN (diffB ra rb) (q2 + 1) = dd + (if (!b) = true then 1 else 0)) := Lib.hid (by rw [othN_succ, hgd, hdd])
            have c1 : ∀ u : Beyond W6, u.1.cell? (ga.add q2) = some (.slice D1 L e1) := fun u => (u.2.cell (p := ga.add q2) (World.block_lt_of_cell? _ _ hc1)).trans hc1
            have c2 : ∀ u : Beyond W6, u.1.cell? (gb.add q2) = some (.slice D2 L e2) := fun u => (u.2.cell (p := gb.add q2) (World.block_lt_of_cell? _ _ hc2)).trans hc2
            have HQ : Hid (∀ u : Beyond W6, Calls Try.prog 80 #[.slice D1 L e1, .slice D2 L e2] u.1 fun e w' => e = .returned (.bool b) ∧ Ext u.1 w') := Lib.hid (fun u => by
              have := sameBytes_any D1 D2 L L ra[q2] rb[q2] e1 e2 u.1 hl1 hl2 (hr1.ext u.2) (hr2.ext u.2) (by omega) (by omega)
              exact this.mono fun e w' ⟨h, hx⟩ => ⟨by rw [h, hb], hx⟩)
            have hqN : (q2 : Int) < (n2 : Int) := by omega
            have HX2 := Lib.hid hx
            clear hc1 hc2 hr1 hr2 hx hl1 hl2 hb hgd hdd
            go_wp2_with fail
            cases b
            all_goals
              refine region_beyond_plain hmo (by kernel_rfl) (by kernel_rfl) ?_
              repeat (gi_big_quiet_step ((gi_at_call 80; with_reducible exact call_beyond (HQ.out _))))
              refine wpQuietIn_nil ?_
              rintro _ ⟨⟨w7, hx7⟩, rfl⟩
              clear c1 c2
              go_wp2_with fail
              go_roundw
              case rel => exact ⟨q2 + 1, by omega, by go_num, by rw [HNX.out]; go_num, HX2.out.trans hx7⟩
              case measure => simp [intOf]; omega
          · obtain rfl : q2 = n2 := by omega
            replace BK := Lib.hid (BK.out.below hx BK.out.lt)
            replace Y := Lib.hid (Y.out.trans hx)
            replace HR8 := Lib.hid (HR8.out.ext hx)
            have HDD := Lib.hid hdd
            clear hx hdd
            go_wp2_with fail -- CUTD
            have CA0 := (BK.out.cell 0 : World.cell? W6 ⟨w.heap.size, 0, none⟩ = some (.slice (some ad0) N cd))
            go_loopw [12, 13] (fun one i wr => ∃ p : Nat, p ≤ N ∧ i = .int .i64 p ∧ one = .bool (sameN YD ZD p) ∧ Ext W6 wr) (fun _ i _ => N - (intOf i).toNat)
            case atStart => exact ⟨0, by omega, rfl, rfl, Ext.refl _⟩
            case round =>
              obtain ⟨W7, rfl⟩ : ∃ W, W = wr := ⟨_, rfl⟩
              obtain ⟨p, hp, rfl, rfl, hx⟩ := hrel
              obtain ⟨one, hone⟩ : ∃ b, b = sameN YD ZD p := ⟨_, rfl⟩
              rw [← hone]
              by_cases hlt3 : p < N
              · have hda : p < data.length := by rw [HN.out]; exact hlt3
                have hdb : p < D.length := by rw [HDN.out]; exact hlt3
                have hx0 := Y.out.trans hx
                have hpN : (p : Int) < (N : Int) := by omega
                obtain ⟨_, D1, e1, hA, hc1, hr1, -, -⟩ := (HR.out.ext hx0).at_ hda
                cases hA
                obtain ⟨a8, D2, e2, hA, hc2, hr2, -, -⟩ := (HR8.out.ext hx).at_ hdb
                subst hA
                have hgd : eqB (YD.getD p []) (ZD.getD p []) = eqB (padR L data[p]) (padR L D[p]) := by
                  rw [HYD.out, HZD.out, List.getD_eq_getElem?_getD, List.getElem?_map, List.getElem?_eq_getElem hda, List.getD_eq_getElem?_getD, List.getElem?_map, List.getElem?_eq_getElem hdb]
                  rfl
                obtain ⟨b, hb⟩ : ∃ b, b = eqB (padR L data[p]) (padR L D[p]) := ⟨_, rfl⟩
                have HNX : Hid (sameN YD ZD (p + 1) = (one && b)) := Lib.hid (by rw [sameN_succ, hgd, hone, hb])
                have q0 : World.cell? W7 ⟨w.heap.size, 0, none⟩ = some (.slice (some ad0) N cd) := (BK.out.below hx BK.out.lt).cell 0
                clear hgd hone
                cases one with
                | false =>
                  have HX2 := Lib.hid hx
                  clear hx hx0 hb hr1 hr2
                  go_wp2_with fail
                  go_quiet (fail)
                  have HX3 := Lib.hid (HX2.out.drewN (w := W7) nq)
                  go_wp2_with fail
                  go_roundw
                  case rel => exact ⟨p + 1, by omega, by go_num, by rw [HNX.out]; rfl, HX3.out⟩
                  case measure => simp [intOf]; omega
                | true =>
                  have HB1 := Lib.hid hb
                  have xd : Ext W7 (World.drew W7) := (Ext.refl _).drewN 1
                  have b0 : ∀ w', Ext W7 w' → w'.cell? ⟨w.heap.size, 0, none⟩ = some (.slice (some ad0) N cd) := fun w' h => (h.cell (World.block_lt_of_cell? _ _ q0)).trans q0
                  have b1 : ∀ w', Ext W7 w' → w'.cell? (ad0.add p) = some (.slice D1 data[p].length e1) := fun w' h => (h.cell (p := ad0.add p) (World.block_lt_of_cell? _ _ hc1)).trans hc1
                  have b2 : ∀ w', Ext W7 w' → w'.cell? (a8.add p) = some (.slice D2 D[p].length e2) := fun w' h => (h.cell (p := a8.add p) (World.block_lt_of_cell? _ _ hc2)).trans hc2
                  have hL2 : L ≤ 1048576 := hLb
                  have HX0 := Lib.hid hx
                  clear hb hx hx0 hc1 hc2 q0
                  go_wp2_with fail
                  refine Grd.wp_region_mix (fun i => [3, 3, 3, 0, 3, 3, 0, 3, 3, 1, 3, 3, 3, 0, 3, 3, 1, 1, 3, 3].getD i 0) (fun w' => Ext W7 w') hmo (by kernel_rfl) (by kernel_rfl) xd ?_
                  refine Grd.mix_pure (.bool true) rfl (by kernel_rfl) (fun w' => by go_simp) ?_
                  refine Grd.mix_pure (.bool true) rfl (by kernel_rfl) (fun w' => by go_simp) ?_
                  refine Grd.mix_pure (.pointer (some ⟨w.heap.size, 0, none⟩)) rfl (by kernel_rfl) (fun w' => by go_simp) ?_
                  refine Grd.mix_still (.slice (some ad0) N cd) rfl (by kernel_rfl) (fun w' hw' => by have := b0 w' hw'; go_simp) ?_
                  refine Grd.mix_pure (.int .i64 (p : Int)) rfl (by kernel_rfl) (fun w' => by go_simp) ?_
                  refine Grd.mix_pure (.pointer (some (ad0.add p))) rfl (by kernel_rfl) (fun w' => by go_simp) ?_
                  refine Grd.mix_still (.slice D1 data[p].length e1) rfl (by kernel_rfl) (fun w' hw' => by have := b1 w' hw'; go_simp) ?_
                  refine Grd.mix_pure (.slice (some ⟨W2.heap.size, 0, none⟩) L L) rfl (by kernel_rfl) (fun w' => by go_simp) ?_
                  refine Grd.mix_pure (.int .i64 (L : Int)) rfl (by kernel_rfl) (fun w' => by go_simp) ?_
                  refine Grd.mix_call 81 #[.slice D1 data[p].length e1, .int .i64 (L : Int)] rfl (by kernel_rfl) (by go_simp) ?_
                  refine (padded_n D1 data[p].length e1 L data[p] _ rfl (hr1.ext xd) hL2).mono ?_
                  rintro e w8 ⟨g8, rfl, ho8, hx8⟩
                  have x8 := xd.trans hx8
                  refine ⟨_, rfl, x8, ?_⟩
                  refine Grd.mix_pure (.slice (some a8) N c8) rfl (by kernel_rfl) (fun w' => by go_simp) ?_
                  refine Grd.mix_pure (.int .i64 (p : Int)) rfl (by kernel_rfl) (fun w' => by go_simp) ?_
                  refine Grd.mix_pure (.pointer (some (a8.add p))) rfl (by kernel_rfl) (fun w' => by go_simp) ?_
                  refine Grd.mix_still (.slice D2 D[p].length e2) rfl (by kernel_rfl) (fun w' hw' => by have := b2 w' hw'; go_simp) ?_
                  refine Grd.mix_pure (.slice (some ⟨W2.heap.size, 0, none⟩) L L) rfl (by kernel_rfl) (fun w' => by go_simp) ?_
                  refine Grd.mix_pure (.int .i64 (L : Int)) rfl (by kernel_rfl) (fun w' => by go_simp) ?_
                  refine Grd.mix_call 81 #[.slice D2 D[p].length e2, .int .i64 (L : Int)] rfl (by kernel_rfl) (by go_simp) ?_
                  refine (padded_n D2 D[p].length e2 L D[p] _ rfl (hr2.ext x8) hL2).mono ?_
                  rintro e w9 ⟨g9, rfl, ho9, hx9⟩
                  refine ⟨_, rfl, x8.trans hx9, ?_⟩
                  refine Grd.mix_call 80 #[.slice (some ⟨g8, 0, none⟩) L L, .slice (some ⟨g9, 0, none⟩) L L] rfl (by kernel_rfl) (by go_simp) ?_
                  refine (sameBytes_any (some ⟨g8, 0, none⟩) (some ⟨g9, 0, none⟩) L L (padR L data[p]) (padR L D[p]) L L _ (padR_length _ _) (padR_length _ _) (ho8.rd.ext hx9) ho9.rd (by omega) (by omega)).mono ?_
                  rintro e w10 ⟨rfl, hx10⟩
                  refine ⟨_, rfl, (x8.trans hx9).trans hx10, ?_⟩
                  rw [← HB1.out]
                  refine Grd.mix_pure (.bool b) rfl (by kernel_rfl) (fun w' => by go_simp) ?_
                  refine Grd.mix_pure (.bool b) rfl (by kernel_rfl) (fun w' => by go_simp) ?_
                  refine Grd.mix_nil ?_
                  have HX3 := Lib.hid (HX0.out.trans ((x8.trans hx9).trans hx10))
                  clear b0 b1 b2 xd x8 hx8 hx9 hx10 ho8 ho9 hr1 hr2
                  go_wp2_with fail
                  go_roundw
                  case rel => exact ⟨p + 1, by omega, by go_num, by rw [HNX.out]; rfl, HX3.out⟩
                  case measure => simp [intOf]; omega
              · obtain rfl : p = N := by omega
                have q1 : World.cell? W7 ⟨w.heap.size, 1, none⟩ = some (.int .i64 (m : Int)) := (BK.out.below hx BK.out.lt).cell 1
                have HXF := Lib.hid (Y.out.trans hx)
                have hf1 := PFAR.out
                have hf2 := PSAME.out
                rw [← HDD.out] at hf1 hf2
                clear hx
                cases one with
                | true =>
                  have hd0 : dd = 0 := hf2 (sameN_true HYL.out HZL.out hone.symm)
                  clear hf1 hf2 hone HDD
                  subst hd0
                  go_wp2_with fail
                  go_ret
                  exact ⟨rfl, HXF.out⟩
                | false =>
                  have hdm : ¬ dd ≤ m := fun h => by
                    have h1 := hf1 h
                    rw [h1, sameN_refl] at hone
                    cases hone
                  have hdi : decide ((m : Int) < (dd : Int)) = true := decide_eq_true (by omega)
                  have hdn : decide (m < dd) = true := decide_eq_true (by omega)
                  clear hf1 hf2 hone HDD
                  go_wp2_with fail
                  go_ret
                  exact ⟨rfl, HXF.out⟩
end Go.Proofs.Ytemnlcfabaocbaa
