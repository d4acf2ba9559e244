/-
  The walks of the document's answer for chapter 2: Euclid's row.
-/
import Derived.Test.YtemnlcfabaocbaaRef4
import Derived.Test.YtemnlcfabaocbaaBez
import Derived.Test.YtemnlcfabaocbaaApp3
import Derived.Test.YtemnlcfabaocbaaMix
namespace Go.Proofs.Ytemnlcfabaocbaa
open Go.RowKit Gf
set_option maxRecDepth 20000
set_option linter.unusedVariables false

theorem RowN.len {p q : List E} : ∀ (i : Nat) (r : Row), RowN p q (i + 1) r → i + r.g.length ≤ q.length
  | 0, r, h => by
    rw [show r = _ from h]
    show 0 + (trim q).length ≤ _
    have := trim_le q; omega
  | i + 1, ⟨g, u, v⟩, ⟨a, b, s, ha, hb, hd, hu, hv⟩ => by
    have h1 := RowN.len i b hb
    have h2 := hd.lt
    have h3 := dg_le b.g
    dsimp only at h2 ⊢
    omega
theorem RowN.lg {p q : List E} : ∀ (i : Nat) (r : Row), RowN p q i r → r.g.length ≤ p.length + q.length
  | 0, r, h => by
    rw [show r = _ from h]
    show (trim p).length ≤ _
    have := trim_le p; omega
  | i + 1, r, h => by have := RowN.len i r h; omega
theorem RowN.luv {p q : List E} : ∀ (i : Nat), (∀ r, RowN p q i r → r.u.length ≤ (i + 1) * (p.length + q.length + 1) ∧ r.v.length ≤ (i + 1) * (p.length + q.length + 1)) ∧
    (∀ r, RowN p q (i + 1) r → r.u.length ≤ (i + 2) * (p.length + q.length + 1) ∧ r.v.length ≤ (i + 2) * (p.length + q.length + 1))
  | 0 => by
    constructor
    · intro r h
      rw [show r = _ from h]
      simp
    · intro r h
      rw [show r = _ from h]
      simp; omega
  | i + 1 => by
    obtain ⟨h1, h2⟩ := RowN.luv i
    refine ⟨h2, ?_⟩
    rintro ⟨g, u, v⟩ ⟨a, b, s, ha, hb, hd, hu, hv⟩
    have ⟨k1, k2⟩ := h1 a ha
    have ⟨k3, k4⟩ := h2 b hb
    have k5 := hd.ls
    have k6 := RowN.lg i a ha
    dsimp only at hu hv ⊢
    subst hu hv
    have e1 := plusL_le a.u (timesL s b.u)
    have e2 := timesL_le s b.u
    have e3 := plusL_le a.v (timesL s b.v)
    have e4 := timesL_le s b.v
    generalize p.length + q.length = K at *
    simp only [Nat.add_mul] at *
    omega

/-- The list xs, at A. -/
def RdF (w : World) (g : Nat) (A : Option Addr) (xs : List E) : Prop := Rd w A (bs xs) ∧ ∀ ad, A = some ad → ad.block ≠ g ∧ ad.block < w.heap.size
theorem RdF.mono {w w' : World} {g : Nat} {A : Option Addr} {xs : List E} (h : RdF w g A xs) (hx : Ext w w') : RdF w' g A xs :=
  ⟨h.1.ext hx, fun ad e => ⟨(h.2 ad e).1, Nat.lt_of_lt_of_le (h.2 ad e).2 hx.le⟩⟩
theorem RdF.moved {w w' : World} {g g' : Nat} {A : Option Addr} {xs : List E} (h : RdF w g A xs) (hm : (g' = g ∧ w.grownBy w' (some g)) ∨ (g' = w.heap.size ∧ w.grownBy w' none)) : RdF w' g' A xs := by
  have hsz : w.heap.size ≤ w'.heap.size := by rcases hm with ⟨_, h⟩ | ⟨_, h⟩ <;> exact h.size
  refine ⟨?_, fun ad e => ⟨?_, Nat.lt_of_lt_of_le (h.2 ad e).2 hsz⟩⟩
  · rcases hm with ⟨_, hg⟩ | ⟨_, hg⟩
    · exact h.1.grown hg fun ad e => by have := (h.2 ad e).1; simpa using this
    · exact h.1.grown hg fun ad e => by simp
  · have := h.2 ad e
    rcases hm with ⟨rfl, _⟩ | ⟨rfl, _⟩ <;> omega
theorem Own.rdF {w : World} {B g : Nat} {T : TypeId} {v : Value} {xs : List E} {n : Nat} (h : Own w B T v (bs xs)) (hg : g < B) (hn : xs.length = n) : ∃ A cap, v = .slice A n cap ∧ RdF w g A xs ∧ n ≤ cap ∧ cap ≤ maxLen := by
  obtain ⟨A, cap, rfl, h1, h2, h3, h4⟩ := h.slice
  rw [bs_length, hn] at h2 ⊢
  exact ⟨A, cap, rfl, ⟨h1, fun ad e => ⟨by have := (h4 ad e).1; omega, (h4 ad e).2⟩⟩, h2, h3⟩

/-- The row number i among the cells xs. -/
def RowAt (w : World) (g : Nat) (a : Row) (xs : List Value) (i : Nat) : Prop := ∃ Ag Au Av cg cu cv, xs[i * 3]? = some (.slice Ag a.g.length cg) ∧ xs[i * 3 + 1]? = some (.slice Au a.u.length cu) ∧ xs[i * 3 + 2]? = some (.slice Av a.v.length cv) ∧
  RdF w g Ag a.g ∧ RdF w g Au a.u ∧ RdF w g Av a.v
def RowsAt (p q : List E) (w : World) (g n : Nat) (xs : List Value) : Prop := ∀ i, i < n → ∃ r, RowN p q i r ∧ RowAt w g r xs i
theorem RowAt.mono {w w' : World} {g i : Nat} {a : Row} {xs : List Value} (h : RowAt w g a xs i) (hx : Ext w w') : RowAt w' g a xs i := by
  obtain ⟨Ag, Au, Av, cg, cu, cv, h1, h2, h3, h4, h5, h6⟩ := h
  exact ⟨Ag, Au, Av, cg, cu, cv, h1, h2, h3, h4.mono hx, h5.mono hx, h6.mono hx⟩
theorem RowAt.moved {w w' : World} {g g' i : Nat} {a : Row} {xs : List Value} (h : RowAt w g a xs i) (hm : (g' = g ∧ w.grownBy w' (some g)) ∨ (g' = w.heap.size ∧ w.grownBy w' none)) (ys : List Value) : RowAt w' g' a (xs ++ ys) i := by
  obtain ⟨Ag, Au, Av, cg, cu, cv, h1, h2, h3, h4, h5, h6⟩ := h
  have ap : ∀ j u, xs[j]? = some u → (xs ++ ys)[j]? = some u := fun j u hj => by
    rw [List.getElem?_append_left (List.getElem?_eq_some_iff.1 hj).1]; exact hj
  exact ⟨Ag, Au, Av, cg, cu, cv, ap _ _ h1, ap _ _ h2, ap _ _ h3, h4.moved hm, h5.moved hm, h6.moved hm⟩
def vlen : Value → Nat
  | .slice _ n _ => n
  | _ => 0
structure RI (p q : List E) (w wr : World) (N g cap : Nat) (xs : List Value) : Prop where
  ext : Ext w wr
  own : OwnR wr w.heap.size 125 3 g (N + 2) cap xs
  rows : RowsAt p q wr g (N + 2) xs

def rowZero : Value := .agg #[.slice none 0 0, .slice none 0 0, .slice none 0 0]
theorem infoRowB : (Try.prog.info? 125).map (fun i => (i.zero, i.size, i.bytes)) = some (some rowZero, 3, 72) := by kernel_rfl
theorem infoRow : ∃ i, Try.prog.info? 125 = some i ∧ i.zero = some rowZero ∧ i.size = 3 ∧ i.bytes = 72 := by
  have h := infoRowB
  cases hi : Try.prog.info? 125 with
  | none => rw [hi] at h; cases h
  | some i => rw [hi] at h; simp only [Option.map_some, Option.some.injEq, Prod.mk.injEq] at h; exact ⟨i, rfl, h.1, h.2.1, h.2.2⟩
theorem tyRow : Try.prog.underlying 122 = some (.slice 125) := by kernel_rfl
theorem run_appRow (w : World) (ty : TypeId) (B g n cap : Nat) (xs : List Value) (hown : OwnR w B 125 3 g n cap xs) (g1 c : Nat) (x y z : Value) (hnews : w.heap[g1]? = some (.cells #[x, y, z] 125))
    (h1 : x.oneCell' = true ∧ y.oneCell' = true ∧ z.oneCell' = true) (hn : n ≤ 1000000000) (hB : B ≤ w.heap.size) :
    ∃ g' cap' w', (Builtin.append_ #[122, 122] ty #[.slice (some ⟨g, 0, none⟩) n cap, .slice (some ⟨g1, 0, none⟩) 1 c]).run Try.prog w = .ok (.slice (some ⟨g', 0, none⟩) (n + 1) cap') w' ∧
      OwnR w' B 125 3 g' (n + 1) cap' (xs ++ [x, y, z]) ∧ ((g' = g ∧ w.grownBy w' (some g)) ∨ (g' = w.heap.size ∧ w.grownBy w' none)) := by
  obtain ⟨i, hi, hz, hs, hb⟩ := infoRow
  obtain ⟨r1, r2, r3⟩ := h1
  have := run_appR w (P := Try.prog) ty tyRow hi hz (by rw [hs]; rfl) B g n cap xs (by rw [hs]; exact hown) ⟨g1, 0, none⟩ c [x, y, z] (by rw [hs]; rfl) (fun j u hj => by
    have hc := cell_of_row w g1 j #[x, y, z] 125 (0, 0) hnews
    simp only [Addr.add_lit, Nat.zero_add]
    rw [hc]
    simpa using hj) (fun u hu => by
    simp only [List.mem_cons, List.not_mem_nil, or_false] at hu
    rcases hu with rfl | rfl | rfl
    · exact r1
    · exact r2
    · exact r3) (by rw [hb]; omega) (by rw [hb]; omega) hB
  rw [hs] at this
  exact this
section
variable {P : Program} {C : World → Prop} {L : Nat → Nat} {Q : Act → World → Prop}
theorem mix_laid {k : Nat} {o : Oper} {rest : List Oper} {a : Act} {w : World} (u : Value) (w' : World) (hL : L k = 1) (hr : (execOp a.eval o).run P w = .ok (.value u) w') (hc : C w')
    (h : wpMix P C L Q (k + 1) rest (a.put o.dst u) w') : wpMix P C L Q k (o :: rest) a w :=
  .inr ⟨by unfold isQ; omega, .inl ⟨u, w', hr, fun _ => hc, h⟩⟩
theorem mix_last {k : Nat} {o : Oper} {rest : List Oper} {a : Act} {w : World} (u : Value) (w' : World) (hL : L k = 2) (hr : (execOp a.eval o).run P w = .ok (.value u) w')
    (h : wpMix P C L Q (k + 1) rest (a.put o.dst u) w') : wpMix P C L Q k (o :: rest) a w :=
  .inr ⟨by unfold isQ; omega, .inl ⟨u, w', hr, fun e => by omega, h⟩⟩
theorem append_run {o : Oper} {a : Act} {w w' : World} {t : TypeId} {s x : Operand} (ho : o.op = .call { callee := .builtin .append, args := #[s, x], argTypes := #[t, t] }) {v u v' : Value} (hs : a.eval s = v) (hx : a.eval x = u)
    (h : (Builtin.append_ #[t, t] o.type #[v, u]).run P w = .ok v' w') : (execOp a.eval o).run P w = .ok (.value v') w' := by
  unfold execOp
  simp only [ho, resolve, invoke, builtin, Sem.run_bind, Sem.run_pure, Result.andThen_ok, List.map_toArray, List.map_cons, List.map_nil, hs, hx, h]
end
end Go.Proofs.Ytemnlcfabaocbaa
