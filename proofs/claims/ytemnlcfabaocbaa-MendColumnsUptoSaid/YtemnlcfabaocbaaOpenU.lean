/-
  The arguments of a law opened where they are together of a bulk that is bounded: rows of bytes, the struct of three rows, a byte and a number.
-/
import Derived.Test.YtemnlcfabaocbaaOpen
import Derived.Test.YtemnlcfabaocbaaRows
import Derived.Deep.CondSized
import Derived.Lib.SmallJoins
namespace Go.Proofs.Ytemnlcfabaocbaa
open Go.ChangeShapes Go.WideShapes Go.ChangeAt Go.RowKit Gf Go.Deep

section
variable {H : Type} {enc : TypeId × Value → H} {P : Program} {w : World}
theorem bulk_one (d : DataW H) : 1 ≤ Rows.uptoBulk d := by
  cases d with
  | lit l => cases l <;> simp [Rows.uptoBulk]
  | nil => simp [Rows.uptoBulk]
  | ptr d => simp [Rows.uptoBulk]
  | slice elems spare => simp [Rows.uptoBulk]
  | agg parts => simp [Rows.uptoBulk]
  | iface t d => simp [Rows.uptoBulk]
  | map entries => simp [Rows.uptoBulk]
  | held h => simp [Rows.uptoBulk]
theorem bulk_len (l : List (DataW H)) : l.length ≤ Rows.uptoBulkAll l := by
  induction l with
  | nil => simp [Rows.uptoBulkAll]
  | cons x r ih => have := bulk_one x; simp only [Rows.uptoBulkAll, List.length_cons]; omega
theorem bulk_part {d : DataW H} {l : List (DataW H)} (h : d ∈ l) : Rows.uptoBulk d ≤ Rows.uptoBulkAll l := by
  induction l with
  | nil => cases h
  | cons x r ih =>
    simp only [Rows.uptoBulkAll]
    cases List.mem_cons.1 h with
    | inl e => subst e; omega
    | inr e => have := ih e; omega
theorem bulk_bound {l : List (DataW H)} {d : DataW H} (hk : Rows.uptoSmall H l = true) (h : d ∈ l) : Rows.uptoBulk d ≤ 1048576 :=
  Nat.le_trans (bulk_part h) (of_decide_eq_true hk)
/-- A row of bytes that came in, of bounded bulk. -/
theorem open_bytes_u {base : Nat} {held : Bool} {t e : TypeId} {fuel : Nat} {cs : List Value} {y : DataW H × List MemPlace} (ht : P.underlying t = some (.slice e)) (he : P.underlying e = some (.int .u8)) (hc : P.cellsOf e = 1)
    (h : DataW.trod enc P w base (fun _ => true) held fuel t cs = some y) (hB : Rows.uptoBulk y.1 ≤ 1048576) :
    ∃ (A : Option Addr) (cap : Nat) (xs : List E), cs = [.slice A xs.length cap] ∧ Rd w A (bs xs) ∧ xs.length ≤ cap ∧ cap ≤ 1048576 := by
  rcases open_ints ht he hc h with ⟨hcs, _⟩ | ⟨x, l, c', zs, hcs, _, hl, hm, hz, hx, hcell, hwz⟩
  · exact ⟨none, 0, [], hcs, Rd.nil _ _, Nat.le_refl _, by omega⟩
  · simp only [if_true] at hz
    have hcap : c' ≤ 1048576 := by
      rw [hx] at hB
      simp only [Rows.uptoBulk] at hB
      have h1 := bulk_len (H := H) (lits .u8 (zs.take l))
      have h2 := bulk_len (H := H) (lits .u8 (zs.drop l))
      rw [lits_length, List.length_take] at h1
      rw [lits_length, List.length_drop] at h2
      omega
    have hE : ∀ i, i < zs.length → ∃ x : E, zs.getD i 0 = (x.val : Int) := fun i hi => by
      have : zs.getD i 0 ∈ zs := by
        rw [List.getD_eq_getElem?_getD, List.getElem?_eq_getElem hi]
        exact List.getElem_mem hi
      exact toE (hwz _ this)
    let f : Nat → E := fun i => ⟨(zs.getD i 0).toNat % 256, Nat.mod_lt _ (by decide)⟩
    have hf : ∀ i, i < zs.length → zs.getD i 0 = ((f i).val : Int) := fun i hi => by
      obtain ⟨x, hx⟩ := hE i hi
      have hlt := x.lt
      show zs.getD i 0 = (((zs.getD i 0).toNat % 256 : Nat) : Int)
      rw [hx]
      omega
    refine ⟨some x, c', (List.range l).map f, by simpa using hcs, fun _ => ⟨x, rfl, fun j u hu => ?_⟩, by simpa using hl, hcap⟩
    have hj : j < l := by
      have := (List.getElem?_eq_some_iff.1 hu).1
      simpa [bs] using this
    rw [hcell j (by omega), hf j (by omega)]
    rw [bs, List.getElem?_map, List.getElem?_map, List.getElem?_range hj] at hu
    simpa [bv] using hu
theorem array5 {α : Type} {cs : Array α} (h : cs.size = 5) : ∃ c0 c1 c2 c3 c4, cs = #[c0, c1, c2, c3, c4] := by
  obtain ⟨l⟩ := cs
  match l, h with
  | [c0, c1, c2, c3, c4], _ => exact ⟨c0, c1, c2, c3, c4, rfl⟩
theorem open_agg5 {base : Nat} {spare : Nat → Bool} {held : Bool} {r : Reach} {b0 : Nat} {t : TypeId} {f0 f1 f2 f3 f4 : Field} {v : Value} {d : DataW H} {p : List MemPlace} (hs : P.underlying t = some (.struct #[f0, f1, f2, f3, f4])) (hone : oneCellFields P #[f0, f1, f2, f3, f4] = true) (hC : P.cellsOf t = 5)
    (hv : Value.okWide P w r b0 t v) (h : DataW.Trod enc P w base spare held t v d p) :
    ∃ (v0 v1 v2 v3 v4 : Value) (y0 y1 y2 y3 y4 : DataW H × List MemPlace) (n : Nat), v = .agg #[v0, v1, v2, v3, v4] ∧ d = .agg [y0.1, y1.1, y2.1, y3.1, y4.1] ∧
      DataW.trod enc P w base spare held n f0.type [v0] = some y0 ∧ DataW.trod enc P w base spare held n f1.type [v1] = some y1 ∧ DataW.trod enc P w base spare held n f2.type [v2] = some y2 ∧ DataW.trod enc P w base spare held n f3.type [v3] = some y3 ∧ DataW.trod enc P w base spare held n f4.type [v4] = some y4 := by
  obtain ⟨cs, rfl, hsz⟩ := okWide_struct hs hv
  obtain ⟨c0, c1, c2, c3, c4, rfl⟩ := array5 (hsz.trans hC)
  obtain ⟨fuel, hf⟩ := h
  obtain ⟨xs, n, _, hx, hl, hlen, hff⟩ := DataW.trod_struct hs hf
  obtain ⟨o0, k0⟩ := hone_of hone 0 f0 rfl
  obtain ⟨o1, k1⟩ := hone_of hone 1 f1 rfl
  obtain ⟨o2, k2⟩ := hone_of hone 2 f2 rfl
  obtain ⟨o3, k3⟩ := hone_of hone 3 f3 rfl
  obtain ⟨o4, k4⟩ := hone_of hone 4 f4 rfl
  match xs, hlen with
  | [y0, y1, y2, y3, y4], _ =>
    simp only [Prod.mk.injEq] at hx
    exact ⟨c0, c1, c2, c3, c4, y0, y1, y2, y3, y4, n, rfl, by simpa using hx.1, by simpa [Value.cells, o0, k0] using hff 0 f0 rfl, by simpa [Value.cells, o1, k1] using hff 1 f1 rfl, by simpa [Value.cells, o2, k2] using hff 2 f2 rfl,
      by simpa [Value.cells, o3, k3] using hff 3 f3 rfl, by simpa [Value.cells, o4, k4] using hff 4 f4 rfl⟩
end
end Go.Proofs.Ytemnlcfabaocbaa
