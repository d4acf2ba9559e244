/-
  The arguments of a law opened where they are together of a bulk that is bounded: rows of bools, rows of rows of bytes, a struct of three.
-/
import Derived.Test.YtemnlcfabaocbaaOpenU
import Derived.Test.YtemnlcfabaocbaaCol0
import Derived.Test.YtemnlcfabaocbaaRowsL
import Derived.Deep.Grids
import Derived.Deep.Matrix
namespace Go.Proofs.Ytemnlcfabaocbaa
open Go.ChangeShapes Go.WideShapes Go.ChangeAt Go.RowKit Gf Go.Deep
set_option linter.unusedVariables false

section
variable {H : Type} {enc : TypeId × Value → H} {P : Program} {w : World}
theorem open_bools_u {base : Nat} {held : Bool} {t e : TypeId} {fuel : Nat} {cs : List Value} {y : DataW H × List MemPlace} (ht : P.underlying t = some (.slice e)) (he : P.underlying e = some .bool) (hc : P.cellsOf e = 1)
    (h : DataW.trod enc P w base (fun _ => true) held fuel t cs = some y) (hB : Rows.uptoBulk y.1 ≤ 1048576) :
    ∃ (A : Option Addr) (cap : Nat) (xs : List Bool), cs = [.slice A xs.length cap] ∧ Rd w A (bools xs) ∧ xs.length ≤ cap ∧ cap ≤ 1048576 := by
  rcases open_bools ht he hc h with ⟨hcs, _⟩ | ⟨a, l, c', B, hcs, _, hl, hm, hx, hcell⟩
  · exact ⟨none, 0, [], hcs, Rd.nil _ _, Nat.le_refl _, by omega⟩
  · have hcap : c' ≤ 1048576 := by
      rw [hx] at hB
      simp only [boolRow, Rows.uptoBulk] at hB
      have h1 := bulk_len (H := H) ((List.range l).map fun i => .lit (.bool (B i)))
      have h2 := bulk_len (H := H) ((List.range (c' - l)).map fun i => .lit (.bool (B (l + i))))
      rw [List.length_map, List.length_range] at h1 h2
      omega
    refine ⟨some a, c', (List.range l).map B, by simpa using hcs, fun _ => ⟨a, rfl, fun j u hu => ?_⟩, by simpa using hl, hcap⟩
    have hj : j < l := by
      have := (List.getElem?_eq_some_iff.1 hu).1
      simpa [bools] using this
    rw [hcell j (by omega)]
    rw [bools, List.getElem?_map, List.getElem?_map, List.getElem?_range hj] at hu
    simpa using hu
theorem array3 {α : Type} {cs : Array α} (h : cs.size = 3) : ∃ c0 c1 c2, cs = #[c0, c1, c2] := by
  obtain ⟨l⟩ := cs
  match l, h with
  | [c0, c1, c2], _ => exact ⟨c0, c1, c2, rfl⟩
theorem open_agg3u {base : Nat} {spare : Nat → Bool} {held : Bool} {r : Reach} {b0 : Nat} {t : TypeId} {f0 f1 f2 : Field} {v : Value} {d : DataW H} {p : List MemPlace} (hs : P.underlying t = some (.struct #[f0, f1, f2])) (hone : oneCellFields P #[f0, f1, f2] = true) (hC : P.cellsOf t = 3)
    (hv : Value.okWide P w r b0 t v) (h : DataW.Trod enc P w base spare held t v d p) :
    ∃ (v0 v1 v2 : Value) (y0 y1 y2 : DataW H × List MemPlace) (n : Nat), v = .agg #[v0, v1, v2] ∧ d = .agg [y0.1, y1.1, y2.1] ∧
      DataW.trod enc P w base spare held n f0.type [v0] = some y0 ∧ DataW.trod enc P w base spare held n f1.type [v1] = some y1 ∧ DataW.trod enc P w base spare held n f2.type [v2] = some y2 := by
  obtain ⟨cs, rfl, hsz⟩ := okWide_struct hs hv
  obtain ⟨c0, c1, c2, rfl⟩ := array3 (hsz.trans hC)
  obtain ⟨fuel, hf⟩ := h
  obtain ⟨xs, n, _, hx, hl, hlen, hff⟩ := DataW.trod_struct hs hf
  obtain ⟨o0, k0⟩ := hone_of hone 0 f0 rfl
  obtain ⟨o1, k1⟩ := hone_of hone 1 f1 rfl
  obtain ⟨o2, k2⟩ := hone_of hone 2 f2 rfl
  match xs, hlen with
  | [y0, y1, y2], _ =>
    simp only [Prod.mk.injEq] at hx
    exact ⟨c0, c1, c2, y0, y1, y2, n, rfl, by simpa using hx.1, by simpa [Value.cells, o0, k0] using hff 0 f0 rfl, by simpa [Value.cells, o1, k1] using hff 1 f1 rfl, by simpa [Value.cells, o2, k2] using hff 2 f2 rfl⟩
theorem intRow_bulk {k : IntKind} {A : Option Addr} {L : Nat} {Z : List Int} (h : A = none → Z.length = 0) : Z.length ≤ Rows.uptoBulk (H := H) (intRow k A L Z) := by
  cases A with
  | none => rw [h rfl]; exact Nat.zero_le _
  | some a =>
    simp only [intRow, Rows.uptoBulk]
    have h1 := bulk_len (H := H) (lits k (Z.take L))
    have h2 := bulk_len (H := H) (lits k (Z.drop L))
    rw [lits_length, List.length_take] at h1
    rw [lits_length, List.length_drop] at h2
    omega
theorem open_rows_u {base : Nat} {held : Bool} {t e q : TypeId} {fuel : Nat} {cs : List Value} {y : DataW H × List MemPlace} (ht : P.underlying t = some (.slice e)) (he : P.underlying e = some (.slice q)) (hq : P.underlying q = some (.int .u8)) (ce : P.cellsOf e = 1) (cq : P.cellsOf q = 1)
    (h : DataW.trod enc P w base (fun _ => true) held fuel t cs = some y) (hB : Rows.uptoBulk y.1 ≤ 1048576) :
    ∃ (A : Option Addr) (cap : Nat) (rs : List (List E)), cs = [.slice A rs.length cap] ∧ RdRows w A rs ∧ rs.length ≤ cap ∧ cap ≤ 1048576 ∧ ∀ r ∈ rs, r.length ≤ 1048576 := by
  rcases open_int_rows ht he hq ce cq h with ⟨hcs, _⟩ | ⟨a, l, c', A, L, C, Z, hcs, _, hl, hm, hx, hrow⟩
  · exact ⟨none, 0, [], hcs, ⟨[], rfl, Rd.nil _ _, fun i r hi => by simp at hi⟩, Nat.le_refl _, by omega, by simp⟩
  · rw [hx] at hB
    simp only [Rows.uptoBulk] at hB
    have h1 := bulk_len (H := H) ((List.range l).map fun r => intRow .u8 (A r) (L r) (Z r))
    have h2 := bulk_len (H := H) ((List.range (c' - l)).map fun j => intRow .u8 (A (l + j)) (L (l + j)) (Z (l + j)))
    rw [List.length_map, List.length_range] at h1 h2
    have hcap : c' ≤ 1048576 := by omega
    have hC : ∀ r, r < l → C r ≤ 1048576 := fun r hr => by
      obtain ⟨_, _, _, hz, _, hnone, _⟩ := hrow r (by omega)
      have h3 := intRow_bulk (H := H) (k := .u8) (A := A r) (L := L r) (Z := Z r) (fun e => by rw [hz]; exact hnone e)
      have h4 := bulk_part (H := H) (List.mem_map.2 ⟨r, List.mem_range.2 hr, rfl⟩ : intRow .u8 (A r) (L r) (Z r) ∈ (List.range l).map fun r => intRow .u8 (A r) (L r) (Z r))
      omega
    have hE : ∀ r, r < l → ∃ xs : List E, xs.length = L r ∧ Rd w (A r) (bs xs) ∧ L r ≤ C r ∧ C r ≤ maxLen := fun r hr => by
      obtain ⟨_, hLC, hCm, hz, hwf, hnone, hcell⟩ := hrow r (by omega)
      let f : Nat → E := fun i => ⟨((Z r).getD i 0).toNat % 256, Nat.mod_lt _ (by decide)⟩
      have hf : ∀ i, i < (Z r).length → (Z r).getD i 0 = ((f i).val : Int) := fun i hi => by
        have hmem : (Z r).getD i 0 ∈ Z r := by
          rw [List.getD_eq_getElem?_getD, List.getElem?_eq_getElem hi]
          exact List.getElem_mem hi
        obtain ⟨x, hx⟩ := toE (hwf _ hmem)
        have hlt := x.lt
        show (Z r).getD i 0 = ((((Z r).getD i 0).toNat % 256 : Nat) : Int)
        rw [hx]
        omega
      refine ⟨(List.range (L r)).map f, by simp, fun hn => ?_, hLC, hCm⟩
      have hL0 : 0 < L r := by simpa [bs] using hn
      cases eA : A r with
      | none => have := hnone eA; omega
      | some ad =>
        refine ⟨ad, rfl, fun j u hu => ?_⟩
        have hj : j < L r := by
          have := (List.getElem?_eq_some_iff.1 hu).1
          simpa [bs] using this
        rw [(hcell ad eA).2 j (by omega), hf j (by omega)]
        rw [bs, List.getElem?_map, List.getElem?_map, List.getElem?_range hj] at hu
        simpa [bv] using hu
    obtain ⟨xs, hxs⟩ := choose_lt hE
    refine ⟨some a, c', (List.range l).map xs, by simpa using hcs, ⟨(List.range l).map fun r => .slice (A r) (L r) (C r), by simp, fun _ => ⟨a, rfl, fun j u hu => ?_⟩, fun i r hi => ?_⟩, by simpa using hl, hcap, fun r hr => ?_⟩
    · have hj : j < l := by
        have := (List.getElem?_eq_some_iff.1 hu).1
        simpa using this
      rw [(hrow j (by omega)).1]
      rw [List.getElem?_map, List.getElem?_range hj] at hu
      simpa using hu
    · have hj : i < l := by
        have := (List.getElem?_eq_some_iff.1 hi).1
        simpa using this
      rw [List.getElem?_map, List.getElem?_range hj] at hi
      simp only [Option.map_some, Option.some.injEq] at hi
      obtain ⟨e1, e2, e3, e4⟩ := hxs i hj
      subst hi
      exact ⟨A i, C i, by rw [List.getElem?_map, List.getElem?_range hj, e1]; rfl, e2, by rw [e1]; exact e3, e4⟩
    · obtain ⟨i, hi, rfl⟩ := List.mem_map.1 hr
      have hj := List.mem_range.1 hi
      rw [(hxs i hj).1]
      exact Nat.le_trans (hxs i hj).2.2.1 (hC i hj)
end
end Go.Proofs.Ytemnlcfabaocbaa
