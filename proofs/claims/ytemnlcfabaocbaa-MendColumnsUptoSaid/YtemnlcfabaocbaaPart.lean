/-
  Euclid's row, plain: each row is the only one of its number; where it is ended.
-/
import Derived.Test.YtemnlcfabaocbaaRef4
namespace Go.Proofs.Ytemnlcfabaocbaa
open Go.RowKit Gf
set_option linter.unusedVariables false

structure Row where
  g : List E
  u : List E
  v : List E
def RowN (p q : List E) : Nat → Row → Prop
  | 0, r => r = ⟨trim p, [1], []⟩
  | 1, r => r = ⟨trim q, [], [1]⟩
  | n + 2, r => ∃ a b s, RowN p q n a ∧ RowN p q (n + 1) b ∧ DivOK a.g b.g s r.g ∧ r.u = plusL a.u (timesL s b.u) ∧ r.v = plusL a.v (timesL s b.v)
theorem RowN.uniq {p q : List E} : ∀ (n : Nat) (r r' : Row), RowN p q n r → RowN p q n r' → r = r'
  | 0, r, r', h, h' => by rw [show r = _ from h, show r' = _ from h']
  | 1, r, r', h, h' => by rw [show r = _ from h, show r' = _ from h']
  | n + 2, ⟨g, u, v⟩, ⟨g', u', v'⟩, ⟨a, b, s, ha, hb, hd, hu, hv⟩, ⟨a', b', s', ha', hb', hd', hu', hv'⟩ => by
    obtain rfl := RowN.uniq n a a' ha ha'
    obtain rfl := RowN.uniq (n + 1) b b' hb hb'
    obtain ⟨rfl, hr⟩ := hd.uniq hd'
    dsimp only at hr hu hv hu' hv'
    rw [hr, hu, hv, hu', hv']
theorem RowN.tr {p q : List E} : ∀ (n : Nat) (r : Row), RowN p q n r → Trimmed r.g
  | 0, r, h => by rw [show r = _ from h]; exact trimmed_trim _
  | 1, r, h => by rw [show r = _ from h]; exact trimmed_trim _
  | n + 2, r, ⟨a, b, s, ha, hb, hd, hu, hv⟩ => hd.tr
/-- The first row of a length of at most k. -/
def PartRes (p q : List E) (k : Nat) (r : Row) : Prop := ∃ n, RowN p q n r ∧ r.g.length ≤ k ∧ ∀ m, m < n → ∀ x, RowN p q m x → k < x.g.length
theorem PartRes.uniq {p q : List E} {k : Nat} {r r' : Row} (h : PartRes p q k r) (h' : PartRes p q k r') : r = r' := by
  obtain ⟨n, h1, h2, h3⟩ := h
  obtain ⟨n', h1', h2', h3'⟩ := h'
  rcases Nat.lt_trichotomy n n' with hlt | rfl | hlt
  · have := h3' n hlt r h1; omega
  · exact RowN.uniq n r r' h1 h1'
  · have := h3 n' hlt r' h1'; omega
end Go.Proofs.Ytemnlcfabaocbaa
