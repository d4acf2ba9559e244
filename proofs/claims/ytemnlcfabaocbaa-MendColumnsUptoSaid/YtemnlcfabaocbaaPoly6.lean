/-
  The walks of layer 2: the division by nothing; the product over points; the polynomial through points.
-/
import Derived.Test.YtemnlcfabaocbaaPoly5
import Derived.Test.YtemnlcfabaocbaaPoly2
namespace Go.Proofs.Ytemnlcfabaocbaa
open Go.RowKit Gf
set_option maxRecDepth 20000
set_option linter.unusedVariables false

theorem polyDivide_zero (A C : Option Addr) (n m ca cb : Nat) (q : List E) (w : World) (hm : q.length = m) (hs : Rd w C (bs q)) (hlenq : m ≤ 140737488355328) (h0 : dg q = 0) :
    Calls Try.prog 45 #[.slice A n ca, .slice C m cb] w fun e w' => e = .returned (.tuple #[.slice none 0 0, .slice none 0 0, .int .i64 10]) ∧ Ext w w' := by
  obtain ⟨wq, hwq⟩ : ∃ wq, wq = w.alloc (.cells #[.slice C m cb] 26) := ⟨_, rfl⟩
  have xq : Ext w wq := by rw [hwq]; exact (Ext.refl w).alloc _
  have HD := Lib.hid (show Calls Try.prog 34 #[.slice C m cb] wq fun e w' => e = .returned (.int .i64 (-1)) ∧ wq = w' from
    (degree_n _ m q _ _ hm (hs.ext xq) (by omega)).mono fun e w' ⟨he, hw⟩ => ⟨by rw [he, h0]; rfl, hw⟩)
  rw [hwq] at HD
  clear h0 hm
  go_enter Try.func45, Try.ntmps45
  go_wp2_with (go_at_call 34; refine HD.out.mono ?_; rintro e w' ⟨rfl, rfl⟩)
  go_ret3
  exact ⟨rfl, ((Ext.refl w).alloc _).alloc _⟩
/-- What a division answers, of whatever two. -/
def DivAny (p q s r : List E) (k : Int) : Prop := (dg q = 0 ∧ s = [] ∧ r = [] ∧ k = 10) ∨ (0 < dg q ∧ DivOK p q s r ∧ k = 0)
theorem DivOK.ls {p q s r : List E} (h : DivOK p q s r) : s.length ≤ p.length := by
  obtain ⟨d, hd⟩ : ∃ d, dg q = d + 1 := ⟨dg q - 1, by have := h.lt; omega⟩
  have hg : S.Dlt (ser q) (d + 1) := hd ▸ dg_dlt q
  have h0 : ser q d ≠ 0 := by have := dg_last q (by omega); rwa [hd] at this
  rcases Nat.eq_zero_or_pos s.length with hz | hz
  · omega
  · obtain ⟨k, hk⟩ : ∃ k, s.length = k + 1 := ⟨s.length - 1, by omega⟩
    have hs : S.Dlt (ser s) (k + 1) := hk ▸ dlt_ser s
    have hs0 := h.ts.last (by omega)
    rw [hk, Nat.add_sub_cancel] at hs0
    have hm := S.lead_mul hs hg
    rcases Nat.lt_or_ge (k + d) p.length with h1 | h1
    · omega
    · have e := congrFun h.eq (k + d)
      rw [ser_out p (k + d) h1] at e
      simp only [S.add] at e
      rw [ser_out r (k + d) (by have := h.lt; omega), E.zero_add, hm] at e
      rcases E.mul_eq_zero.1 e with h2 | h2
      · exact absurd h2 hs0
      · exact absurd h2 h0
theorem DivAny.ls {p q s r : List E} {k : Int} (h : DivAny p q s r k) : s.length ≤ p.length := by
  rcases h with ⟨_, rfl, _, _⟩ | ⟨_, h, _⟩
  · exact Nat.zero_le _
  · exact h.ls
theorem DivAny.lr {p q s r : List E} {k : Int} (h : DivAny p q s r k) : r.length ≤ q.length := by
  rcases h with ⟨_, _, rfl, _⟩ | ⟨_, h, _⟩
  · exact Nat.zero_le _
  · have := h.lt; have := dg_le q; omega
theorem polyDivide_all (A C : Option Addr) (n m ca cb : Nat) (p q : List E) (w : World) (hn : p.length = n) (hm : q.length = m) (hr : Rd w A (bs p)) (hs : Rd w C (bs q)) (hlen : n ≤ 140737488355328) (hlenq : m ≤ 140737488355328) (hca : n ≤ ca) (hcb : m ≤ cb) :
    Calls Try.prog 45 #[.slice A n ca, .slice C m cb] w fun e w' => ∃ vs vr s r k, e = .returned (.tuple #[vs, vr, .int .i64 k]) ∧ DivAny p q s r k ∧ Own w' w.heap.size 34 vs (bs s) ∧ Own w' w.heap.size 34 vr (bs r) ∧
      (∀ g, vs.ownBlock = some g → vr.ownBlock ≠ some g) ∧ Ext w w' := by
  rcases Nat.eq_zero_or_pos (dg q) with h0 | h0
  · refine (polyDivide_zero A C n m ca cb q w hm hs hlenq h0).mono ?_
    rintro e w' ⟨rfl, hx⟩
    exact ⟨_, _, [], [], 10, rfl, .inl ⟨h0, rfl, rfl, rfl⟩, Own.nil _ _ _, Own.nil _ _ _, (fun g hg => by cases hg), hx⟩
  · refine (polyDivide_n A C n m ca cb p q w hn hm hr hs hlen hlenq hca hcb h0).mono ?_
    rintro e w' ⟨vs, vr, s, r, rfl, hok, h1, h2, h3, hx⟩
    exact ⟨vs, vr, s, r, 0, rfl, .inr ⟨h0, hok, rfl⟩, h1, h2, h3, hx⟩
end Go.Proofs.Ytemnlcfabaocbaa
