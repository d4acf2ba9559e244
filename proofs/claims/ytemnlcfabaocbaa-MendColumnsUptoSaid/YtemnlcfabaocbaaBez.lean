/-
  Euclid's row: what it is made of; the parts of a law that asks it.
-/
import Derived.Test.YtemnlcfabaocbaaPoly8
import Derived.Test.YtemnlcfabaocbaaLaw3
namespace Go.Proofs.Ytemnlcfabaocbaa
open Go.RowKit Gf
set_option maxRecDepth 20000
set_option linter.unusedVariables false

theorem one_trim : Trimmed [1] := by unfold Trimmed; decide +kernel
theorem RowN.made {p q : List E} : ∀ (n : Nat) (r : Row), RowN p q n r → Trimmed r.u ∧ Trimmed r.v ∧ ser r.g = S.add (S.mul (ser r.u) (ser p)) (S.mul (ser r.v) (ser q))
  | 0, r, h => by
    rw [show r = _ from h]
    refine ⟨one_trim, trimmed_nil, ?_⟩
    show ser (trim p) = S.add (S.mul (ser [1]) (ser p)) (S.mul (ser []) (ser q))
    rw [ser_trim, ser_one, S.one_mul, ser_nil, S.zero_mul, S.add_zero]
  | 1, r, h => by
    rw [show r = _ from h]
    refine ⟨trimmed_nil, one_trim, ?_⟩
    show ser (trim q) = S.add (S.mul (ser []) (ser p)) (S.mul (ser [1]) (ser q))
    rw [ser_trim, ser_one, S.one_mul, ser_nil, S.zero_mul, S.zero_add]
  | n + 2, ⟨g, u, v⟩, ⟨a, b, s, ha, hb, hd, hu, hv⟩ => by
    obtain ⟨-, -, h1⟩ := RowN.made n a ha
    obtain ⟨-, -, h2⟩ := RowN.made (n + 1) b hb
    dsimp only at hd hu hv
    subst hu hv
    refine ⟨trimmed_plusL _ _, trimmed_plusL _ _, ?_⟩
    show ser g = _
    have h3 := S.eq_add hd.eq
    rw [h3, h1, h2]
    simp only [ser_plusL, ser_timesL, S.add_mul, S.mul_add, S.mul_assoc]
    simp only [S.add_assoc, S.add_left_comm]
theorem PartRes.made {p q : List E} {k : Nat} {g u v : List E} (h : PartRes p q k ⟨g, u, v⟩) : plusL (timesL u p) (timesL v q) = g ∧ Trimmed u ∧ Trimmed v ∧ (Gf.dg g : Int) - 1 < k ∧ g.length ≤ k ∧ Trimmed g := by
  obtain ⟨n, h1, h2, -⟩ := h
  obtain ⟨a, b, c⟩ := RowN.made n _ h1
  have ht := RowN.tr n _ h1
  dsimp only at a b c ht h2
  refine ⟨(trimmed_plusL _ _).eq ht (by rw [ser_plusL, ser_timesL, ser_timesL, c]), a, b, ?_, h2, ht⟩
  rw [ht.dg]; omega
theorem PartRes.multiple {p q d : List E} {k : Nat} {g u v s r : List E} {e : Int} (h : PartRes (timesL p d) (timesL q d) k ⟨g, u, v⟩) (hd : 0 < dg d) (hs : DivAny g d s r e) : r = [] ∧ e = 0 := by
  obtain ⟨n, h1, -, -⟩ := h
  obtain ⟨-, -, c⟩ := RowN.made n _ h1
  rcases hs with ⟨h0, -⟩ | ⟨-, hs, he⟩
  · omega
  · refine ⟨?_, he⟩
    have hk : DivOK g d (plusL (timesL u p) (timesL v q)) [] := ⟨trimmed_plusL _ _, trimmed_nil, by
      dsimp only at c
      rw [c]
      simp only [ser_plusL, ser_timesL, ser_nil, S.zero_add, S.add_mul, S.mul_assoc], by simpa using hd⟩
    exact (hs.uniq hk).2
theorem polyPartial_zero (A C : Option Addr) (n m ca cb : Nat) (p q : List E) (w : World) (hn : p.length = n) (hm : q.length = m) (hr : Rd w A (bs p)) (hs : Rd w C (bs q)) (hlen : n ≤ 4000000) (hlenq : m ≤ 4000000) (hca : n ≤ ca) (hcb : m ≤ cb) :
    Calls Try.prog 52 #[.slice A n ca, .slice C m cb, .int .i64 0] w fun e w' => ∃ vg vu vv u v, e = .returned (.tuple #[vg, vu, vv, .int .i64 0]) ∧ plusL (timesL u p) (timesL v q) = [] ∧
      Own w' w.heap.size 34 vg (bs []) ∧ Own w' w.heap.size 34 vu (bs u) ∧ Own w' w.heap.size 34 vv (bs v) ∧ Ext w w' ∧ u.length ≤ 40000000000000 ∧ v.length ≤ 40000000000000 := by
  refine (polyPartial_n A C n m ca cb p q 0 w hn hm hr hs hlen hlenq hca hcb (by decide)).mono ?_
  rintro e w' ⟨vg, vu, vv, ⟨g, u, v⟩, rfl, hp, h1, h2, h3, h4, h5, h6, h7⟩
  obtain ⟨a, -, -, -, hg, -⟩ := hp.made
  dsimp only at h1 h2 h3 h5 h6 hg
  obtain rfl : g = [] := List.length_eq_zero_iff.1 (by omega)
  exact ⟨vg, vu, vv, u, v, rfl, a, h1, h2, h3, h4, h5, h6⟩
theorem wf_nat (j : Nat) (h : j ≤ 9000000000000000000) : (Lit.int .i64 (j : Int)).wf = true := by
  have h1 : IntKind.i64.min = -9223372036854775808 := by decide
  have h2 : IntKind.i64.max = 9223372036854775807 := by decide
  simp only [Lit.wf, h1, h2, Bool.and_eq_true, decide_eq_true_eq]; omega
theorem deg_pos {n : Nat} (h : 0 < n) (hb : n ≤ 1048576) : ∃ e e1 e3 : Nat, (n : Int) - 1 = (e : Int) ∧ e ≤ 1048576 ∧ e1 = e + 1 ∧ e3 = e + 3 ∧ wrap64 ((e : Int) + 1) = (e1 : Int) ∧ wrap64 ((e : Int) + 3) = (e3 : Int) ∧ decide ((0 : Int) ≤ (e : Int)) = true := by
  refine ⟨n - 1, n - 1 + 1, n - 1 + 3, by omega, by omega, rfl, rfl, ?_, ?_, decide_eq_true (by omega)⟩
  · rw [IntWalk.wrap64_in _ (by omega)]; omega
  · rw [IntWalk.wrap64_in _ (by omega)]; omega
end Go.Proofs.Ytemnlcfabaocbaa
