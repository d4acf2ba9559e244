/-
  The walk of the document's Partial of chapter 2: the first row that is short enough.
-/
import Derived.Test.YtemnlcfabaocbaaRef7
namespace Go.Proofs.Ytemnlcfabaocbaa
open Go.RowKit Gf
set_option maxRecDepth 20000
set_option linter.unusedVariables false
theorem refPartial_neg (A C : Option Addr) (n m ca cb : Nat) (k : Int) (hk : k < 0) (w : World) :
    Calls Try.prog 51 #[.slice A n ca, .slice C m cb, .int .i64 k] w fun e w' => e = .returned (.tuple #[.slice none 0 0, .slice none 0 0, .slice none 0 0, .int .i64 2]) ∧ w = w' := by
  have hd := decide_eq_true hk
  go_enter Try.func51, Try.ntmps51
  go_wp2
  (try simp only [Exit.inBlock, Exit.then]); refine bodyPost_ret (results_tmp4 rfl _ _ _) rfl ?_
  exact ⟨rfl, rfl⟩
set_option maxHeartbeats 4000000 in
theorem refPartial_n (A C : Option Addr) (n m ca cb : Nat) (p q : List E) (k : Nat) (w : World) (hn : p.length = n) (hm : q.length = m) (hr : Rd w A (bs p)) (hs : Rd w C (bs q)) (hlen : n ≤ 4000000) (hlenq : m ≤ 4000000) :
    Calls Try.prog 51 #[.slice A n ca, .slice C m cb, .int .i64 k] w fun e w' => ∃ Ag Au Av cg cu cv r, e = .returned (.tuple #[.slice Ag r.g.length cg, .slice Au r.u.length cu, .slice Av r.v.length cv, .int .i64 0]) ∧ PartRes p q k r ∧
      Rd w' Ag (bs r.g) ∧ Rd w' Au (bs r.u) ∧ Rd w' Av (bs r.v) ∧ Ext w w' := by
  have HN := Lib.hid hn
  have HM := Lib.hid hm
  clear hn hm
  go_enter Try.func51, Try.ntmps51
  go_wp2_with fail
  refine (refRows_n A C n m ca cb p q _ HN.out HM.out hr hs hlen hlenq).mono ?_
  rintro e w1 ⟨N, g, cap, xs, rl, rfl, hI, hrl, hnil⟩
  have HI := Lib.hid hI
  have HRL := Lib.hid hrl
  have HNIL := Lib.hid hnil
  have hNm : N ≤ m := by have := RowN.len N rl hrl; rw [HM.out] at this; omega
  clear hI hrl hnil hr hs
  go_wp2_with fail
  go_loopw [11] (fun i wr => ∃ j : Nat, i = .int .i64 j ∧ j ≤ N + 1 ∧ Ext w1 wr ∧ ∀ l, l < j → ∀ x, RowN p q l x → k < x.g.length) (fun i _ => N + 2 - (intOf i).toNat)
  case atStart => exact ⟨0, rfl, by omega, Ext.refl _, fun l hl => absurd hl (by omega)⟩
  case round =>
    obtain ⟨j, rfl, hj, hx, hall⟩ := hrel
    obtain ⟨a, ha, Ag, Au, Av, cg, cu, cv, ja0, ja1, ja2, ja3, ja4, ja5⟩ := HI.out.rows j (by omega)
    have hown := HI.out.own.below hx
    have c0 := hown.cell ja0
    have c1 := hown.cell ja1
    have c2 := hown.cell ja2
    have hal : a.g.length ≤ 8000000 := by have := RowN.lg j a ha; rw [HN.out, HM.out] at this; omega
    have HA := Lib.hid ha
    have HALL := Lib.hid hall
    have hji : (j : Int) < (N : Int) + 2 := by omega
    have hw1 : wrap64 ((a.g.length : Int) - 1) = (a.g.length : Int) - 1 := IntWalk.wrap64_in _ (by omega)
    clear ja0 ja1 ja2 hown ha hall
    by_cases hle : a.g.length ≤ k
    · have hd : decide ((a.g.length : Int) - 1 < (k : Int)) = true := decide_eq_true (by omega)
      go_wp2_with fail
      go_quiet (fail)
      have hy := hx.drewN (w := wr) nq
      go_wp2
      (try simp only [Exit.inBlock, Exit.then]); refine bodyPost_ret (results_tmp4 rfl _ _ _) rfl ?_
      exact ⟨Ag, Au, Av, cg, cu, cv, a, rfl, ⟨j, HA.out, hle, HALL.out⟩, ja3.1.ext hy, ja4.1.ext hy, ja5.1.ext hy, HI.out.ext.trans hy⟩
    · have hd : decide ((a.g.length : Int) - 1 < (k : Int)) = false := decide_eq_false (by omega)
      have hjN : j ≤ N := by
        rcases Nat.lt_or_ge N j with h | h
        · obtain rfl : j = N + 1 := by omega
          obtain rfl := RowN.uniq _ _ _ HA.out HRL.out
          rw [HNIL.out] at hle
          exact absurd (Nat.zero_le _) hle
        · exact h
      go_wp2_with fail
      go_roundw
      case rel =>
        refine ⟨j + 1, by go_num, by omega, hx, fun l hl x hlx => ?_⟩
        rcases Nat.lt_or_ge l j with h | h
        · exact HALL.out l h x hlx
        · obtain rfl : l = j := by omega
          rw [RowN.uniq l x a hlx HA.out]; omega
      case measure => simp [intOf]; omega
end Go.Proofs.Ytemnlcfabaocbaa
