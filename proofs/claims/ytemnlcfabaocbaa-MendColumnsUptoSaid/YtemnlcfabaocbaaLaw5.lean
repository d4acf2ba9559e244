/-
  The walks of the laws' own helpers of chapter 5: num, sameInts.
-/
import Derived.Test.YtemnlcfabaocbaaCol5
namespace Go.Proofs.Ytemnlcfabaocbaa
open Go.RowKit Gf
set_option maxRecDepth 20000
set_option linter.unusedVariables false
theorem infoBool : (Try.prog.info? 4).map (fun i => (i.zero, i.size, i.bytes)) = some (some (.bool false), 1, 1) := by kernel_rfl
theorem eltBool : Elt Try.prog 67 4 (.bool false) 1 := ⟨by kernel_rfl, info_parts infoBool, rfl, by decide⟩
theorem num5_any (k : Int) (hk : (Lit.int .i64 k).wf = true) (w : World) : Calls Try.prog 64 #[.int .i64 k] w fun e w' => e = .returned (.int .i64 k) ∧ w = w' := by
  go_enter Try.func64, Try.ntmps64
  go_wp2
  go_ret
  exact ⟨rfl, rfl⟩
theorem sameInts_n (A B : Option Addr) (n m : Nat) (xs : List Nat) (ca cb : Nat) (w : World) (hn : xs.length = n) (hm : xs.length = m) (hr : Rd w A (ints xs)) (hs : Rd w B (ints xs)) (hlen : n ≤ 9000000000000000000) (hb : ∀ x ∈ xs, x ≤ 1000000000) :
    Calls Try.prog 65 #[.slice A n ca, .slice B m cb] w fun e w' => e = .returned (.bool true) ∧ Ext w w' := by
  subst hn
  subst hm
  have HB := Lib.hid hb
  clear hb
  go_enter Try.func65, Try.ntmps65
  go_wp2_with fail
  go_loopw [5] (fun i wr => ∃ k : Nat, k ≤ xs.length ∧ i = .int .i64 k ∧ Ext w wr) (fun i _ => xs.length - (intOf i).toNat)
  case atStart => exact ⟨0, by omega, rfl, Ext.refl _⟩
  case round =>
    obtain ⟨k, hk, rfl, hbel⟩ := hrel
    by_cases hlt : k < xs.length
    · obtain ⟨ad, rfl, hc1⟩ := (hr.ext hbel).at_ (ints_get xs k hlt)
      obtain ⟨bd, rfl, hc2⟩ := (hs.ext hbel).at_ (ints_get xs k hlt)
      have hl0 : (0 : Int) ≤ (k : Int) := by omega
      have hl1 : (k : Int) < (xs.length : Int) := by omega
      have hv := HB.out xs[k] (List.getElem_mem hlt)
      go_wp2_with fail
      go_quiet (fail)
      go_wp2
      go_roundw
      case rel => exact ⟨k + 1, by omega, by go_num, hbel.drewN _⟩
      case measure => simp [intOf]; omega
    · obtain rfl : k = xs.length := by omega
      go_wp2
      go_ret
      exact ⟨rfl, hbel⟩
theorem ColSpec.bads {k : Int} {word : List E} {lost : List Bool} {out : List E} {bad : List Nat} {e : Int} (h : ColSpec k word lost out bad e) : ∀ x ∈ bad, x ≤ 1000000000 := by
  rcases h with ⟨h1, rfl, rfl, rfl⟩ | ⟨h1, h2, rfl, rfl, rfl⟩ | ⟨h1, h2, h3, rfl, rfl, rfl⟩ | ⟨h1, h2, p, h3, rfl, rfl, rfl⟩
  · intro x hx; cases hx
  · intro x hx; cases hx
  · intro x hx; cases hx
  · intro x hx
    have := there_mem (List.mem_filter.1 hx).1
    have h4 := h1.2.2.1
    have h5 := h1.2.2.2
    omega
theorem ColSpec.wf {k : Int} {word : List E} {lost : List Bool} {out : List E} {bad : List Nat} {e : Int} (h : ColSpec k word lost out bad e) : (Lit.int .i64 e).wf = true := by
  rcases h.small.2.2 with rfl | rfl | rfl | rfl <;> rfl
end Go.Proofs.Ytemnlcfabaocbaa
