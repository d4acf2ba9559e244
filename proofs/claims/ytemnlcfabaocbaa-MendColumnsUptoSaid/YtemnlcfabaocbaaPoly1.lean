/-
  The walks of layer 2: degree, copy, trimming.
-/
import Derived.Test.YtemnlcfabaocbaaField
import Derived.Test.YtemnlcfabaocbaaApp
import Derived.Test.YtemnlcfabaocbaaPolyList
import Derived.Deep.RegionWith
import Derived.Deep.RegionLaw
import Derived.Lib.SliceRun
namespace Go.Proofs.Ytemnlcfabaocbaa
open Go.RowKit Gf
set_option maxRecDepth 20000
set_option linter.unusedVariables false

theorem infoEl : (Try.prog.info? 34).map (fun i => (i.zero, i.size, i.bytes)) = some (some (.int .u8 0), 1, 1) := by kernel_rfl
theorem eltEl : Elt Try.prog 26 34 (.int .u8 0) 1 := ⟨Try.underlying26, info_parts infoEl, rfl, by decide⟩
theorem make_elems (n : Nat) (h : n ≤ 281474976710656) (w : World) :
    (Instr.makeSlice 26 (.int .i64 (n : Int)) (.int .i64 (n : Int))).run Try.prog w = .ok (.slice (some ⟨w.heap.size, 0, none⟩) n n) (w.alloc (.cells (zrow (.int .u8 0) n) 34)) :=
  run_make_elt eltEl _ _ n (by omega) w
theorem bs_snoc (xs : List E) (k : Nat) (h : k < xs.length) : bs (xs.take (k + 1)) = bs (xs.take k) ++ [.int .u8 ((xs[k]).val : Int)] := by
  rw [take_snoc' xs k h, bs_append]; rfl

theorem dg_step {xs : List E} {j : Nat} (h : dg xs ≤ j + 1) (hj : j < xs.length) (h0 : xs[j] = 0) : dg xs ≤ j := by
  apply dg_min
  intro i hi
  rcases Nat.eq_or_lt_of_le hi with e | e
  · subst e; rw [ser_at xs j hj]; exact h0
  · exact dg_zero xs i (by omega)
theorem dg_stop {xs : List E} {j : Nat} (h : dg xs ≤ j + 1) (hj : j < xs.length) (h0 : xs[j] ≠ 0) : dg xs = j + 1 := by
  rcases Nat.lt_or_ge (dg xs) (j + 1) with h1 | h1
  · exact absurd (by rw [← ser_at xs j hj]; exact dg_zero xs j (by omega)) h0
  · omega
theorem degree_n (A : Option Addr) (n : Nat) (xs : List E) (cap : Nat) (w : World) (hn : xs.length = n) (hr : Rd w A (bs xs)) (hlen : n ≤ 9000000000000000000) :
    Calls Try.prog 34 #[.slice A n cap] w fun e w' => e = .returned (.int .i64 ((dg xs : Int) - 1)) ∧ w = w' := by
  have HN := Lib.hid hn
  have hd0 := dg_le xs
  rw [hn] at hd0
  clear hn
  go_enter Try.func34, Try.ntmps34
  go_wp2_with fail
  go_loop [3] (fun i => ∃ (m : Nat) (z : Int), m ≤ n ∧ i = .int .i64 z ∧ Hid (z = (m : Int) - 1) ∧ dg xs ≤ m) (fun i => (intOf i + 1).toNat)
  case atStart => exact ⟨n, _, by omega, rfl, rfl, hd0⟩
  case round =>
    obtain ⟨m, z, hm, rfl, hz, hd⟩ := hrel
    cases m with
    | zero =>
      obtain rfl : z = -1 := by have := hz.out; omega
      have H0 := Lib.hid (show dg xs = 0 by omega)
      have hb : decide ((0 : Int) ≤ -1) = false := by decide
      go_wp2
      go_ret
      exact ⟨ret_int (by rw [H0.out]; rfl), rfl⟩
    | succ j =>
      obtain rfl : z = (j : Int) := by have := hz.out; omega
      have hj : j < xs.length := by have := HN.out; omega
      obtain ⟨ad, rfl, hc⟩ := hr.byte hj
      by_cases h0 : xs[j] = 0
      · have hd' := dg_step hd hj h0
        have hz0 : decide (xs[j] = 0) = true := decide_eq_true h0
        clear h0
        go_wp2_with (go_at_call 85; with_reducible refine (isZero_any _ _).mono ?_; rintro e w' ⟨rfl, rfl⟩)
        go_round
        case rel => exact ⟨j, _, by omega, rfl, rfl, hd'⟩
        case measure => simp [intOf]
      · have hd' := Lib.hid (dg_stop hd hj h0)
        have hz0 : decide (xs[j] = 0) = false := decide_eq_false h0
        clear h0
        go_wp2_with (go_at_call 85; with_reducible refine (isZero_any _ _).mono ?_; rintro e w' ⟨rfl, rfl⟩)
        go_ret
        exact ⟨ret_int (by rw [hd'.out]; omega), rfl⟩
/-- The copy: nil stays nil; else it is new, and never nil. -/
theorem clone_n (A : Option Addr) (n : Nat) (xs : List E) (cap : Nat) (w : World) (hn : xs.length = n) (hr : Rd w A (bs xs)) (hlen : n ≤ 140737488355328) :
    Calls Try.prog 87 #[.slice A n cap] w fun e w' => ∃ v, e = .returned v ∧ Own w' w.heap.size 34 v (bs xs) ∧ Ext w w' := by
  have HN := Lib.hid hn
  clear hn
  have hq := fun (w : World) (a : Option Addr) (l c : Nat) => Lib.run_eql_slice_nil (P := Try.prog) w 26 34 a l c 0 0 Try.underlying26
  cases A with
  | none =>
    obtain rfl : xs = [] := by
      rcases Nat.eq_zero_or_pos xs.length with h | h
      · exact List.eq_nil_of_length_eq_zero h
      · obtain ⟨ad, e, _⟩ := hr (by rw [bs_length]; exact h)
        cases e
    go_enter Try.func87, Try.ntmps87
    go_wp2
    go_ret
    exact ⟨_, rfl, Own.nil _ _ _, Ext.refl _⟩
  | some ad =>
    go_enter Try.func87, Try.ntmps87
    have h0 : Own (w.alloc (.cells #[] 34)) w.heap.size 34 (.slice (some ⟨w.heap.size, 0, none⟩) 0 0) [] := (Blk.new w 34 #[]).own (Nat.le_refl _) (Nat.le_refl _) (Nat.zero_le _) rfl
    go_wp2_with (at_builtin; refine wpList_app (w.alloc (.cells #[] 34)) eltEl rfl _ _ (by rfl) w.heap.size (.slice (some ⟨w.heap.size, 0, none⟩) 0 0) [] (by rfl) (by exact h0) (some ad) n cap (bs xs) (by rfl) (hr.alloc _) ((bs_length _).trans HN.out) (bs_ones _) (by simp; omega) (by simp) ?_; intro v w1 ho hmv)
    go_ret
    refine ⟨v, rfl, by simpa using ho, ((Ext.refl w).alloc _).below.trans (hmv.below (by simp) fun g hg => by simp [Value.ownBlock] at hg; omega)⟩
theorem max_le {w : World} {B : Nat} {T : TypeId} {A : Option Addr} {n cap : Nat} {xs : List E} (h : Own w B T (.slice A n cap) (bs xs)) : n = xs.length := by
  have := h.len
  rwa [bs_length] at this
theorem Own.bytes {w : World} {B : Nat} {T : TypeId} {v : Value} {xs : List E} (h : Own w B T v (bs xs)) : ∃ A cap, v = .slice A xs.length cap ∧ Own w B T (.slice A xs.length cap) (bs xs) ∧ Rd w A (bs xs) ∧ xs.length ≤ cap ∧ cap ≤ maxLen := by
  obtain ⟨A, cap, hv, hr, hl, hm, _⟩ := h.slice
  rw [bs_length] at hv hl
  exact ⟨A, cap, hv, by rw [← hv]; exact h, hr, hl, hm⟩
theorem trim_n (A : Option Addr) (n : Nat) (xs : List E) (cap : Nat) (w : World) (hn : xs.length = n) (hr : Rd w A (bs xs)) (hlen : n ≤ 140737488355328) (hcap : n ≤ cap) :
    Calls Try.prog 33 #[.slice A n cap] w fun e w' => ∃ v, e = .returned v ∧ Own w' w.heap.size 34 v (bs (trim xs)) ∧ Ext w w' := by
  have hd := dg_le xs
  rw [hn] at hd
  have HC := Lib.hid (fun w' (e : Ext w w') => clone_n A (dg xs) (trim xs) cap w' (trim_length xs) (by rw [trim, bs_take]; exact (hr.ext e).take _) (by omega))
  have HN := Lib.hid hn
  have hdc : dg xs ≤ cap := by omega
  clear hn
  go_enter Try.func33, Try.ntmps33
  go_wp2_with fail
  refine (degree_n A n xs cap _ HN.out hr (by omega)).mono ?_
  rintro e w' ⟨rfl, rfl⟩
  go_wp2_with fail
  refine (HC.out _ (Ext.refl _)).mono ?_
  rintro e w1 ⟨v, rfl, ho, hx⟩
  go_wp2
  go_ret
  exact ⟨v, rfl, ho, hx⟩
theorem scale1_any (x y c : E) (b : Nat) (w : World) (hc : w.cell? ⟨b, 0, none⟩ = some (.int .u8 c.val)) :
    Calls Try.prog 91 #[.int .u8 x.val, .int .u8 y.val, .pointer (some ⟨b, 0, none⟩)] w fun e w' => e = .returned (.int .u8 (x * c).val) ∧ w = w' := by
  go_enter Try.func91, Try.ntmps91
  go_wp2_with (go_at_call 58; with_reducible refine (times_any _ _ _).mono ?_; rintro e w' ⟨rfl, rfl⟩)
  go_ret
  exact ⟨rfl, rfl⟩
end Go.Proofs.Ytemnlcfabaocbaa
