/-
  The walks of the laws' own helpers of chapter 2: lent, same, kept; and the roots.
-/
import Derived.Test.YtemnlcfabaocbaaRef2
import Derived.Test.YtemnlcfabaocbaaPoly4
namespace Go.Proofs.Ytemnlcfabaocbaa
open Go.RowKit Gf
set_option maxRecDepth 20000
set_option linter.unusedVariables false

/-- The marks behind a list that is lent. -/
def mark (i : Nat) : E := E.of (101 + i)
def marks (n : Nat) : List E := (List.range n).map mark
theorem marks_snoc (n : Nat) : marks (n + 1) = marks n ++ [mark n] := by simp [marks, List.range_succ]
theorem marks_length (n : Nat) : (marks n).length = n := by simp [marks]
theorem mark_val {i : Nat} (h : i < 100) : (mark i).val = 101 + i := E.val_of (by omega)
theorem mark_any (k : Nat) (hk : k < 66) (w : World) :
    Calls Try.prog 84 #[.int .i64 k] w fun e w' => e = .returned (.int .u8 (mark k).val) ∧ w = w' := by
  have hm := Lib.hid (mark_val (i := k) (by omega))
  go_enter Try.func84, Try.ntmps84
  go_wp2
  go_ret
  exact ⟨ret_int (by rw [hm.out]; omega), rfl⟩
theorem bs_len_le (xs : List E) (k : Nat) : (bs (xs.take k)).length ≤ xs.length := by rw [bs_length, List.length_take]; omega
set_option maxHeartbeats 1000000 in
theorem lent_n (A : Option Addr) (n : Nat) (xs : List E) (cap : Nat) (w : World) (hn : xs.length = n) (hr : Rd w A (bs xs)) (hlen : n ≤ 140737488355228) :
    Calls Try.prog 26 #[.slice A n cap] w fun e w' => ∃ g c, e = .returned (.slice (some ⟨g, 0, none⟩) n c) ∧ w.heap.size ≤ g ∧ Own w' w.heap.size 34 (.slice (some ⟨g, 0, none⟩) (n + 66) c) (bs (xs ++ marks 66)) ∧ n + 66 ≤ c ∧ c ≤ maxLen ∧ Ext w w' := by
  have HN := Lib.hid hn
  clear hn
  go_enter Try.func26, Try.ntmps26
  go_wp2_with fail
  go_loopw [3, 4] (fun v i wr => ∃ (k : Nat) (V : Value), V = v ∧ k ≤ n ∧ i = .int .i64 k ∧ Ext w wr ∧ Own wr w.heap.size 34 V (bs (xs.take k))) (fun _ i _ => n - (intOf i).toNat)
  case atStart => exact ⟨0, _, rfl, by omega, rfl, Ext.refl _, Own.nil _ _ _⟩
  case round =>
    obtain ⟨k, V, rfl, hk, rfl, hx, ho⟩ := hrel
    by_cases hlt : k < n
    · have hkt : k < xs.length := by rw [HN.out]; exact hlt
      obtain ⟨ad, rfl, hck⟩ := (hr.ext hx).byte hkt
      have hle := hx.le
      have hbd : ((bs (xs.take k)).length + 1) * 1 ≤ 140737488355328 := by have := bs_len_le xs k; have := HN.out; omega
      have hsn := bs_snoc xs k hkt
      have hkl := (xs[k]).lt
      go_wp2_with (at_builtin; refine wpList_push wr eltEl rfl _ _ (by rfl) w.heap.size V _ (by rfl) (by exact ho) (.int .u8 (xs[k]).val) (by rfl) rfl hbd hle ?_; intro v' w' ho' _ hb' _)
      go_roundw
      case rel => exact ⟨k + 1, _, rfl, by omega, by go_num, Below.trans hx hb', by rw [hsn]; exact ho'⟩
      case measure => simp [intOf]; omega
    · obtain rfl : k = n := by omega
      have hta : xs.take k = xs := List.take_of_length_le (by rw [HN.out]; exact Nat.le_refl _)
      rw [hta] at ho
      clear hta
      go_wp2
      go_loopw [3, 5] (fun v i wr => ∃ (j : Nat) (V : Value), V = v ∧ j ≤ 66 ∧ i = .int .i64 j ∧ Ext w wr ∧ Own wr w.heap.size 34 V (bs (xs ++ marks j))) (fun _ i _ => 66 - (intOf i).toNat)
      case atStart => exact ⟨0, _, rfl, by omega, rfl, hx, by simpa [marks] using ho⟩
      case round =>
        obtain ⟨j, V, rfl, hj, rfl, hx, ho⟩ := hrel
        by_cases hlt : j < 66
        · have hle := hx.le
          have hbd : ((bs (xs ++ marks j)).length + 1) * 1 ≤ 140737488355328 := by rw [bs_length, List.length_append, marks_length, HN.out]; omega
          have hml := (mark j).lt
          go_wp2_with (first | (go_at_call 84; with_reducible refine (mark_any j hlt _).mono ?_; rintro e w' ⟨rfl, rfl⟩) | (at_builtin; refine wpList_push _ eltEl rfl _ _ (by rfl) w.heap.size V _ (by rfl) (by exact ho) (.int .u8 (mark j).val) (by rfl) rfl hbd hle ?_; intro v' w' ho' _ hb' _))
          go_roundw
          case rel =>
            refine ⟨j + 1, _, rfl, by omega, by go_num, Below.trans hx hb', ?_⟩
            rw [marks_snoc, ← List.append_assoc, bs_append]
            exact ho'
          case measure => simp [intOf]; omega
        · obtain rfl : j = 66 := by omega
          obtain ⟨g, c, rfl, hg1, hg2, hlc, hmc⟩ := ho.some_ (fun e => by have := congrArg List.length e; simp [bs, marks_length] at this)
          have hll : (bs (xs ++ marks 66)).length = k + 66 := by rw [bs_length, List.length_append, marks_length, HN.out]
          rw [hll] at ho hlc ⊢
          simp only [maxLen] at hmc
          have hkc : k ≤ c := by omega
          go_wp2
          go_ret
          exact ⟨g, c, rfl, hg1, ho, hlc, by simp only [maxLen]; exact hmc, hx⟩
theorem same_n (A B : Option Addr) (n m : Nat) (xs : List E) (ca cb : Nat) (w : World) (hn : xs.length = n) (hm : xs.length = m) (hr : Rd w A (bs xs)) (hs : Rd w B (bs xs)) (hlen : n ≤ 9000000000000000000) :
    Calls Try.prog 28 #[.slice A n ca, .slice B m cb] w fun e w' => e = .returned (.bool true) ∧ Ext w w' := by
  subst hn
  subst hm
  go_enter Try.func28, Try.ntmps28
  go_wp2_with fail
  go_loopw [5] (fun i wr => ∃ k : Nat, k ≤ xs.length ∧ i = .int .i64 k ∧ Ext w wr) (fun i _ => xs.length - (intOf i).toNat)
  case atStart => exact ⟨0, by omega, rfl, Ext.refl _⟩
  case round =>
    obtain ⟨k, hk, rfl, hbel⟩ := hrel
    by_cases hlt : k < xs.length
    · obtain ⟨ad, rfl, hc1⟩ := (hr.ext hbel).byte hlt
      obtain ⟨bd, rfl, hc2⟩ := (hs.ext hbel).byte hlt
      have hl0 : (0 : Int) ≤ (k : Int) := by omega
      have hl1 : (k : Int) < (xs.length : Int) := by omega
      have hv := (xs[k]).lt
      go_wp2_with fail
      go_quiet (fail)
      go_wp2
      go_roundw
      case rel => exact ⟨k + 1, by omega, by go_num, hbel.drewN _⟩
      case measure => simp [intOf]; omega
    · obtain rfl : k = xs.length := by omega
      go_wp2
      go_ret
      exact ⟨rfl, hbel⟩
set_option maxHeartbeats 1000000 in
theorem kept_n (A B : Option Addr) (n m : Nat) (xs : List E) (ca cb : Nat) (w : World) (hn : xs.length = n) (hm : xs.length = m) (hr : Rd w A (bs (xs ++ marks 66))) (hs : Rd w B (bs xs)) (hlen : n ≤ 140737488355228) (hca : n + 66 ≤ ca) :
    Calls Try.prog 29 #[.slice A n ca, .slice B m cb] w fun e w' => e = .returned (.bool true) ∧ Ext w w' := by
  subst hn
  subst hm
  have hla : (xs ++ marks 66).length = xs.length + 66 := by rw [List.length_append, marks_length]
  have HLA := Lib.hid hla
  clear hla
  go_enter Try.func29, Try.ntmps29
  go_wp2_with fail
  go_loopw [5] (fun i wr => ∃ k : Nat, k ≤ xs.length ∧ i = .int .i64 k ∧ Ext w wr) (fun i _ => xs.length - (intOf i).toNat)
  case atStart => exact ⟨0, by omega, rfl, Ext.refl _⟩
  case round =>
    obtain ⟨k, hk, rfl, hbel⟩ := hrel
    by_cases hlt : k < xs.length
    · obtain ⟨ad, rfl, hc1⟩ := (hr.ext hbel).byte (k := k) (by have := HLA.out; omega)
      obtain ⟨bd, rfl, hc2⟩ := (hs.ext hbel).byte hlt
      rw [List.getElem_append_left hlt] at hc1
      have hl0 : (0 : Int) ≤ (k : Int) := by omega
      have hl1 : (k : Int) < (xs.length : Int) := by omega
      have hv := (xs[k]).lt
      go_wp2_with fail
      go_quiet (fail)
      go_wp2
      go_roundw
      case rel => exact ⟨k + 1, by omega, by go_num, hbel.drewN _⟩
      case measure => simp [intOf]; omega
    · obtain rfl : k = xs.length := by omega
      have h0 : 0 < (xs ++ marks 66).length := by have := HLA.out; omega
      obtain ⟨ad, rfl, -⟩ := hr.byte h0
      clear h0
      go_wp2
      go_loopw [7] (fun i wr => ∃ k : Nat, k ≤ 66 ∧ i = .int .i64 k ∧ Ext w wr) (fun i _ => 66 - (intOf i).toNat)
      case atStart => exact ⟨0, by omega, rfl, hbel⟩
      case round =>
        obtain ⟨k, hk, rfl, hbel⟩ := hrel
        by_cases hlt : k < 66
        · obtain ⟨ad', e', hc1⟩ := (hr.ext hbel).byte (k := xs.length + k) (by have := HLA.out; omega)
          injection e' with e'
          subst e'
          have hm : (xs ++ marks 66)[xs.length + k]'(by have := HLA.out; omega) = mark k := by
            rw [List.getElem_append_right (by omega)]
            simp [marks]
          rw [hm] at hc1
          clear hm
          have hw1 : IntKind.i64.wrap ((xs.length : Int) + (k : Int)) = (xs.length : Int) + (k : Int) := IntWalk.i64_in _ (by omega)
          have hw3 : ((xs.length : Int) + (k : Int)).toNat = xs.length + k := by omega
          have hl0 : (0 : Int) ≤ (xs.length : Int) + (k : Int) := by omega
          have hl1 : (xs.length : Int) + (k : Int) < (xs.length : Int) + 66 := by omega
          have hv := (mark k).lt
          go_wp2_with fail
          go_quiet ((go_at_call 84; with_reducible exact quiet_left (mark_any k hlt _)))
          go_wp2
          go_roundw
          case rel => exact ⟨k + 1, by omega, by go_num, hbel.drewN _⟩
          case measure => simp [intOf]; omega
        · obtain rfl : k = 66 := by omega
          go_wp2
          go_ret
          exact ⟨rfl, hbel⟩
/-- The roots, rising. -/
def rootsTo (p : List E) (k : Nat) : List E := ((List.range k).map E.of).filter (fun x => decide (evL p x = 0))
def rootsL (p : List E) : List E := rootsTo p 256
theorem rootsTo_yes {p : List E} {k : Nat} (h : evL p (E.of k) = 0) : rootsTo p (k + 1) = rootsTo p k ++ [E.of k] := by
  simp [rootsTo, List.range_succ, h]
theorem rootsTo_no {p : List E} {k : Nat} (h : evL p (E.of k) ≠ 0) : rootsTo p (k + 1) = rootsTo p k := by
  simp [rootsTo, List.range_succ, h]
theorem rootsTo_le (p : List E) (k : Nat) : (rootsTo p k).length ≤ k := by
  have := List.length_filter_le (fun x => decide (evL p x = 0)) ((List.range k).map E.of)
  simpa [rootsTo] using this
theorem polyAt_lit (A : Option Addr) (n cap : Nat) (p : List E) (a : Int) (x : E) (ha : a = x.val) (w : World) (hn : p.length = n) (hr : Rd w A (bs p)) (hlen : n ≤ maxLen) :
    Calls Try.prog 35 #[.slice A n cap, .int .u8 a] w fun e w' => e = .returned (.int .u8 (evL p x).val) ∧ Ext w w' := by
  subst ha; exact polyAt_n A n cap p x w hn hr hlen
theorem refAt_lit (A : Option Addr) (n cap : Nat) (p : List E) (a : Int) (x : E) (ha : a = x.val) (w : World) (hn : p.length = n) (hr : Rd w A (bs p)) (hlen : n ≤ 140737488355328) :
    Calls Try.prog 32 #[.slice A n cap, .int .u8 a] w fun e w' => e = .returned (.int .u8 (evL p x).val) ∧ w = w' := by
  subst ha; exact refAt_n A n p cap x w hn hr hlen
set_option maxHeartbeats 1000000 in
theorem refRoots_n (A : Option Addr) (n : Nat) (p : List E) (cap : Nat) (w : World) (hn : p.length = n) (hr : Rd w A (bs p)) (hlen : n ≤ 140737488355328) :
    Calls Try.prog 25 #[.slice A n cap] w fun e w' => ∃ v, e = .returned v ∧ Own w' w.heap.size 5 v (bs (rootsL p)) ∧ Ext w w' := by
  go_enter Try.func25, Try.ntmps25
  go_wp2_with fail
  go_loopw [3, 4] (fun v i wr => ∃ (k : Nat) (V : Value), V = v ∧ k ≤ 256 ∧ i = .int .i64 k ∧ Ext w wr ∧ Own wr w.heap.size 5 V (bs (rootsTo p k))) (fun _ i _ => 256 - (intOf i).toNat)
  case atStart => exact ⟨0, _, rfl, by omega, rfl, Ext.refl _, Own.nil _ _ _⟩
  case round =>
    obtain ⟨k, V, rfl, hk, rfl, hx, ho⟩ := hrel
    by_cases hlt : k < 256
    · have hof : (E.of k).val = k := E.val_of hlt
      have HC := Lib.hid (refAt_lit A n cap p k (E.of k) (by rw [hof]) wr hn (hr.ext hx) hlen)
      have hle := hx.le
      have hbd : ((bs (rootsTo p k)).length + 1) * 1 ≤ 140737488355328 := by rw [bs_length]; have := rootsTo_le p k; omega
      by_cases hz : evL p (E.of k) = 0
      · have hz0 : (((evL p (E.of k)).val : Int) == 0) = true := (eqE _ 0).trans (decide_eq_true hz)
        have HR := Lib.hid (rootsTo_yes hz)
        have HO := Lib.hid hof
        clear hz hn hr hof
        go_wp2_with (first | (go_at_call 32; with_reducible refine HC.out.mono ?_; rintro e w' ⟨rfl, rfl⟩) | (at_builtin; refine wpList_push _ eltU8 rfl _ _ (by rfl) w.heap.size V _ (by rfl) (by exact ho) (.int .u8 k) (by rfl) rfl hbd hle ?_; intro v' w' ho' _ hb' _))
        go_roundw
        case rel => exact ⟨k + 1, _, rfl, by omega, by go_num, Below.trans hx hb', by rw [HR.out, bs_append, bs_one, HO.out]; exact ho'⟩
        case measure => simp [intOf]; omega
      · have hz0 : (((evL p (E.of k)).val : Int) == 0) = false := (eqE _ 0).trans (decide_eq_false hz)
        have HR := Lib.hid (rootsTo_no hz)
        clear hz hn hr hof
        go_wp2_with (go_at_call 32; with_reducible refine HC.out.mono ?_; rintro e w' ⟨rfl, rfl⟩)
        go_roundw
        case rel => exact ⟨k + 1, _, rfl, by omega, by go_num, hx, by rw [HR.out]; exact ho⟩
        case measure => simp [intOf]; omega
    · obtain rfl : k = 256 := by omega
      go_wp2
      go_ret
      exact ⟨_, rfl, ho, hx⟩
set_option maxHeartbeats 1000000 in
theorem polyRoots_n (A : Option Addr) (n : Nat) (p : List E) (cap : Nat) (w : World) (hn : p.length = n) (hr : Rd w A (bs p)) (hlen : n ≤ 140737488355328) :
    Calls Try.prog 27 #[.slice A n cap] w fun e w' => ∃ v, e = .returned v ∧ Own w' w.heap.size 34 v (bs (rootsL p)) ∧ Ext w w' := by
  go_enter Try.func27, Try.ntmps27
  go_wp2_with fail
  go_loopw [3, 5] (fun v i wr => ∃ (k : Nat) (V : Value), V = v ∧ k ≤ 256 ∧ i = .int .i64 k ∧ Ext w wr ∧ Own wr w.heap.size 34 V (bs (rootsTo p k))) (fun _ i _ => 256 - (intOf i).toNat)
  case atStart => exact ⟨0, _, rfl, by omega, rfl, Ext.refl _, Own.nil _ _ _⟩
  case round =>
    obtain ⟨k, V, rfl, hk, rfl, hx, ho⟩ := hrel
    by_cases hlt : k < 256
    · have hof : (E.of k).val = k := E.val_of hlt
      have HC := Lib.hid (polyAt_lit A n cap p k (E.of k) (by rw [hof]) wr hn (hr.ext hx) (by simp only [maxLen]; omega))
      by_cases hz : evL p (E.of k) = 0
      · have hz0 : decide (evL p (E.of k) = 0) = true := decide_eq_true hz
        have HR := Lib.hid (rootsTo_yes hz)
        have HO := Lib.hid hof
        clear hz hn hr hof
        go_wp2_with fail
        refine HC.out.mono ?_
        rintro e w2 ⟨rfl, hx2⟩
        have ho2 := ho.ext hx2
        have hx3 := hx.trans hx2
        have hle := hx3.le
        have hbd : ((bs (rootsTo p k)).length + 1) * 1 ≤ 140737488355328 := by rw [bs_length]; have := rootsTo_le p k; omega
        clear hx2 hx ho HC
        go_wp2_with (first | (go_at_call 85; with_reducible refine (isZero_any _ _).mono ?_; rintro e w' ⟨rfl, rfl⟩) | (at_builtin; refine wpList_push _ eltEl rfl _ _ (by rfl) w.heap.size V _ (by rfl) (by exact ho2) (.int .u8 k) (by rfl) rfl hbd hle ?_; intro v' w' ho' _ hb' _))
        go_roundw
        case rel => exact ⟨k + 1, _, rfl, by omega, by go_num, Below.trans hx3 hb', by rw [HR.out, bs_append, bs_one, HO.out]; exact ho'⟩
        case measure => simp [intOf]; omega
      · have hz0 : decide (evL p (E.of k) = 0) = false := decide_eq_false hz
        have HR := Lib.hid (rootsTo_no hz)
        clear hz hn hr hof
        go_wp2_with fail
        refine HC.out.mono ?_
        rintro e w2 ⟨rfl, hx2⟩
        have ho2 := ho.ext hx2
        have hx3 := hx.trans hx2
        clear hx2 hx ho HC
        go_wp2_with (go_at_call 85; with_reducible refine (isZero_any _ _).mono ?_; rintro e w' ⟨rfl, rfl⟩)
        go_roundw
        case rel => exact ⟨k + 1, _, rfl, by omega, by go_num, hx3, by rw [HR.out]; exact ho2⟩
        case measure => simp [intOf]; omega
    · obtain rfl : k = 256 := by omega
      go_wp2
      go_ret
      exact ⟨_, rfl, ho, hx⟩
end Go.Proofs.Ytemnlcfabaocbaa
