/-
  The walks of chapter 1's functions on rows, the program's and the document's.
-/
import Derived.Test.YtdimanoodfepiaaFieldRef
import Derived.Test.YtdimanoodfepiaaApp
import Derived.Deep.RegionWith
import Derived.Deep.RegionLaw
import Derived.StillTailTactics
namespace Go.Proofs.Ytdimanoodfepiaa
open Go.RowKit Gf
set_option maxRecDepth 20000
set_option linter.unusedVariables false

theorem infoU8 : (Try.prog.info? 5).map (fun i => (i.zero, i.size, i.bytes)) = some (some (.int .u8 0), 1, 1) := by kernel_rfl
theorem eltU8 : Elt Try.prog 29 5 (.int .u8 0) 1 := ⟨Try.underlying29, info_parts infoU8, rfl, by decide⟩
theorem make_bytes (n : Nat) (h : n ≤ 281474976710656) (w : World) :
    (Instr.makeSlice 29 (.int .i64 (n : Int)) (.int .i64 (n : Int))).run Try.prog w = .ok (.slice (some ⟨w.heap.size, 0, none⟩) n n) (w.alloc (.cells (zrow (.int .u8 0) n) 5)) :=
  run_make_elt eltU8 _ _ n (by omega) w
theorem bs_snoc (xs : List E) (k : Nat) (h : k < xs.length) : bs (xs.take (k + 1)) = bs (xs.take k) ++ [.int .u8 ((xs[k]).val : Int)] := by
  rw [take_snoc' xs k h, bs_append]; rfl

set_option maxHeartbeats 400000 in
theorem scale_any (A : Option Addr) (xs : List E) (cap : Nat) (c : E) (w : World) (hr : Rd w A (bs xs)) (hlen : xs.length ≤ 140737488355328) :
    Calls Try.prog 21 #[.slice A xs.length cap, .int .u8 c.val] w fun e w' => ∃ v, e = .returned v ∧ Own w' w.heap.size 5 v (bs (xs.map (· * c))) ∧ Ext w w' := by
  have hmk := make_bytes xs.length (by omega)
  go_enter Try.func21, Try.ntmps21
  go_wp2_with fail
  go_loopw [12] (fun i wr => ∃ k : Nat, k ≤ xs.length ∧ i = .int .i64 k ∧ Ext w wr ∧ ∃ cs : Array Value, Blk wr w.heap.size 5 cs ∧ cs.size = xs.length ∧ cs.toList.take k = bs ((xs.map (· * c)).take k))
    (fun i _ => xs.length - (intOf i).toNat)
  case atStart => exact ⟨0, by omega, rfl, (Ext.refl _).alloc _, _, Blk.new _ _ _, zrow_size _ _, rfl⟩
  case round =>
    obtain ⟨k, hk, rfl, hbel, cs, hblk, hcs, hall⟩ := hrel
    by_cases hlt : k < xs.length
    · obtain ⟨ad, rfl, hc1⟩ := (hr.ext hbel).byte hlt
      obtain ⟨u, hu⟩ : ∃ u, cs[k]? = some u := ⟨cs[k]'(by omega), Array.getElem?_eq_getElem (by omega)⟩
      have hc2 : wr.cell? ⟨w.heap.size, k, none⟩ = some u := (hblk.cell k).trans hu
      have hf := hblk.frozen k
      have HA := Lib.hid hall
      have HB := Lib.hid hblk
      have HS := Lib.hid hcs
      clear hall hblk hu hcs
      go_wp2_with (go_at_call 31; with_reducible refine (times_any _ _ _).mono ?_; rintro e w' ⟨rfl, rfl⟩)
      go_roundw
      case rel =>
        refine ⟨k + 1, by omega, by go_num, hbel.new (p := ⟨w.heap.size, k, none⟩) (Nat.le_refl _) _, _, HB.out.set_ k _, by simpa using HS.out, ?_⟩
        rw [set_take _ (by rw [HS.out]; exact hlt) HA.out, bs_snoc _ k (by simpa using hlt)]
        simp
      case measure => simp [intOf]; omega
    · obtain rfl : k = xs.length := by omega
      have HA := Lib.hid hall
      have HB := Lib.hid hblk
      have HS := Lib.hid hcs
      clear hall hblk hcs
      go_wp2
      go_ret
      refine ⟨_, rfl, ?_, hbel⟩
      have h1 := HB.out.own (Nat.le_refl _) (Nat.le_refl xs.length) (by simp only [maxLen]; omega) HS.out
      rw [HA.out, List.take_of_length_le (by simp)] at h1
      exact h1
/-- The sum of two rows. -/
def addL (a b : List E) : List E := List.zipWith (· + ·) a b
set_option maxHeartbeats 400000 in
theorem sum_any (A B : Option Addr) (xs ys : List E) (ca cb : Nat) (w : World) (hr : Rd w A (bs xs)) (hs : Rd w B (bs ys)) (he : ys.length = xs.length) (hlen : xs.length ≤ 140737488355328) :
    Calls Try.prog 22 #[.slice A xs.length ca, .slice B ys.length cb] w fun e w' => ∃ v, e = .returned (.tuple #[v, .int .i64 0]) ∧ Own w' w.heap.size 5 v (bs (addL xs ys)) ∧ Ext w w' := by
  have hmk := make_bytes xs.length (by omega)
  rw [he]
  have HE := Lib.hid he
  clear he
  go_enter Try.func22, Try.ntmps22
  go_wp2_with fail
  go_loopw [18] (fun i wr => ∃ k : Nat, k ≤ xs.length ∧ i = .int .i64 k ∧ Ext w wr ∧ ∃ cs : Array Value, Blk wr w.heap.size 5 cs ∧ cs.size = xs.length ∧ cs.toList.take k = bs ((addL xs ys).take k))
    (fun i _ => xs.length - (intOf i).toNat)
  case atStart => exact ⟨0, by omega, rfl, (Ext.refl _).alloc _, _, Blk.new _ _ _, zrow_size _ _, rfl⟩
  case round =>
    obtain ⟨k, hk, rfl, hbel, cs, hblk, hcs, hall⟩ := hrel
    by_cases hlt : k < xs.length
    · have hlt' : k < ys.length := by rw [HE.out]; exact hlt
      obtain ⟨ad, rfl, hc1⟩ := (hr.ext hbel).byte hlt
      obtain ⟨bd, rfl, hc1'⟩ := (hs.ext hbel).byte hlt'
      obtain ⟨u, hu⟩ : ∃ u, cs[k]? = some u := ⟨cs[k]'(by omega), Array.getElem?_eq_getElem (by omega)⟩
      have hc2 : wr.cell? ⟨w.heap.size, k, none⟩ = some u := (hblk.cell k).trans hu
      have hf := hblk.frozen k
      have HA := Lib.hid hall
      have HB := Lib.hid hblk
      have HS := Lib.hid hcs
      have hx := bits_u8_xor xs[k] ys[k]
      have hl0 : (0 : Int) ≤ (k : Int) := by omega
      have hl1 : (k : Int) < (xs.length : Int) := by omega
      clear hall hblk hu hcs
      go_wp2_with fail
      go_region
      all_goals go_wp2
      go_roundw
      case rel =>
        refine ⟨k + 1, by omega, by go_num, (hbel.new (p := ⟨w.heap.size, k, none⟩) (Nat.le_refl _) _).drew, _, (HB.out.set_ k _).drew, by simpa using HS.out, ?_⟩
        have hz : k < (addL xs ys).length := by simp [addL]; omega
        rw [set_take _ (by rw [HS.out]; exact hlt) HA.out, bs_snoc _ k hz]
        simp [addL]
      case measure => simp [intOf]; omega
    · obtain rfl : k = xs.length := by omega
      have HA := Lib.hid hall
      have HB := Lib.hid hblk
      have HS := Lib.hid hcs
      clear hall hblk hcs
      go_wp2
      go_ret2
      refine ⟨_, rfl, ?_, hbel⟩
      have h1 := HB.out.own (Nat.le_refl _) (Nat.le_refl xs.length) (by simp only [maxLen]; omega) HS.out
      rw [HA.out, List.take_of_length_le (by simp [addL]; omega)] at h1
      exact h1
theorem sum_bad (A B : Option Addr) (n m ca cb : Nat) (w : World) (he : n ≠ m) :
    Calls Try.prog 22 #[.slice A n ca, .slice B m cb] w fun e w' => e = .returned (.tuple #[.slice none 0 0, .int .i64 11]) ∧ w = w' := by
  have hb : (((n : Int)) != (m : Int)) = true := by rw [bne_iff_ne]; omega
  clear he
  go_enter Try.func22, Try.ntmps22
  go_wp2
  go_ret2
  exact ⟨rfl, rfl⟩
/-- The sum of the products of the first k. -/
def dotTo (a b : List E) (k : Nat) : E := ((List.zipWith (· * ·) a b).take k).foldl (· + ·) 0
def dot (a b : List E) : E := (List.zipWith (· * ·) a b).foldl (· + ·) 0
theorem dotTo_succ (a b : List E) (k : Nat) (ha : k < a.length) (hb : k < b.length) : dotTo a b (k + 1) = dotTo a b k + a[k] * b[k] := by
  have h : k < (List.zipWith (· * ·) a b).length := by simp; omega
  rw [dotTo, take_snoc' _ k h, List.foldl_append]
  simp [dotTo]
theorem dotTo_all (a b : List E) (h : b.length = a.length) : dotTo a b a.length = dot a b := by
  rw [dotTo, List.take_of_length_le (by simp; omega)]; rfl
set_option maxHeartbeats 400000 in
theorem dot_any (A B : Option Addr) (xs ys : List E) (ca cb : Nat) (w : World) (hr : Rd w A (bs xs)) (hs : Rd w B (bs ys)) (he : ys.length = xs.length) (hlen : xs.length ≤ 140737488355328) :
    Calls Try.prog 27 #[.slice A xs.length ca, .slice B ys.length cb] w fun e w' => e = .returned (.tuple #[.int .u8 (dot xs ys).val, .int .i64 0]) ∧ Ext w w' := by
  rw [← dotTo_all xs ys he, he]
  have HE := Lib.hid he
  clear he
  go_enter Try.func27, Try.ntmps27
  go_wp2_with fail
  go_loopw [6, 15] (fun p i wr => ∃ k : Nat, k ≤ xs.length ∧ i = .int .i64 k ∧ p = .int .u8 (dotTo xs ys k).val ∧ Ext w wr)
    (fun _ i _ => xs.length - (intOf i).toNat)
  case atStart => exact ⟨0, by omega, rfl, rfl, Ext.refl _⟩
  case round =>
    obtain ⟨k, hk, rfl, rfl, hbel⟩ := hrel
    by_cases hlt : k < xs.length
    · have hlt' : k < ys.length := by rw [HE.out]; exact hlt
      obtain ⟨ad, rfl, hc1⟩ := (hr.ext hbel).byte hlt
      obtain ⟨bd, rfl, hc2⟩ := (hs.ext hbel).byte hlt'
      have HS := Lib.hid (dotTo_succ xs ys k hlt hlt')
      have hx := bits_u8_xor (dotTo xs ys k) (xs[k] * ys[k])
      have hl0 : (0 : Int) ≤ (k : Int) := by omega
      have hl1 : (k : Int) < (xs.length : Int) := by omega
      go_wp2_with fail
      go_quiet ((go_at_call 31; with_reducible exact quiet_left (times_any _ _ _)))
      go_wp2
      go_roundw
      case rel => exact ⟨k + 1, by omega, by go_num, by rw [HS.out], hbel.drewN _⟩
      case measure => simp [intOf]; omega
    · obtain rfl : k = xs.length := by omega
      go_wp2
      go_ret2
      exact ⟨rfl, hbel⟩
theorem dot_bad (A B : Option Addr) (n m ca cb : Nat) (w : World) (he : n ≠ m) :
    Calls Try.prog 27 #[.slice A n ca, .slice B m cb] w fun e w' => e = .returned (.tuple #[.int .u8 0, .int .i64 11]) ∧ w = w' := by
  have hb : (((n : Int)) != (m : Int)) = true := by rw [bne_iff_ne]; omega
  clear he
  go_enter Try.func27, Try.ntmps27
  go_wp2
  go_ret2
  exact ⟨rfl, rfl⟩
set_option maxHeartbeats 400000 in
theorem refDot_any (A B : Option Addr) (xs ys : List E) (ca cb : Nat) (w : World) (hr : Rd w A (bs xs)) (hs : Rd w B (bs ys)) (he : ys.length = xs.length) (hlen : xs.length ≤ 140737488355328) :
    Calls Try.prog 26 #[.slice A xs.length ca, .slice B ys.length cb] w fun e w' => e = .returned (.tuple #[.int .i64 (dot xs ys).val, .int .i64 0]) ∧ Ext w w' := by
  rw [← dotTo_all xs ys he, he]
  have HE := Lib.hid he
  clear he
  go_enter Try.func26, Try.ntmps26
  go_wp2_with fail
  go_loopw [6, 7] (fun p i wr => ∃ k : Nat, k ≤ xs.length ∧ i = .int .i64 k ∧ p = .int .i64 (dotTo xs ys k).val ∧ Ext w wr)
    (fun _ i _ => xs.length - (intOf i).toNat)
  case atStart => exact ⟨0, by omega, rfl, rfl, Ext.refl _⟩
  case round =>
    obtain ⟨k, hk, rfl, rfl, hbel⟩ := hrel
    by_cases hlt : k < xs.length
    · have hlt' : k < ys.length := by rw [HE.out]; exact hlt
      obtain ⟨ad, rfl, hc1⟩ := (hr.ext hbel).byte hlt
      obtain ⟨bd, rfl, hc2⟩ := (hs.ext hbel).byte hlt'
      have HS := Lib.hid (dotTo_succ xs ys k hlt hlt')
      have hx : bits BinOp.xor IntKind.i64 ((dotTo xs ys k).val : Int) ((xs[k] * ys[k]).val : Int) = ((dotTo xs ys k + xs[k] * ys[k]).val : Int) := bits_i64_xor _ _ (Nat.lt_trans (E.lt _) (by decide)) (Nat.lt_trans (E.lt _) (by decide))
      have hl0 : (0 : Int) ≤ (k : Int) := by omega
      have hl1 : (k : Int) < (xs.length : Int) := by omega
      have b1 := (xs[k]).lt
      have b2 := (ys[k]).lt
      go_wp2_with fail
      go_quiet ((go_at_call 36; with_reducible exact quiet_left (refTimes_any _ _ _)))
      go_wp2
      go_roundw
      case rel => exact ⟨k + 1, by omega, by go_num, by rw [HS.out], hbel.drewN _⟩
      case measure => simp [intOf]; omega
    · obtain rfl : k = xs.length := by omega
      go_wp2
      go_ret2
      exact ⟨rfl, hbel⟩
theorem refDot_bad (A B : Option Addr) (n m ca cb : Nat) (w : World) (he : n ≠ m) :
    Calls Try.prog 26 #[.slice A n ca, .slice B m cb] w fun e w' => e = .returned (.tuple #[.int .i64 0, .int .i64 11]) ∧ w = w' := by
  have hb : (((n : Int)) != (m : Int)) = true := by rw [bne_iff_ne]; omega
  clear he
  go_enter Try.func26, Try.ntmps26
  go_wp2
  go_ret2
  exact ⟨rfl, rfl⟩
set_option maxHeartbeats 400000 in
theorem refScale_any (A : Option Addr) (xs : List E) (cap : Nat) (c : E) (w : World) (hr : Rd w A (bs xs)) (hlen : xs.length ≤ 140737488355328) :
    Calls Try.prog 19 #[.slice A xs.length cap, .int .i64 c.val] w fun e w' => ∃ v, e = .returned v ∧ Own w' w.heap.size 5 v (bs (xs.map (· * c))) ∧ Ext w w' := by
  go_enter Try.func19, Try.ntmps19
  go_wp2_with fail
  go_loopw [5, 6] (fun v i wr => ∃ k : Nat, k ≤ xs.length ∧ i = .int .i64 k ∧ Ext w wr ∧ Own wr w.heap.size 5 v (bs ((xs.map (· * c)).take k)))
    (fun _ i _ => xs.length - (intOf i).toNat)
  case atStart => exact ⟨0, by omega, rfl, Ext.refl _, Own.nil _ _ _⟩
  case round =>
    obtain ⟨k, hk, rfl, hbel, hown⟩ := hrel
    by_cases hlt : k < xs.length
    · obtain ⟨ad, rfl, hc1⟩ := (hr.ext hbel).byte hlt
      have b1 := (xs[k]).lt
      have b2 := (xs[k] * c).lt
      have hle := hbel.le
      have hbd : ((bs ((xs.map (· * c)).take k)).length + 1) * 1 ≤ 140737488355328 := by simp [bs]; omega
      go_wp2_with (first
        | (go_at_call 36; with_reducible refine (refTimes_any _ _ _).mono ?_; rintro e w' ⟨rfl, rfl⟩)
        | (at_builtin; refine wpList_push wr eltU8 rfl _ _ (by rfl) w.heap.size _ _ (by rfl) (by exact hown) (.int .u8 (xs[k] * c).val) (by rfl) rfl hbd hle ?_; intro v' w' hown' _ hb' _))
      go_roundw
      case rel =>
        refine ⟨k + 1, by omega, by go_num, Below.trans hbel hb', ?_⟩
        rw [bs_snoc _ k (by simpa using hlt)]
        simpa using hown'
      case measure => simp [intOf]; omega
    · obtain rfl : k = xs.length := by omega
      rw [List.take_of_length_le (by simp)] at hown
      go_wp2
      go_ret
      exact ⟨_, rfl, hown, hbel⟩
set_option maxHeartbeats 400000 in
theorem refSum_any (A B : Option Addr) (xs ys : List E) (ca cb : Nat) (w : World) (hr : Rd w A (bs xs)) (hs : Rd w B (bs ys)) (he : ys.length = xs.length) (hlen : xs.length ≤ 140737488355328) :
    Calls Try.prog 20 #[.slice A xs.length ca, .slice B ys.length cb] w fun e w' => ∃ v, e = .returned (.tuple #[v, .int .i64 0]) ∧ Own w' w.heap.size 5 v (bs (addL xs ys)) ∧ Ext w w' := by
  rw [he]
  have HE := Lib.hid he
  clear he
  go_enter Try.func20, Try.ntmps20
  go_wp2_with fail
  go_loopw [6, 7] (fun v i wr => ∃ (k : Nat) (V : Value), V = v ∧ k ≤ xs.length ∧ i = .int .i64 k ∧ Ext w wr ∧ Own wr w.heap.size 5 V (bs ((addL xs ys).take k)))
    (fun _ i _ => xs.length - (intOf i).toNat)
  case atStart => exact ⟨0, _, rfl, by omega, rfl, Ext.refl _, Own.nil _ _ _⟩
  case round =>
    obtain ⟨k, V, rfl, hk, rfl, hbel, hown⟩ := hrel
    by_cases hlt : k < xs.length
    · have hlt' : k < ys.length := by rw [HE.out]; exact hlt
      obtain ⟨ad, rfl, hc1⟩ := (hr.ext hbel).byte hlt
      obtain ⟨bd, rfl, hc2⟩ := (hs.ext hbel).byte hlt'
      have hle := hbel.le
      have hbd : ((bs ((addL xs ys).take k)).length + 1) * 1 ≤ 140737488355328 := by simp [bs, addL]; omega
      have hx := bits_u8_xor xs[k] ys[k]
      have hl0 : (0 : Int) ≤ (k : Int) := by omega
      have hl1 : (k : Int) < (xs.length : Int) := by omega
      go_wp2_with fail
      go_region_law (refine step_push wr.drew eltU8 rfl _ _ (by rfl) w.heap.size V _ (by rfl) (by exact hown.drew) (.int .u8 (xs[k] + ys[k]).val) (by rfl) rfl hbd hle ?_; intro v' w' hown' _ hb' _)
      all_goals
        go_wp2
        go_roundw
        case rel =>
          refine ⟨k + 1, _, rfl, by omega, by go_num, Below.trans hbel.drew hb', ?_⟩
          rw [bs_snoc _ k (by simp [addL]; omega)]
          simpa [addL] using hown'
        case measure => simp [intOf]; omega
    · obtain rfl : k = xs.length := by omega
      rw [List.take_of_length_le (by simp [addL]; have := HE.out; omega)] at hown
      go_wp2
      go_ret2
      exact ⟨_, rfl, hown, hbel⟩
theorem refSum_bad (A B : Option Addr) (n m ca cb : Nat) (w : World) (he : n ≠ m) :
    Calls Try.prog 20 #[.slice A n ca, .slice B m cb] w fun e w' => e = .returned (.tuple #[.slice none 0 0, .int .i64 11]) ∧ w = w' := by
  have hb : (((n : Int)) != (m : Int)) = true := by rw [bne_iff_ne]; omega
  clear he
  go_enter Try.func20, Try.ntmps20
  go_wp2
  go_ret2
  exact ⟨rfl, rfl⟩
set_option maxHeartbeats 400000 in
theorem same_yes (A B : Option Addr) (xs : List E) (ca cb : Nat) (w : World) (hr : Rd w A (bs xs)) (hs : Rd w B (bs xs)) (hlen : xs.length ≤ 9000000000000000000) :
    Calls Try.prog 23 #[.slice A xs.length ca, .slice B xs.length cb] w fun e w' => e = .returned (.bool true) ∧ Ext w w' := by
  go_enter Try.func23, Try.ntmps23
  go_wp2_with fail
  go_loopw [5] (fun i wr => ∃ k : Nat, k ≤ xs.length ∧ i = .int .i64 k ∧ Ext w wr) (fun i _ => xs.length - (intOf i).toNat)
  case atStart => exact ⟨0, by omega, rfl, Ext.refl _⟩
  case round =>
    obtain ⟨k, hk, rfl, hbel⟩ := hrel
    by_cases hlt : k < xs.length
    · obtain ⟨ad, rfl, hc1⟩ := (hr.ext hbel).byte hlt
      obtain ⟨bd, rfl, hc2⟩ := (hs.ext hbel).byte hlt
      have hl0 : (0 : Int) ≤ (k : Int) := by omega
      have hl1 : (k : Int) < (xs.length : Int) := by omega
      go_wp2_with fail
      go_quiet (fail)
      go_wp2
      go_roundw
      case rel => exact ⟨k + 1, by omega, by go_num, hbel.drewN _⟩
      case measure => simp [intOf]; omega
    · obtain rfl : k = xs.length := by omega
      go_wp2
      go_ret
      exact ⟨rfl, hbel⟩
/-- The marks behind a row that is lent. -/
def mark (i : Nat) : E := E.of (201 + i % 7)
def marks (n : Nat) : List E := (List.range n).map mark
theorem marks_snoc (n : Nat) : marks (n + 1) = marks n ++ [mark n] := by simp [marks, List.range_succ]
theorem marks_length (n : Nat) : (marks n).length = n := by simp [marks]
theorem mark_val (i : Nat) : (mark i).val = 201 + i % 7 := E.val_of (by omega)
set_option maxHeartbeats 400000 in
theorem lent_any (A : Option Addr) (xs : List E) (cap : Nat) (w : World) (hr : Rd w A (bs xs)) (hlen : xs.length ≤ 140737488355264) :
    Calls Try.prog 25 #[.slice A xs.length cap] w fun e w' => ∃ v, e = .returned v ∧ Own w' w.heap.size 5 v (bs (xs ++ marks 64)) ∧ Ext w w' := by
  go_enter Try.func25, Try.ntmps25
  go_wp2_with (at_builtin; refine wpList_app w eltU8 rfl _ _ (by rfl) w.heap.size (.slice none 0 0) [] (by rfl) (Own.nil _ _ _) A xs.length cap (bs xs) (by rfl) hr (bs_length _) (bs_ones _) (by simp; omega) (Nat.le_refl _) ?_; intro v0 w0 hown0 hmv0)
  have hb0 := hmv0.below (Nat.le_refl _) (fun g hg => by simp [Value.ownBlock] at hg)
  rw [List.nil_append] at hown0
  clear hmv0
  go_loopw [3, 4] (fun v i wr => ∃ (k : Nat) (V : Value), V = v ∧ k ≤ 64 ∧ i = .int .i64 k ∧ Ext w wr ∧ Own wr w.heap.size 5 V (bs (xs ++ marks k)))
    (fun _ i _ => 64 - (intOf i).toNat)
  case atStart => exact ⟨0, _, rfl, by omega, rfl, hb0, by simpa [marks] using hown0⟩
  case round =>
    obtain ⟨k, V, rfl, hk, rfl, hbel, hown⟩ := hrel
    by_cases hlt : k < 64
    · have hle := hbel.le
      have hbd : ((bs (xs ++ marks k)).length + 1) * 1 ≤ 140737488355328 := by simp [bs, marks_length]; omega
      have hmk : ((201 : Int) + (k : Int) % 7) = ((mark k).val : Int) := by rw [mark_val]; omega
      have hmk2 := (mark k).lt
      go_wp2_with (at_builtin; refine wpList_push wr eltU8 rfl _ _ (by rfl) w.heap.size V _ (by rfl) (by exact hown) (.int .u8 (mark k).val) (by rfl) rfl hbd hle ?_; intro v' w' hown' _ hb' _)
      go_roundw
      case rel =>
        refine ⟨k + 1, _, rfl, by omega, by go_num, Below.trans hbel hb', ?_⟩
        rw [marks_snoc, ← List.append_assoc, bs_append]
        exact hown'
      case measure => simp [intOf]; omega
    · obtain rfl : k = 64 := by omega
      go_wp2
      go_ret
      exact ⟨_, rfl, hown, hbel⟩
end Go.Proofs.Ytdimanoodfepiaa
