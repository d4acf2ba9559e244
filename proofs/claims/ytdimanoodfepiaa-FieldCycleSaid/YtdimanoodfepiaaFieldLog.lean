/-
  The walks of the logarithm and the order, the program's and the document's.
-/
import Derived.Test.YtdimanoodfepiaaFieldRef
import Derived.Test.YtdimanoodfepiaaGfCycle
import Derived.Test.YtdimanoodfepiaaMem
import Derived.Deep.RegionWith
namespace Go.Proofs.Ytdimanoodfepiaa
open Go.RowKit Gf
set_option maxRecDepth 20000

def zeros255 : Array Value := Array.replicate 255 (.int .u8 0)
theorem zero_pow255 (w : World) : Sem.run Try.prog (zeroValue 69) w = .ok (.agg zeros255) w := by kernel_rfl
theorem zeros_at (j : Nat) (h : j < 255) : zeros255[j]? = some (.int .u8 0) := by simp [zeros255, h]
theorem zeros_size : zeros255.size = 255 := by simp [zeros255]
def Pows (w : World) (B : Nat) : Prop := ∀ j, j < 255 → w.cell? ⟨B, j, none⟩ = some (.int .u8 (E.pow E.gen j).val)
set_option maxHeartbeats 400000 in
theorem powers_any (w : World) :
    Calls Try.prog 44 #[] w fun e w' => e = .returned (.pointer (some ⟨w.heap.size, 0, none⟩)) ∧ Below w.heap.size w w' ∧ Pows w' w.heap.size := by
  have hz := zero_pow255
  have h0 := zeros_at 0 (by decide)
  go_enter Try.func44, Try.ntmps44
  go_wp2_with fail
  go_loopw [7] (fun i wr => ∃ k : Nat, k ≤ 254 ∧ i = .int .i64 k ∧ Below w.heap.size w wr ∧ ∃ cs : Array Value, Blk wr w.heap.size 69 cs ∧ cs.size = 255 ∧ ∀ j, j ≤ k → cs[j]? = some (.int .u8 (E.pow E.gen j).val))
    (fun i _ => 254 - (intOf i).toNat)
  case atStart =>
    refine ⟨0, by omega, rfl, (Below.refl _ _).alloc (Nat.le_refl _) _, _, Blk.new _ _ _, by simp [zeros_size], fun j hj => ?_⟩
    obtain rfl : j = 0 := by omega
    rw [Array.getElem?_setIfInBounds_self_of_lt (by rw [zeros_size]; decide)]
    rfl
  case round =>
    obtain ⟨k, hk, rfl, hbel, cs, hblk, hcs, hall⟩ := hrel
    by_cases hlt : k < 254
    · have hc1 : wr.cell? ⟨w.heap.size, k, none⟩ = some (.int .u8 (E.pow E.gen k).val) := (hblk.cell k).trans (hall k (Nat.le_refl _))
      obtain ⟨u, hu⟩ : ∃ u, cs[k + 1]? = some u := ⟨cs[k + 1]'(by omega), Array.getElem?_eq_getElem (by omega)⟩
      have hc2 : wr.cell? ⟨w.heap.size, k + 1, none⟩ = some u := (hblk.cell (k + 1)).trans hu
      have hf := hblk.frozen (k + 1)
      have HA := Lib.hid hall
      have HB := Lib.hid hblk
      have HS := Lib.hid hcs
      clear hall hblk hu hcs
      have HC := Lib.hid (fun w => times_lit _ _ (E.pow E.gen k) E.gen rfl (show (2 : Int) = _ from rfl) w)
      go_wp2_with fail
      go_region_with (go_at_call 31; refine (HC.out _).mono ?_; rintro e w' ⟨rfl, rfl⟩)
      all_goals go_wp2
      go_roundw
      case rel =>
        refine ⟨k + 1, by omega, by go_num, (hbel.setCell (p := ⟨w.heap.size, k + 1, none⟩) (Nat.le_refl _) _).drew, _, (HB.out.set_ (k + 1) _).drew, by simpa using HS.out, fun j hj => ?_⟩
        by_cases e : j = k + 1
        · subst e
          rw [Array.getElem?_setIfInBounds_self_of_lt (by rw [HS.out]; omega)]
          rfl
        · rw [Array.getElem?_setIfInBounds_ne (by omega)]
          exact HA.out j (by omega)
      case measure => simp [intOf]; omega
    · obtain rfl : k = 254 := by omega
      have HA := Lib.hid hall
      have HB := Lib.hid hblk
      clear hall hblk hcs
      go_wp2
      go_ret
      exact ⟨rfl, hbel, fun j hj => (HB.out.cell j).trans (HA.out j (by omega))⟩


theorem log_zero (w : World) :
    Calls Try.prog 37 #[.int .u8 (0 : E).val] w fun e w' => e = .returned (.tuple #[.int .i64 0, .int .i64 10]) ∧ Below w.heap.size w w' := by
  go_enter Try.func37, Try.ntmps37
  go_wp2_with (go_at_call 44; refine (powers_any _).mono ?_; rintro e w1 ⟨rfl, hbel, hpow⟩)
  have HP := Lib.hid hpow
  clear hpow
  go_loopw [7] (fun i wr => ∃ k : Nat, k ≤ 255 ∧ i = .int .i64 k ∧ Below w.heap.size w wr ∧ Pows wr w.heap.size) (fun i _ => 255 - (intOf i).toNat)
  case atStart => exact ⟨0, by omega, rfl, hbel, HP.out⟩
  case round =>
    obtain ⟨k, hk, rfl, hb, hp⟩ := hrel
    by_cases hlt : k < 255
    · have hc1 := hp k hlt
      have hn : (((E.pow E.gen k).val : Int) == ((0 : E).val : Int)) = false := (eqE _ _).trans (decide_eq_false (E.pow_ne_zero E.gen_ne k))
      have HQ := Lib.hid hp
      clear hp
      have hl : (0 : Int) ≤ (k : Int) := by omega
      go_wp2_with fail
      go_quiet (fail)
      go_wp2
      go_roundw
      case rel => exact ⟨k + 1, by omega, by go_num, below_drewN hb _, HQ.out⟩
      case measure => simp [intOf]; omega
    · obtain rfl : k = 255 := by omega
      go_wp2
      go_ret2
      exact ⟨rfl, hb⟩
theorem log_any (x : E) (t : Nat) (ht : E.IsLog x t) (w : World) :
    Calls Try.prog 37 #[.int .u8 x.val] w fun e w' => e = .returned (.tuple #[.int .i64 t, .int .i64 0]) ∧ Below w.heap.size w w' := by
  obtain ⟨htl, rfl⟩ := ht
  go_enter Try.func37, Try.ntmps37
  go_wp2_with (go_at_call 44; refine (powers_any _).mono ?_; rintro e w1 ⟨rfl, hbel, hpow⟩)
  have HP := Lib.hid hpow
  clear hpow
  go_loopw [7] (fun i wr => ∃ k : Nat, k ≤ t ∧ i = .int .i64 k ∧ Below w.heap.size w wr ∧ Pows wr w.heap.size) (fun i _ => 255 - (intOf i).toNat)
  case atStart => exact ⟨0, by omega, rfl, hbel, HP.out⟩
  case round =>
    obtain ⟨k, hk, rfl, hb, hp⟩ := hrel
    have hc1 := hp k (by omega)
    have HQ := Lib.hid hp
    clear hp
    by_cases hkt : k = t
    · subst hkt
      go_wp2_with fail
      go_quiet (fail)
      go_wp2
      go_ret2
      exact ⟨rfl, below_drewN hb _⟩
    · have hn : (((E.pow E.gen k).val : Int) == ((E.pow E.gen t).val : Int)) = false := (eqE _ _).trans (decide_eq_false (fun h => hkt (E.pow_gen_inj (by omega) htl h)))
      have hlt : k < t := by omega
      clear hkt
      go_wp2_with fail
      go_quiet (fail)
      go_wp2
      go_roundw
      case rel => exact ⟨k + 1, by omega, by go_num, below_drewN hb _, HQ.out⟩
      case measure => simp [intOf]; omega
theorem powZ_nat {x : E} (hx : x ≠ 0) (n : Nat) : powZ x (n : Int) = E.pow x n := by
  by_cases h : n = 0
  · subst h; rfl
  · rw [powZ, if_neg (by omega), if_neg hx, show ((n : Int) % 255).toNat = n % 255 by omega, E.pow_mod hx]
theorem powZ_of_nat (x : E) {n : Nat} (hn : n ≠ 0) (h : x = 0 ∨ True) : powZ x (n : Int) = E.pow x n := by
  by_cases hx : x = 0
  · subst hx; rw [powZ, if_neg (by omega), if_pos rfl, E.zero_pow hn]
  · exact powZ_nat hx n
def OrdCells (w : World) (B : Nat) : Prop := ∀ j, j < 8 → w.cell? ⟨B, j, none⟩ = some (.int .i64 ((E.ords[j]?.getD 0 : Nat) : Int))
theorem ordCells_new (w : World) (t : TypeId) : OrdCells (w.alloc (.cells #[.int .i64 1, .int .i64 3, .int .i64 5, .int .i64 15, .int .i64 17, .int .i64 51, .int .i64 85, .int .i64 255] t)) w.heap.size := by
  intro j hj
  rw [(Blk.new w t _).cell]
  match j, hj with
  | 0, _ => rfl
  | 1, _ => rfl
  | 2, _ => rfl
  | 3, _ => rfl
  | 4, _ => rfl
  | 5, _ => rfl
  | 6, _ => rfl
  | 7, _ => rfl
theorem ords_le : ∀ j, j < 8 → E.ords[j]?.getD 0 ≤ 255 := by decide
theorem order_zero (w : World) :
    Calls Try.prog 39 #[.int .u8 (0 : E).val] w fun e w' => e = .returned (.tuple #[.int .i64 0, .int .i64 10]) ∧ Below w.heap.size w w' := by
  have h0 : (((0 : E).val : Int) != 0) = false := rfl
  go_enter Try.func39, Try.ntmps39
  go_wp2
  go_loopw [8] (fun i wr => ∃ k : Nat, k ≤ 8 ∧ i = .int .i64 k ∧ Below w.heap.size w wr ∧ OrdCells wr w.heap.size) (fun i _ => 8 - (intOf i).toNat)
  case atStart => exact ⟨0, by omega, rfl, (Below.refl _ _).alloc (Nat.le_refl _) _, ordCells_new _ _⟩
  case round =>
    obtain ⟨k, hk, rfl, hb, hp⟩ := hrel
    by_cases hlt : k < 8
    · have hc1 := hp k hlt
      have HQ := Lib.hid hp
      clear hp
      generalize E.ords[k]?.getD 0 = n at hc1
      go_wp2
      go_roundw
      case rel => exact ⟨k + 1, by omega, by go_num, hb, HQ.out⟩
      case measure => simp [intOf]; omega
    · obtain rfl : k = 8 := by omega
      go_wp2
      go_ret2
      exact ⟨rfl, hb⟩
theorem order_any (x : E) (o : Nat) (ho : E.IsOrd x o) (w : World) :
    Calls Try.prog 39 #[.int .u8 x.val] w fun e w' => e = .returned (.tuple #[.int .i64 o, .int .i64 0]) ∧ Below w.heap.size w w' := by
  have hx := E.ord_ne_zero ho
  have hx' : ((x.val : Int) != 0) = true := by
    have h := (eqE x 0).trans (decide_eq_false hx)
    rw [bne, show (0 : Int) = ((0 : E).val : Int) from rfl, h]; rfl
  obtain ⟨t, ht, hto, hbefore⟩ := ho.at
  have hone := ho.2.2.1
  have Hone := Lib.hid hone
  have Hto := Lib.hid hto
  have Hbef := Lib.hid hbefore
  have HP := Lib.hid (fun n => powZ_nat hx n)
  have hol := ho.2.1
  clear hone hto hbefore ho hx
  go_enter Try.func39, Try.ntmps39
  go_wp2
  go_loopw [8] (fun i wr => ∃ k : Nat, k ≤ t ∧ i = .int .i64 k ∧ Below w.heap.size w wr ∧ OrdCells wr w.heap.size) (fun i _ => 8 - (intOf i).toNat)
  case atStart => exact ⟨0, by omega, rfl, (Below.refl _ _).alloc (Nat.le_refl _) _, ordCells_new _ _⟩
  case round =>
    obtain ⟨k, hk, rfl, hb, hp⟩ := hrel
    have hc1 := hp k (by omega)
    have hnl := ords_le k (by omega)
    have HQ := Lib.hid hp
    clear hp
    by_cases hkt : k = t
    · subst hkt
      rw [Hto.out] at hc1
      have HC := Lib.hid (fun w => pow_any x o (WalkArith.wf_i64 (by omega)) w)
      rw [HP.out] at HC
      have he : (((E.pow x o).val : Int) == 1) = true := by rw [Hone.out]; rfl
      go_wp2_with (go_at_call 32; refine (HC.out _).mono ?_; rintro e w' ⟨rfl, rfl⟩)
      go_ret2
      exact ⟨rfl, hb⟩
    · have hn1 := Hbef.out k (by omega)
      generalize E.ords[k]?.getD 0 = n at hc1 hn1 hnl
      have HC := Lib.hid (fun w => pow_any x n (WalkArith.wf_i64 (by omega)) w)
      rw [HP.out] at HC
      have he : (((E.pow x n).val : Int) == 1) = false := (eqE _ 1).trans (decide_eq_false hn1)
      clear hn1
      have hlt : k < t := by omega
      clear hkt
      go_wp2_with (go_at_call 32; refine (HC.out _).mono ?_; rintro e w' ⟨rfl, rfl⟩)
      go_roundw
      case rel => exact ⟨k + 1, by omega, by go_num, hb, HQ.out⟩
      case measure => simp [intOf]; omega
theorem refLog_zero (w : World) :
    Calls Try.prog 38 #[.int .i64 (0 : E).val] w fun e w' => e = .returned (.tuple #[.int .i64 0, .int .i64 10]) ∧ w = w' := by
  have h0 : (((0 : E).val : Int) == 0) = true := rfl
  go_enter Try.func38, Try.ntmps38
  go_wp2
  go_ret2
  exact ⟨rfl, rfl⟩
theorem refLog_any (x : E) (t : Nat) (ht : E.IsLog x t) (w : World) :
    Calls Try.prog 38 #[.int .i64 x.val] w fun e w' => e = .returned (.tuple #[.int .i64 t, .int .i64 0]) ∧ w = w' := by
  obtain ⟨htl, rfl⟩ := ht
  have h0 : (((E.pow E.gen t).val : Int) == 0) = false := (eqE _ 0).trans (decide_eq_false (E.pow_ne_zero E.gen_ne t))
  go_enter Try.func38, Try.ntmps38
  go_wp2
  go_loop [4, 5] (fun p i => ∃ k : Nat, k ≤ t ∧ i = .int .i64 k ∧ p = .int .i64 (E.pow E.gen k).val) (fun _ i => 255 - (intOf i).toNat)
  case atStart => exact ⟨0, by omega, rfl, rfl⟩
  case round =>
    obtain ⟨k, hk, rfl, rfl⟩ := hrel
    by_cases hkt : k = t
    · subst hkt
      go_wp2
      go_ret2
      exact ⟨rfl, rfl⟩
    · have hn : (((E.pow E.gen k).val : Int) == ((E.pow E.gen t).val : Int)) = false := (eqE _ _).trans (decide_eq_false (fun h => hkt (E.pow_gen_inj (by omega) htl h)))
      have HC := Lib.hid (fun w => refTimes_lit _ _ (E.pow E.gen k) E.gen rfl (show (2 : Int) = _ from rfl) w)
      have hlt : k < t := by omega
      clear hkt
      go_wp2_with (go_at_call 36; refine (HC.out _).mono ?_; rintro e w' ⟨rfl, rfl⟩)
      go_round
      case rel => exact ⟨k + 1, by omega, by go_num, rfl⟩
      case measure => simp [intOf]; omega
theorem refOrder_zero (w : World) :
    Calls Try.prog 40 #[.int .i64 (0 : E).val] w fun e w' => e = .returned (.tuple #[.int .i64 0, .int .i64 10]) ∧ w = w' := by
  have h0 : (((0 : E).val : Int) == 0) = true := rfl
  go_enter Try.func40, Try.ntmps40
  go_wp2
  go_ret2
  exact ⟨rfl, rfl⟩
theorem refOrder_any (x : E) (o : Nat) (ho : E.IsOrd x o) (w : World) :
    Calls Try.prog 40 #[.int .i64 x.val] w fun e w' => e = .returned (.tuple #[.int .i64 o, .int .i64 0]) ∧ w = w' := by
  have h0 : ((x.val : Int) == 0) = false := (eqE _ 0).trans (decide_eq_false (E.ord_ne_zero ho))
  have HO := Lib.hid ho
  have h1 := ho.1
  have h2 := ho.2.1
  clear ho
  go_enter Try.func40, Try.ntmps40
  go_wp2
  go_loop [4, 5] (fun p i => ∃ k : Nat, 1 ≤ k ∧ k ≤ o ∧ i = .int .i64 k ∧ p = .int .i64 (E.pow x k).val) (fun _ i => 256 - (intOf i).toNat)
  case atStart => exact ⟨1, by omega, by omega, rfl, by rw [E.pow_one]⟩
  case round =>
    obtain ⟨k, hk1, hk, rfl, rfl⟩ := hrel
    by_cases hkt : k = o
    · subst hkt
      have hn : (((E.pow x k).val : Int) == 1) = true := by rw [HO.out.2.2.1]; rfl
      go_wp2
      go_ret2
      exact ⟨rfl, rfl⟩
    · have hn : (((E.pow x k).val : Int) == 1) = false := (eqE _ 1).trans (decide_eq_false (HO.out.2.2.2 k (by omega) (by omega)))
      have hlt : k < o := by omega
      clear hkt
      go_wp2_with (go_at_call 36; refine (refTimes_any _ _ _).mono ?_; rintro e w' ⟨rfl, rfl⟩)
      go_round
      case rel => exact ⟨k + 1, by omega, by omega, by go_num, rfl⟩
      case measure => simp [intOf]; omega
end Go.Proofs.Ytdimanoodfepiaa
