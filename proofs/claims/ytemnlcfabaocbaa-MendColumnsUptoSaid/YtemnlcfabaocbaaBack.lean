/-
  slices.Backward over bytes: its closure stops, and what it hands out. (After the worked proof of slices.All.)
-/
import Derived.RangeFuncBox
import Derived.RangeFuncLeaves
import Derived.Shelf.Abstract
import Derived.WalkKit
import Derived.OwnWalkIn
import Derived.TacticsInMore
import Derived.LoopNIn
import Derived.LoopIn
import Derived.RangeFuncCalls
import Derived.Test.YtemnlcfabaocbaaPoly1
namespace Go.Proofs.Ytemnlcfabaocbaa
open Go.RowKit Go.Shelf Gf
set_option maxRecDepth 100000
set_option linter.unusedVariables false
attribute [local go_sem] Oper.semAt_some

/-- What has come when k rounds are over: the last k indices, falling, each with a value that fits. -/
def Back (len : Nat) (ok : Nat → E → Prop) (k : Nat) (ys : List (Nat × E)) : Prop := ys.length = k ∧ ∀ j, j < k → ∃ z, ys[j]? = some (len - 1 - j, z) ∧ ok (len - 1 - j) z
theorem Back.nil (len : Nat) (ok : Nat → E → Prop) : Back len ok 0 [] := ⟨rfl, fun j h => absurd h (by omega)⟩
theorem Back.snoc {len : Nat} {ok : Nat → E → Prop} {k m : Nat} {ys : List (Nat × E)} {z : E} (h : Back len ok k ys) (e : len - 1 - k = m) (ho : ok m z) : Back len ok (k + 1) (ys ++ [(m, z)]) := by
  subst e
  refine ⟨by simp [h.1], fun j hj => ?_⟩
  by_cases e : j < k
  · rw [List.getElem?_append_left (by rw [h.1]; exact e)]; exact h.2 j e
  · obtain rfl : j = k := by omega
    exact ⟨z, by rw [List.getElem?_append_right (by rw [h.1]; exact Nat.le_refl _), h.1, Nat.sub_self]; rfl, ho⟩

abbrev Item (len : Nat) := {x : Nat × E // x.1 < len}
def plain {len : Nat} (ys : List (Item len)) : List (Nat × E) := ys.map (·.1)
theorem plain_snoc {len : Nat} (ys : List (Item len)) (y : Item len) : plain (ys ++ [y]) = plain ys ++ [y.1] := by simp [plain]
theorem plain_length {len : Nat} (ys : List (Item len)) : (plain ys).length = ys.length := by simp [plain]
abbrev encs {len : Nat} (x : Item len) : Array Value := #[Value.int .i64 (x.1.1 : Int), Value.int .u8 (x.1.2.val : Int)]
/-- What the iterator looks at: the box with the slice, the slice's cells. -/
structure Seen (Bs len cap : Nat) (A : Option Addr) (ok : Nat → E → Prop) (W : World) : Prop where
  box : W.cell? ⟨Bs, 0, none⟩ = some (.slice A len cap)
  row : ∀ k, k < len → ∃ ad z, A = some ad ∧ ok k z ∧ W.cell? (ad.add k) = some (.int .u8 (z.val : Int))

set_option maxHeartbeats 2000000 in
theorem back1_in (F : Fence) (n : Nat) (h7 : F.fn 118) (hro : F.round = none) (hn : 1 ≤ n) (l Bs len cap : Nat) (A : Option Addr) (ok : Nat → E → Prop) (hlen : len ≤ maxLen)
    (J Jx : List (Item len) → World → Prop)
    (hY : ∀ pre x W, J pre W → pre.length < len → YieldAt F (n - 1) Try.prog l (encs x) W fun e W' =>
      (e = .returned (.bool true) ∧ J (pre ++ [x]) W' ∧ (Seen Bs len cap A ok W → Seen Bs len cap A ok W')) ∨ (e = .returned (.bool false) ∧ Jx (pre ++ [x]) W'))
    (W : World) (hQ0 : Seen Bs len cap A ok W) (h0 : J [] W) :
    CallsIn F n Try.prog 118 #[.func (.yield l) #[] #[], .pointer (some ⟨Bs, 0, none⟩)] W fun e W' => (∃ v, e = .returned v) ∧
      ((∃ ys, Back len ok len (plain ys) ∧ J ys W') ∨ (∃ pre, (∃ k, k ≤ len ∧ Back len ok k (plain pre)) ∧ Jx pre W')) := by
  refine callsIn_of_wp Try.func118 rfl h7 ?_ hro
  simp only [Try.ntmps118, List.size_toArray, List.length_cons, List.length_nil, Nat.reduceAdd, Nat.reduceSub, Array.replicate_succ, Array.replicate_zero, List.push_toArray, List.append_toArray, List.nil_append, List.cons_append]
  have hbx := hQ0.box
  have hm := hlen
  simp only [maxLen] at hm
  gi_wp2
  gi_loopw [3] (fun i wr => ∃ (m k : Nat) (ys : List (Item len)), m + k = len ∧ i = .int .i64 ((m : Int) - 1) ∧ Back len ok k (plain ys) ∧ J ys wr ∧ Seen Bs len cap A ok wr)
    (fun i _ => (intOf i + 1).toNat)
  case atStart => exact ⟨len, 0, [], by omega, rfl, Back.nil _ _, h0, hQ0⟩
  case round =>
    obtain ⟨m, k, ys, hmk, rfl, hB, hJs, hS⟩ := hrel
    have hbx' := hS.box
    by_cases hlt : 0 < m
    · obtain ⟨m, rfl⟩ : ∃ m', m = m' + 1 := ⟨m - 1, by omega⟩
      have e1 : (((m + 1 : Nat) : Int) - 1) = (m : Int) := by omega
      have hml : m < len := by omega
      rw [e1]
      obtain ⟨ad, z, rfl, hok, hc⟩ := hS.row m hml
      obtain ⟨fn, tmps, assign, body, hy, hR⟩ := hY _ ⟨(m, z), hml⟩ wr hJs (by rw [← plain_length, hB.1]; omega)
      have hzl := z.lt
      gi_wp2
      refine hR.mono ?_
      rintro e W3 (⟨rfl, hJ3, hk3⟩ | ⟨rfl, hJx3⟩)
      · have hw : IntKind.i64.wrap ((m : Int) - 1) = (m : Int) - 1 := IntWalk.i64_in _ (by omega)
        gi_wp2
        go_roundw
        case rel => exact ⟨m, k + 1, _, by omega, by simp, (by rw [plain_snoc]; exact hB.snoc (by omega) hok), hJ3, hk3 hS⟩
        case measure => simp [intOf]
      · gi_wp2
        refine bodyPost_ret (results_none rfl _ _ _) rfl ?_
        exact ⟨⟨_, rfl⟩, .inr ⟨_, ⟨k + 1, by omega, by rw [plain_snoc]; exact hB.snoc (by omega) hok⟩, hJx3⟩⟩
    · obtain rfl : m = 0 := by omega
      obtain rfl : k = len := by omega
      have e1 : (((0 : Nat) : Int) - 1) = -1 := rfl
      rw [e1]
      gi_wp2
      go_end0
      exact ⟨⟨_, rfl⟩, .inl ⟨_, hB, hJs⟩⟩

set_option maxHeartbeats 1000000 in
/-- slices.Backward(s): the slice value is boxed; the function value captures the box. -/
theorem back_in (F : Fence) (n : Nat) (h5 : F.fn 88) (hro : F.round = none) (a : Option Addr) (len cap : Nat) (w : World) :
    CallsIn F n Try.prog 88 #[.slice a len cap] w fun e w' => e = .returned (.func (.func 118) #[] #[.pointer (some ⟨w.heap.size, 0, none⟩)]) ∧ w' = w.alloc (.cells #[.slice a len cap] 26) := by
  refine callsIn_of_wp Try.func88 rfl h5 ?_ hro
  simp only [Try.ntmps88, List.size_toArray, List.length_cons, List.length_nil, Nat.reduceAdd, Nat.reduceSub, Array.replicate_succ, Array.replicate_zero, List.push_toArray, List.append_toArray, List.nil_append, List.cons_append]
  gi_wp2
  go_ret
  exact ⟨rfl, rfl⟩

/-- What the iterator hands out: all, falling; or the first k of them. -/
theorem back_stops (F : Fence) (n : Nat) (h7 : F.fn 118) (hro : F.round = none) (hn : 1 ≤ n) (Bs len cap : Nat) (A : Option Addr) (ok : Nat → E → Prop) (hlen : len ≤ maxLen) (w : World)
    (hQ : ∀ W, Below w.heap.size w W → Seen Bs len cap A ok W) :
    SeqStopsK F n Try.prog 118 #[.pointer (some ⟨Bs, 0, none⟩)] encs (fun A' B' => Seen Bs len cap A ok A' → Seen Bs len cap A ok B') (fun ys : List (Item len) => Back len ok len (plain ys))
      (fun pre => ∃ k, k ≤ len ∧ Back len ok k (plain pre)) len w := fun l J Jx W hW _ _ hY h0 =>
  back1_in F n h7 hro hn l Bs len cap A ok hlen J Jx hY W (hQ W hW) h0

theorem Seen.put {Bs len cap : Nat} {A : Option Addr} {ok : Nat → E → Prop} {W : World} {l : Nat} {o : Obj} (o' : Obj) (hl : W.heap[l]? = some o) (ho : o.isCells = false) (h : Seen Bs len cap A ok W) : Seen Bs len cap A ok (W.putObj l o') := by
  have hk : ∀ {p : Addr} {v : Value}, W.cell? p = some v → (W.putObj l o').cell? p = some v := fun h => cell_kept h (grownBy_putObj' W l o') (fun r e => by cases e; exact ⟨_, hl, ho⟩)
  exact ⟨hk h.box, fun k hk' => by obtain ⟨ad, z, e, ho, hc⟩ := h.row k hk'; exact ⟨ad, z, e, ho, hk hc⟩⟩
theorem Seen.setCell {Bs len cap : Nat} {A : Option Addr} {ok : Nat → E → Prop} {W : World} {p : Addr} (hb : Bs ≠ p.block) (hA : 0 < len → ∀ ad, A = some ad → ad.block ≠ p.block) (v : Value) (h : Seen Bs len cap A ok W) : Seen Bs len cap A ok (W.setCell p v) := by
  refine ⟨(World.cell?_setCell_other W p _ v (fun e => hb (by rw [e]))).trans h.box, fun k hk => ?_⟩
  obtain ⟨ad, z, rfl, ho, hc⟩ := h.row k hk
  exact ⟨ad, z, rfl, ho, (World.cell?_setCell_other W p _ v (fun e => hA (by omega) ad rfl (by rw [e, block_of_add]))).trans hc⟩
theorem Seen.drew {Bs len cap : Nat} {A : Option Addr} {ok : Nat → E → Prop} {W : World} (h : Seen Bs len cap A ok W) : Seen Bs len cap A ok W.drew := ⟨h.box, h.row⟩
end Go.Proofs.Ytemnlcfabaocbaa
