/-
  Texts of mine, merged: Gf Bits Field Mem App Post Open Series PolyList Poly1 Poly2 Poly3 Back Poly4 Div Quiet Poly5 Poly6 Ref2 Law2 Ref3 Ref4 OpenU.
-/
import Derived.WalkKit
import Derived.OpenShut
import Derived.Test.YtdoeelfcihdmbaaRows
import Derived.WalkSpells
import Derived.WalkLawsBesides
import Derived.Deep.QuietTactic
import Derived.BigQuiet
import Derived.Lib.Hide
import Derived.Below
import Derived.Laws.OwnMore
import Derived.Deep.AppendLies
import Derived.Deep.Draws
import Derived.Laws.Rows
import Derived.Laws.MakeOwn
import Derived.Maps.AppendAt
import Derived.RegionTactic
import Derived.OwnWalk
import Derived.Laws.CopyOwn
import Derived.ChangeSame
import Derived.ProofKit
import Derived.SizedLaws
import Derived.ChangeSlices
import Derived.Deep.RegionWith
import Derived.Deep.RegionLaw
import Derived.Lib.SliceRun
import Derived.RangeFuncBox
import Derived.RangeFuncLeaves
import Derived.Shelf.Abstract
import Derived.OwnWalkIn
import Derived.TacticsInMore
import Derived.LoopNIn
import Derived.LoopIn
import Derived.RangeFuncCalls
import Derived.Sort.QuietIn
import Derived.RegionIn
import Derived.Shelf.RegionOpen
import Derived.Deep.CondSized
import Derived.Lib.SmallJoins
/-
  The field of 256 elements, plain: bytes as numbers, sums by xor, products by shift and add.
-/
namespace Go.Proofs.Ytdoeelfcihdmbaa.Gf

/-- x times the generator, modulo 285. -/
def xt (x : Nat) : Nat := if 255 < 2 * x then (2 * x) ^^^ 285 else 2 * x
def xtn (a : Nat) : Nat → Nat
  | 0 => a
  | k + 1 => xt (xtn a k)
/-- The first k steps of the product. -/
def acc (a b : Nat) : Nat → Nat
  | 0 => 0
  | k + 1 => if b / 2 ^ k % 2 = 1 then acc a b k ^^^ xtn a k else acc a b k
def mulN (a b : Nat) : Nat := acc a b 8

theorem xt_lt : ∀ x, x < 256 → xt x < 256 := by decide +kernel
theorem xlc (x y z : Nat) : x ^^^ (y ^^^ z) = y ^^^ (x ^^^ z) := by rw [← Nat.xor_assoc, Nat.xor_comm x y, Nat.xor_assoc]

theorem xor_lt {x y : Nat} (hx : x < 256) (hy : y < 256) : x ^^^ y < 256 := Nat.xor_lt_two_pow (n := 8) hx hy
theorem xtn_lt {a : Nat} (ha : a < 256) : ∀ k, xtn a k < 256
  | 0 => ha
  | k + 1 => xt_lt _ (xtn_lt ha k)
theorem acc_lt {a : Nat} (b : Nat) (ha : a < 256) : ∀ k, acc a b k < 256
  | 0 => by simp [acc]
  | k + 1 => by
    simp only [acc]
    split
    · exact xor_lt (acc_lt b ha k) (xtn_lt ha k)
    · exact acc_lt b ha k
theorem mulN_lt {a : Nat} (b : Nat) (ha : a < 256) : mulN a b < 256 := acc_lt b ha 8

/-- An element: a byte. -/
structure E where
  val : Nat
  lt : val < 256

namespace E
theorem ext {x y : E} (h : x.val = y.val) : x = y := by cases x; cases y; simp only at h; subst h; rfl
theorem ext_iff {x y : E} : x = y ↔ x.val = y.val := ⟨fun h => by rw [h], ext⟩
instance : DecidableEq E := fun x y => if h : x.val = y.val then isTrue (ext h) else isFalse (fun e => h (by rw [e]))
def of (n : Nat) : E := ⟨n % 256, Nat.mod_lt _ (by decide)⟩
instance : Zero E := ⟨⟨0, by decide⟩⟩
instance : One E := ⟨⟨1, by decide⟩⟩
instance : Add E := ⟨fun x y => ⟨x.val ^^^ y.val, xor_lt x.lt y.lt⟩⟩
instance : Mul E := ⟨fun x y => ⟨mulN x.val y.val, mulN_lt _ x.lt⟩⟩
instance : Inhabited E := ⟨0⟩
theorem val_mul (x y : E) : (x * y).val = mulN x.val y.val := rfl
theorem of_val (x : E) : of x.val = x := ext (Nat.mod_eq_of_lt x.lt)
theorem val_of {n : Nat} (h : n < 256) : (of n).val = n := Nat.mod_eq_of_lt h

theorem add_comm (x y : E) : x + y = y + x := ext (Nat.xor_comm _ _)
theorem add_assoc (x y z : E) : x + y + z = x + (y + z) := ext (Nat.xor_assoc _ _ _)
theorem add_left_comm (x y z : E) : x + (y + z) = y + (x + z) := by rw [← add_assoc, add_comm x y, add_assoc]
theorem add_zero (x : E) : x + 0 = x := ext (Nat.xor_zero _)
theorem zero_add (x : E) : 0 + x = x := ext (Nat.zero_xor _)
theorem add_self (x : E) : x + x = 0 := ext (Nat.xor_self _)
theorem add_cancel_left (x y : E) : x + (x + y) = y := by rw [← add_assoc, add_self, zero_add]
theorem add_eq_zero {x y : E} : x + y = 0 ↔ x = y := by
  constructor
  · intro h
    have := add_cancel_left x y
    rw [h, add_zero] at this
    exact this
  · rintro rfl; exact add_self _
/-! linearity -/
theorem xt_form : ∀ x, x < 256 → xt x = (x <<< 1) ^^^ (285 * (x >>> 7)) := by decide +kernel
theorem shr7 : ∀ x, x < 256 → x >>> 7 = 0 ∨ x >>> 7 = 1 := by decide +kernel
theorem xt_xor {x y : Nat} (hx : x < 256) (hy : y < 256) : xt (x ^^^ y) = xt x ^^^ xt y := by
  rw [xt_form _ (xor_lt hx hy), xt_form _ hx, xt_form _ hy, Nat.shiftLeft_xor_distrib, Nat.shiftRight_xor_distrib]
  have h1 : 285 * ((x >>> 7) ^^^ (y >>> 7)) = (285 * (x >>> 7)) ^^^ (285 * (y >>> 7)) := by
    rcases shr7 x hx with h | h <;> rcases shr7 y hy with h' | h' <;> rw [h, h'] <;> decide
  rw [h1]
  simp only [Nat.xor_assoc]; rw [xlc (y <<< 1)]
theorem xtn_xor {x y : Nat} (hx : x < 256) (hy : y < 256) : ∀ k, xtn (x ^^^ y) k = xtn x k ^^^ xtn y k
  | 0 => rfl
  | k + 1 => by simp only [xtn]; rw [xtn_xor hx hy k, xt_xor (xtn_lt hx k) (xtn_lt hy k)]
theorem acc_xor_left {x y : Nat} (b : Nat) (hx : x < 256) (hy : y < 256) : ∀ k, acc (x ^^^ y) b k = acc x b k ^^^ acc y b k
  | 0 => by simp [acc]
  | k + 1 => by
    simp only [acc]
    rw [acc_xor_left b hx hy k, xtn_xor hx hy k]
    split
    · simp only [Nat.xor_assoc]; rw [xlc (acc y b k)]
    · rfl
theorem bit_xor (x y k : Nat) : (x ^^^ y) / 2 ^ k % 2 = (x / 2 ^ k % 2 + y / 2 ^ k % 2) % 2 := by
  have h := Nat.testBit_xor x y k
  simp only [Nat.testBit_eq_decide_div_mod_eq] at h
  have a := Nat.mod_two_eq_zero_or_one (x / 2 ^ k)
  have b := Nat.mod_two_eq_zero_or_one (y / 2 ^ k)
  have c := Nat.mod_two_eq_zero_or_one ((x ^^^ y) / 2 ^ k)
  rcases a with a | a <;> rcases b with b | b <;> rcases c with c | c <;> simp_all
theorem acc_xor_right (a x y : Nat) : ∀ k, acc a (x ^^^ y) k = acc a x k ^^^ acc a y k
  | 0 => by simp [acc]
  | k + 1 => by
    simp only [acc]
    rw [acc_xor_right a x y k, bit_xor]
    have ha := Nat.mod_two_eq_zero_or_one (x / 2 ^ k)
    have hb := Nat.mod_two_eq_zero_or_one (y / 2 ^ k)
    rcases ha with ha | ha <;> rcases hb with hb | hb <;> rw [ha, hb]
    · rfl
    · simp; ac_rfl
    · simp; ac_rfl
    · simp only [Nat.reduceAdd, Nat.reduceMod, if_neg Nat.zero_ne_one, if_pos]; rw [Nat.xor_assoc, xlc (xtn a k), Nat.xor_self, Nat.xor_zero]
theorem add_mul (x y z : E) : (x + y) * z = x * z + y * z := ext (acc_xor_left _ x.lt y.lt 8)
theorem mul_add (x y z : E) : x * (y + z) = x * y + x * z := ext (acc_xor_right _ _ _ 8)

/-! what holds of the powers of two and goes through sums, holds of all -/
theorem bits_sum : ∀ x, x < 256 → x = (x &&& 1) ^^^ (x &&& 2) ^^^ (x &&& 4) ^^^ (x &&& 8) ^^^ (x &&& 16) ^^^ (x &&& 32) ^^^ (x &&& 64) ^^^ (x &&& 128) := by decide +kernel
theorem bit_or : ∀ x, x < 256 → ∀ j, j < 8 → x &&& 2 ^ j = 0 ∨ x &&& 2 ^ j = 2 ^ j := by decide +kernel
theorem ind {P : E → Prop} (h0 : P 0) (h2 : ∀ j, j < 8 → P (of (2 ^ j))) (ha : ∀ x y, P x → P y → P (x + y)) (x : E) : P x := by
  have key : ∀ j (_ : j < 8), ∃ h : x.val &&& 2 ^ j < 256, P ⟨x.val &&& 2 ^ j, h⟩ := by
    intro j hj
    have hlt : 2 ^ j < 256 := Nat.lt_of_lt_of_le (Nat.pow_lt_pow_right (by decide) hj) (Nat.le_refl _)
    refine ⟨Nat.lt_of_le_of_lt Nat.and_le_left x.lt, ?_⟩
    rcases bit_or x.val x.lt j hj with h | h
    · have e : (⟨x.val &&& 2 ^ j, Nat.lt_of_le_of_lt Nat.and_le_left x.lt⟩ : E) = 0 := ext h
      rw [e]; exact h0
    · have e : (⟨x.val &&& 2 ^ j, Nat.lt_of_le_of_lt Nat.and_le_left x.lt⟩ : E) = of (2 ^ j) := ext (h.trans (val_of hlt).symm)
      rw [e]; exact h2 j hj
  obtain ⟨l0, p0⟩ := key 0 (by decide)
  obtain ⟨l1, p1⟩ := key 1 (by decide)
  obtain ⟨l2, p2⟩ := key 2 (by decide)
  obtain ⟨l3, p3⟩ := key 3 (by decide)
  obtain ⟨l4, p4⟩ := key 4 (by decide)
  obtain ⟨l5, p5⟩ := key 5 (by decide)
  obtain ⟨l6, p6⟩ := key 6 (by decide)
  obtain ⟨l7, p7⟩ := key 7 (by decide)
  have q := ha _ _ (ha _ _ (ha _ _ (ha _ _ (ha _ _ (ha _ _ (ha _ _ p0 p1) p2) p3) p4) p5) p6) p7
  have e : x = ((((((⟨_, l0⟩ + ⟨_, l1⟩) + ⟨_, l2⟩) + ⟨_, l3⟩) + ⟨_, l4⟩) + ⟨_, l5⟩) + ⟨_, l6⟩) + ⟨_, l7⟩ := ext (bits_sum x.val x.lt)
  rw [e]; exact q

theorem zero_mul (x : E) : 0 * x = 0 := by
  have h : (0 : E) * x + 0 * x = 0 * x := by rw [← add_mul, add_zero]
  have := congrArg (0 * x + ·) h
  simpa [add_cancel_left, add_self, add_zero] using this
theorem mul_zero (x : E) : x * 0 = 0 := by
  have h : x * (0 : E) + x * 0 = x * 0 := by rw [← mul_add, add_zero]
  have := congrArg (x * 0 + ·) h
  simpa [add_cancel_left, add_self, add_zero] using this
theorem comm_basis : ∀ i, i < 8 → ∀ j, j < 8 → mulN (2 ^ i) (2 ^ j) = mulN (2 ^ j) (2 ^ i) := by decide +kernel
theorem val_two {j : Nat} (hj : j < 8) : (of (2 ^ j)).val = 2 ^ j :=
  val_of (Nat.lt_of_lt_of_le (Nat.pow_lt_pow_right (by decide) hj) (Nat.le_refl _))
theorem mul_comm (x y : E) : x * y = y * x := by
  refine ind (P := fun y => x * y = y * x) ?_ ?_ ?_ y
  · rw [mul_zero, zero_mul]
  · intro j hj
    refine ind (P := fun x => x * of (2 ^ j) = of (2 ^ j) * x) ?_ ?_ ?_ x
    · rw [mul_zero, zero_mul]
    · intro i hi
      apply ext
      rw [val_mul, val_mul, val_two hi, val_two hj]
      exact comm_basis i hi j hj
    · intro a b h h'; rw [mul_add, add_mul, h, h']
  · intro a b h h'; rw [mul_add, add_mul, h, h']
theorem assoc_basis : ∀ i, i < 8 → ∀ j, j < 8 → ∀ k, k < 8 → mulN (mulN (2 ^ i) (2 ^ j)) (2 ^ k) = mulN (2 ^ i) (mulN (2 ^ j) (2 ^ k)) := by decide +kernel
theorem mul_assoc (x y z : E) : x * y * z = x * (y * z) := by
  refine ind (P := fun z => x * y * z = x * (y * z)) ?_ ?_ ?_ z
  · simp only [mul_zero]
  · intro k hk
    refine ind (P := fun y => x * y * of (2 ^ k) = x * (y * of (2 ^ k))) ?_ ?_ ?_ y
    · simp only [mul_zero, zero_mul]
    · intro j hj
      refine ind (P := fun x => x * of (2 ^ j) * of (2 ^ k) = x * (of (2 ^ j) * of (2 ^ k))) ?_ ?_ ?_ x
      · simp only [zero_mul]
      · intro i hi
        apply ext
        simp only [val_mul]
        rw [val_two hi, val_two hj, val_two hk]
        exact assoc_basis i hi j hj k hk
      · intro a b h h'; simp only [add_mul, h, h']
    · intro a b h h'; simp only [add_mul, mul_add, h, h']
  · intro a b h h'; simp only [mul_add, h, h']
theorem mul_left_comm (x y z : E) : x * (y * z) = y * (x * z) := by rw [← mul_assoc, mul_comm x y, mul_assoc]
theorem one_basis : ∀ i, i < 8 → mulN (2 ^ i) 1 = 2 ^ i := by decide +kernel
theorem mul_one (x : E) : x * 1 = x := by
  refine ind (P := fun x => x * 1 = x) ?_ ?_ ?_ x
  · rw [zero_mul]
  · intro i hi; apply ext; rw [val_mul, val_two hi]; exact one_basis i hi
  · intro a b h h'; rw [add_mul, h, h']
theorem one_mul (x : E) : 1 * x = x := by rw [mul_comm, mul_one]

/-! powers -/
def pow (a : E) : Nat → E
  | 0 => 1
  | n + 1 => pow a n * a
theorem pow_zero (a : E) : pow a 0 = 1 := rfl
theorem pow_succ (a : E) (n : Nat) : pow a (n + 1) = pow a n * a := rfl
theorem pow_add (a : E) (m n : Nat) : pow a (m + n) = pow a m * pow a n := by
  induction n with
  | zero => rw [Nat.add_zero, pow_zero, mul_one]
  | succ n ih => rw [← Nat.add_assoc, pow_succ, ih, pow_succ, mul_assoc]
theorem pow_mul (a : E) (m n : Nat) : pow a (m * n) = pow (pow a m) n := by
  induction n with
  | zero => rfl
  | succ n ih => rw [Nat.mul_succ, pow_add, ih, pow_succ]
theorem pow_one (a : E) : pow a 1 = a := by rw [pow_succ, pow_zero, one_mul]
theorem pow_two (a : E) : pow a 2 = a * a := by rw [pow_succ, pow_one]
def sqN (a : Nat) : Nat := mulN a a
/-- a to the power 254, by squares. -/
def p254 (a : Nat) : Nat :=
  let a2 := sqN a
  let a3 := mulN a2 a
  let a6 := sqN a3
  let a12 := sqN a6
  let a15 := mulN a12 a3
  let a30 := sqN a15
  let a60 := sqN a30
  let a120 := sqN a60
  let a126 := mulN a120 a6
  let a127 := mulN a126 a
  sqN a127
theorem p254_val (a : E) : p254 a.val = (pow a 254).val := by
  have e2 : pow a 2 = a * a := pow_two a
  have e3 : pow a 3 = pow a 2 * a := pow_succ a 2
  have e6 : pow a 6 = pow a 3 * pow a 3 := pow_add a 3 3
  have e12 : pow a 12 = pow a 6 * pow a 6 := pow_add a 6 6
  have e15 : pow a 15 = pow a 12 * pow a 3 := pow_add a 12 3
  have e30 : pow a 30 = pow a 15 * pow a 15 := pow_add a 15 15
  have e60 : pow a 60 = pow a 30 * pow a 30 := pow_add a 30 30
  have e120 : pow a 120 = pow a 60 * pow a 60 := pow_add a 60 60
  have e126 : pow a 126 = pow a 120 * pow a 6 := pow_add a 120 6
  have e127 : pow a 127 = pow a 126 * a := pow_succ a 126
  have e254 : pow a 254 = pow a 127 * pow a 127 := pow_add a 127 127
  simp only [p254, sqN]
  rw [e254, val_mul, e127, val_mul, e126, val_mul, e120, val_mul, e60, val_mul, e30, val_mul, e15, val_mul, e12, val_mul, e6, val_mul, e3, val_mul, e2, val_mul]
theorem inv_all : ∀ a, a < 256 → a = 0 ∨ mulN a (p254 a) = 1 := by decide +kernel
def inv (a : E) : E := pow a 254
theorem mul_inv {a : E} (h : a ≠ 0) : a * inv a = 1 := by
  rcases inv_all a.val a.lt with h' | h'
  · exact absurd (ext h') h
  · apply ext; rw [val_mul, inv, ← p254_val]; exact h'
theorem inv_mul {a : E} (h : a ≠ 0) : inv a * a = 1 := by rw [mul_comm, mul_inv h]
theorem one_ne_zero : (1 : E) ≠ 0 := by decide
theorem mul_eq_zero {a b : E} : a * b = 0 ↔ a = 0 ∨ b = 0 := by
  constructor
  · intro h
    by_cases ha : a = 0
    · exact .inl ha
    · right
      have := congrArg (inv a * ·) h
      simpa [← mul_assoc, inv_mul ha, one_mul, mul_zero] using this
  · rintro (rfl | rfl)
    · exact zero_mul _
    · exact mul_zero _
theorem inv_ne_zero {a : E} (h : a ≠ 0) : inv a ≠ 0 := by
  intro h'
  have := mul_inv h
  rw [h', mul_zero] at this
  exact one_ne_zero this.symm
theorem inv_eq {a b : E} (h : a * b = 1) : b = inv a := by
  have ha : a ≠ 0 := by rintro rfl; rw [zero_mul] at h; exact one_ne_zero h.symm
  have := congrArg (inv a * ·) h
  simpa [← mul_assoc, inv_mul ha, one_mul, mul_one] using this
theorem zero_pow {n : Nat} (h : n ≠ 0) : pow 0 n = 0 := by
  cases n with
  | zero => exact absurd rfl h
  | succ n => rw [pow_succ, mul_zero]
end E
end Go.Proofs.Ytdoeelfcihdmbaa.Gf
/-
  Small laws on Go's integer operations at numbers that are known to be small.
-/
namespace Go.Proofs.Ytdoeelfcihdmbaa
open Go.RowKit Gf

theorem bits_i64_xor (a b : Nat) (ha : a < 2 ^ 32) (hb : b < 2 ^ 32) : bits .xor .i64 (a : Int) (b : Int) = ((a ^^^ b : Nat) : Int) := by
  have ha' : a % 2 ^ 64 = a := Nat.mod_eq_of_lt (Nat.lt_trans ha (by decide))
  have hb' : b % 2 ^ 64 = b := Nat.mod_eq_of_lt (Nat.lt_trans hb (by decide))
  have hx : a ^^^ b < 2 ^ 32 := Nat.xor_lt_two_pow ha hb
  have e : IntKind.bits .i64 = 64 := rfl
  simp only [bits, e, BitVec.ofInt_natCast, BitVec.toNat_xor, BitVec.toNat_ofNat, ha', hb']
  rw [IntKind.wrap_i64]
  omega
theorem bits_u8_and1 (a : Nat) (ha : a < 256) : bits .and .u8 (a : Int) 1 = ((a % 2 : Nat) : Int) := by
  have h := u8_and_nat a 1 ha (by decide)
  rw [Nat.and_one_is_mod] at h
  exact h
theorem bits_u8_xor (x y : E) : bits .xor .u8 (x.val : Int) (y.val : Int) = ((x + y).val : Int) := u8_xor_nat _ _ x.lt y.lt
/-- An integer that fits the kind of bytes is an element. -/
theorem toE {a : Int} (h : (Lit.int .u8 a).wf = true) : ∃ x : E, a = (x.val : Int) := by
  have h' := bounds_u8 h
  exact ⟨⟨a.toNat, by omega⟩, by show a = ((a.toNat : Nat) : Int); omega⟩
theorem ret_bool {a b : Bool} (h : a = b) : Ending.returned (.bool a) = .returned (.bool b) := by rw [h]
theorem ret_elem {a b : E} (h : a = b) : Ending.returned (.int .u8 a.val) = .returned (.int .u8 b.val) := by rw [h]
theorem eqE (x y : E) : ((x.val : Int) == (y.val : Int)) = decide (x = y) := by
  rw [Bool.eq_iff_iff]; simp only [beq_iff_eq, decide_eq_true_iff, E.ext_iff]; omega
end Go.Proofs.Ytdoeelfcihdmbaa
/-
  The walks of the field's functions: what each computes.
-/
namespace Go.Proofs.Ytdoeelfcihdmbaa
open Go.RowKit Gf

theorem quiet_left {P : Program} {f : FuncId} {args : Array Value} {w : World} {n : Nat} {v : Value}
    (h : Calls P f args (w.drewN n) fun e w' => e = .returned v ∧ w.drewN n = w') : Calls P f args (w.drewN n) fun e w'' => e = .returned v ∧ ∃ m, w'' = w.drewN m :=
  h.mono fun _ _ ⟨he, hm⟩ => ⟨he, n, hm.symm⟩
theorem plus_any (x y : E) (w : World) :
    Calls Try.prog 67 #[.int .u8 x.val, .int .u8 y.val] w fun e w' => e = .returned (.int .u8 (x + y).val) ∧ w = w' := by
  have hx := bits_u8_xor x y
  go_enter Try.func67, Try.ntmps67
  go_wp2
  go_ret
  exact ⟨rfl, rfl⟩
theorem isZero_any (x : E) (w : World) :
    Calls Try.prog 95 #[.int .u8 x.val] w fun e w' => e = .returned (.bool (decide (x = 0))) ∧ w = w' := by
  go_enter Try.func95, Try.ntmps95
  go_wp2
  go_ret
  exact ⟨ret_bool (eqE x 0), rfl⟩

/-- One step of the product, as the program has it. -/
theorem bit_step (b : Nat) (k : Nat) (hb : b < 256) : bits BinOp.and IntKind.u8 ((b : Int) / 2 ^ k) 1 = ((b / 2 ^ k % 2 : Nat) : Int) := by
  have h : ((b : Int) / 2 ^ k) = ((b / 2 ^ k : Nat) : Int) := by simp
  rw [h]
  exact bits_u8_and1 _ (Nat.lt_of_le_of_lt (Nat.div_le_self _ _) hb)
theorem xt_big (X : Nat) (h : X < 256) (h1 : 255 < (X : Int) * 2) : bits BinOp.xor IntKind.i64 ((X : Int) * 2) 285 = (xt X : Int) := by
  have e : ((X : Int) * 2) = ((2 * X : Nat) : Int) := by omega
  rw [e, show (285 : Int) = ((285 : Nat) : Int) from rfl, bits_i64_xor _ _ (by omega) (by decide)]
  rw [xt, if_pos (by omega)]
theorem xt_small (X : Nat) (h1 : (X : Int) * 2 ≤ 255) : (X : Int) * 2 = (xt X : Int) := by
  rw [xt, if_neg (by omega)]; omega
theorem acc_yes (a b k : Nat) (ha : a < 256) (hb : b < 256) (h : (bits BinOp.and IntKind.u8 ((b : Int) / 2 ^ k) 1 == 1) = true) :
    bits BinOp.xor IntKind.i64 (acc a b k : Int) (xtn a k : Int) = (acc a b (k + 1) : Int) := by
  rw [bit_step b k hb, beq_iff_eq] at h
  rw [bits_i64_xor _ _ (Nat.lt_trans (acc_lt b ha k) (by decide)) (Nat.lt_trans (xtn_lt ha k) (by decide))]
  rw [acc, if_pos (by omega)]
theorem acc_no (a b k : Nat) (hb : b < 256) (h : (bits BinOp.and IntKind.u8 ((b : Int) / 2 ^ k) 1 == 1) = false) :
    (acc a b k : Int) = (acc a b (k + 1) : Int) := by
  rw [bit_step b k hb, beq_eq_false_iff_ne] at h
  rw [acc, if_neg (by omega)]

theorem times_any (x y : E) (w : World) :
    Calls Try.prog 68 #[.int .u8 x.val, .int .u8 y.val] w fun e w' => e = .returned (.int .u8 (x * y).val) ∧ w = w' := by
  obtain ⟨a, ha⟩ := x
  obtain ⟨b, hb⟩ := y
  simp only
  go_enter Try.func68, Try.ntmps68
  go_wp2
  go_loop [5, 6, 10] (fun p x i => ∃ k : Nat, k ≤ 8 ∧ i = .int .i64 k ∧ p = .int .i64 (acc a b k) ∧ x = .int .i64 (xtn a k))
     (fun _ _ i => 8 - (intOf i).toNat)
  case atStart => exact ⟨0, Nat.zero_le _, rfl, rfl, rfl⟩
  case round =>
    obtain ⟨k, hk, rfl, rfl, rfl⟩ := hrel
    have hP := acc_lt b ha k
    have hX := xtn_lt ha k
    by_cases hlt : k < 8
    · go_wp2
      all_goals
        go_round
        case rel => exact ⟨k + 1, by omega, by go_num, congrArg _ (by first | exact acc_yes a b k ha hb (by assumption) | exact acc_no a b k hb (by assumption)), congrArg _ (by first | exact xt_big _ hX (by assumption) | exact xt_small _ (by assumption))⟩
        case measure => simp [intOf]; omega
    · obtain rfl : k = 8 := by omega
      go_wp2
      go_ret
      exact ⟨rfl, rfl⟩

/-- Go's power: any whole number. -/
def powZ (x : E) (n : Int) : E := if n = 0 then 1 else if x = 0 then 0 else E.pow x (n % 255).toNat
theorem pow_odd {x A P : E} {k : Nat} {m : Nat} (h : P * E.pow A k = E.pow x m) (ho : (k : Int) % 2 = 1) : P * A * E.pow (A * A) (k / 2) = E.pow x m := by
  have e : k = 1 + 2 * (k / 2) := by omega
  rw [← h]
  conv => rhs; rw [e, E.pow_add, E.pow_mul, E.pow_one, E.pow_two]
  rw [E.mul_assoc]
theorem pow_even {x A P : E} {k : Nat} {m : Nat} (h : P * E.pow A k = E.pow x m) (ho : ¬ (k : Int) % 2 = 1) : P * E.pow (A * A) (k / 2) = E.pow x m := by
  have e : k = 2 * (k / 2) := by omega
  rw [← h]
  conv => rhs; rw [e, E.pow_mul, E.pow_two]
set_option maxHeartbeats 400000 in
theorem pow_any (x : E) (n : Int) (hn : (Lit.int .i64 n).wf = true) (w : World) :
    Calls Try.prog 176 #[.int .u8 x.val, .int .i64 n] w fun e w' => e = .returned (.int .u8 (powZ x n).val) ∧ w = w' := by
  have hb := bounds_i64 hn
  by_cases h0 : n = 0
  · have h0' : (n == 0) = true := by simp [h0]
    go_enter Try.func176, Try.ntmps176
    go_wp2
    go_ret
    exact ⟨ret_elem (a := 1) (by rw [powZ, if_pos h0]), rfl⟩
  have h0' : (n == 0) = false := by simp [h0]
  by_cases hx : x = 0
  · have hx' : ((x.val : Int) == 0) = true := by rw [hx]; rfl
    have ho : powZ x n = 0 := by rw [powZ, if_neg h0, if_pos hx]
    have Ho := Lib.hid ho
    clear ho hx h0
    go_enter Try.func176, Try.ntmps176
    go_wp2
    go_ret
    exact ⟨ret_elem (a := 0) (by rw [Ho.out]), rfl⟩
  have hx' : ((x.val : Int) == 0) = false := (eqE x 0).trans (by simp [hx])
  have ho : powZ x n = E.pow x (n % 255).toNat := by rw [powZ, if_neg h0, if_neg hx]
  have Ho := Lib.hid ho
  clear ho hx h0
  obtain ⟨m, hm⟩ : ∃ m : Nat, (n % 255).toNat = m := ⟨_, rfl⟩
  have hlo : 0 ≤ n % 255 := by omega
  have hm1 : n % 255 = (m : Int) := by omega
  have ht : n.tmod 255 = if 0 ≤ n then n % 255 else if n % 255 = 0 then 0 else n % 255 - 255 := by
    split
    · exact Int.tmod_eq_emod_of_nonneg (by assumption)
    · rw [Int.tmod_eq_emod]
      split <;> omega
  have Hm := Lib.hid hm
  clear hm
  have hm2 : m < 255 := by omega
  have key : (if n.tmod 255 < 0 then n.tmod 255 + 255 else n.tmod 255) = (m : Int) := by
    rw [ht]
    split <;> (repeat' split) <;> omega
  have htb : -255 < n.tmod 255 ∧ n.tmod 255 < 255 := by rw [ht]; split <;> (repeat' split) <;> omega
  clear ht hm1 hlo
  by_cases hneg : n.tmod 255 < 0
  all_goals
    have key' := key
    first | rw [if_pos hneg] at key' | rw [if_neg hneg] at key'
    have Key := Lib.hid key'
    clear key key'
    go_enter Try.func176, Try.ntmps176
    go_wp2
    go_loop [0, 1, 5] (fun a i p => ∃ (k : Nat) (A P : E), k < 255 ∧ i = .int .i64 k ∧ a = .int .u8 A.val ∧ p = .int .u8 P.val ∧ Hid (P * E.pow A k = E.pow x m))
       (fun _ i _ => (intOf i).toNat)
    case atStart => exact ⟨m, x, 1, hm2, by rw [Key.out], rfl, rfl, E.one_mul _⟩
    case round =>
      obtain ⟨k, A, P, hk, rfl, rfl, rfl, hP⟩ := hrel
      by_cases hk0 : 0 < k
      · by_cases hodd : (k : Int) % 2 = 1
        · have hh := Lib.hid (pow_odd hP.out hodd)
          go_wp2_with (go_at_call 68; refine (times_any _ _ _).mono ?_; rintro e w' ⟨rfl, rfl⟩)
          go_round
          case rel => exact ⟨k / 2, A * A, P * A, by omega, by simp, rfl, rfl, hh⟩
          case measure => simp [intOf]; omega
        · have hh := Lib.hid (pow_even hP.out hodd)
          go_wp2_with (go_at_call 68; refine (times_any _ _ _).mono ?_; rintro e w' ⟨rfl, rfl⟩)
          go_round
          case rel => exact ⟨k / 2, A * A, P, by omega, by simp, rfl, rfl, hh⟩
          case measure => simp [intOf]; omega
      · obtain rfl : k = 0 := by omega
        go_wp2
        go_ret
        exact ⟨ret_elem (by rw [Ho.out, Hm.out, ← hP.out, E.pow_zero, E.mul_one]), rfl⟩

theorem pow_lit (x : E) (n : Int) (k : Nat) (hn : (Lit.int .i64 n).wf = true) (h0 : n ≠ 0) (hk : (n % 255).toNat = k) (hk0 : k ≠ 0) (w : World) :
    Calls Try.prog 176 #[.int .u8 x.val, .int .i64 n] w fun e w' => e = .returned (.int .u8 (E.pow x k).val) ∧ w = w' := by
  have e : powZ x n = E.pow x k := by
    rw [powZ, if_neg h0]
    split
    · rename_i h; rw [h, E.zero_pow hk0]
    · rw [hk]
  rw [← e]
  exact pow_any x n hn w
theorem inverse_any (x : E) (w : World) :
    Calls Try.prog 127 #[.int .u8 x.val] w fun e w' => e = .returned (.tuple #[.int .u8 (E.inv x).val, .bool (!decide (x = 0))]) ∧ w = w' := by
  by_cases hx : x = 0
  · subst hx
    go_enter Try.func127, Try.ntmps127
    go_wp2
    go_ret2
    exact ⟨by have e : E.inv 0 = 0 := E.zero_pow (by decide)
              rw [e]; rfl, rfl⟩
  · have hx' : ((x.val : Int) == 0) = false := (eqE x 0).trans (by simp [hx])
    have Hx := Lib.hid hx
    clear hx
    go_enter Try.func127, Try.ntmps127
    go_wp2_with (go_at_call 176; refine (pow_lit x 254 254 (by decide) (by decide) (by decide) (by decide) _).mono ?_; rintro e w' ⟨rfl, rfl⟩)
    go_ret2
    exact ⟨by rw [decide_eq_false Hx.out]; rfl, rfl⟩
theorem over_any (x y : E) (hy : y ≠ 0) (w : World) :
    Calls Try.prog 129 #[.int .u8 x.val, .int .u8 y.val] w fun e w' => e = .returned (.tuple #[.int .u8 (x * E.inv y).val, .int .i64 0]) ∧ w = w' := by
  have hy' : decide (y = 0) = false := decide_eq_false hy
  clear hy
  go_enter Try.func129, Try.ntmps129
  go_wp2_with (first | (go_at_call 127; refine (inverse_any y _).mono ?_; rintro e w' ⟨rfl, rfl⟩) | (go_at_call 68; refine (times_any _ _ _).mono ?_; rintro e w' ⟨rfl, rfl⟩))
  go_ret2
  exact ⟨rfl, rfl⟩
theorem times_lit (a b : Int) (x y : E) (ha : a = x.val) (hb : b = y.val) (w : World) :
    Calls Try.prog 68 #[.int .u8 a, .int .u8 b] w fun e w' => e = .returned (.int .u8 (x * y).val) ∧ w = w' := by
  subst ha; subst hb; exact times_any x y w
end Go.Proofs.Ytdoeelfcihdmbaa
/-
  Words for memory: a slice that reads as a list; a block that is known whole; a row of the call's own. (After the guide's own words, with the length left to the list.)
-/
namespace Go.Proofs.Ytdoeelfcihdmbaa
open Go.RowKit Gf

theorem block_of_add (a : Addr) (n : Nat) : (a.add n).block = a.block := by unfold Addr.add; split <;> rfl
theorem add_of_add (a : Addr) (i j : Nat) : (a.add i).add j = a.add (i + j) := by
  unfold Addr.add
  by_cases hi : i = 0 <;> by_cases hj : j = 0 <;> simp [hi, hj, Nat.add_assoc]
theorem add_plain (g j : Nat) : (⟨g, 0, none⟩ : Addr).add j = ⟨g, j, none⟩ := by unfold Addr.add; split <;> simp_all
theorem add_zero' (a : Addr) : a.add 0 = a := by unfold Addr.add; simp

/-- Bytes as cells. -/
def bv (x : E) : Value := .int .u8 (x.val : Int)
def bs (l : List E) : List Value := l.map bv
theorem bs_length (l : List E) : (bs l).length = l.length := List.length_map _
theorem bs_get (l : List E) (j : Nat) (h : j < l.length) : (bs l)[j]? = some (.int .u8 ((l[j]).val : Int)) := by
  simp only [bs, List.getElem?_map, List.getElem?_eq_getElem h, Option.map_some]; rfl
theorem bs_append (a b : List E) : bs (a ++ b) = bs a ++ bs b := List.map_append
theorem bs_one (x : E) : bs [x] = [.int .u8 (x.val : Int)] := rfl
theorem bs_take (l : List E) (n : Nat) : bs (l.take n) = (bs l).take n := List.map_take
theorem bs_drop (l : List E) (n : Nat) : bs (l.drop n) = (bs l).drop n := List.map_drop
theorem bs_ones (l : List E) : ∀ u ∈ bs l, u.oneCell' = true := by
  intro u hu
  obtain ⟨x, _, rfl⟩ := List.mem_map.1 hu
  rfl

/-- The slice's cells read as this list. -/
def Rd (w : World) (A : Option Addr) (xs : List Value) : Prop :=
  0 < xs.length → ∃ ad, A = some ad ∧ ∀ j u, xs[j]? = some u → w.cell? (ad.add j) = some u

section
variable {w w' : World} {A : Option Addr} {xs : List Value}
theorem Rd.nil (w : World) (A : Option Addr) : Rd w A [] := fun h => absurd h (by simp)
theorem Rd.at_ {k : Nat} {u : Value} (h : Rd w A xs) (hu : xs[k]? = some u) : ∃ ad, A = some ad ∧ w.cell? (ad.add k) = some u := by
  have hl : k < xs.length := (List.getElem?_eq_some_iff.1 hu).1
  obtain ⟨ad, e, hc⟩ := h (by omega)
  exact ⟨ad, e, hc k u hu⟩
theorem Rd.byte {l : List E} {k : Nat} (h : Rd w A (bs l)) (hk : k < l.length) : ∃ ad, A = some ad ∧ w.cell? (ad.add k) = some (.int .u8 ((l[k]).val : Int)) := h.at_ (bs_get l k hk)
theorem Rd.lt (h : Rd w A xs) (hn : 0 < xs.length) : ∃ ad, A = some ad ∧ ad.block < w.heap.size := by
  obtain ⟨ad, e, hc⟩ := h hn
  refine ⟨ad, e, ?_⟩
  have := World.block_lt_of_cell? w _ (hc 0 xs[0] (List.getElem?_eq_getElem hn))
  rwa [block_of_add] at this
theorem Rd.keep (h : Rd w A xs) (hk : ∀ p : Addr, p.block < w.heap.size → A.map (·.block) = some p.block → w'.cell? p = w.cell? p) : Rd w' A xs := fun hn => by
  obtain ⟨ad, e, hc⟩ := h hn
  refine ⟨ad, e, fun j u hu => ?_⟩
  have h1 := hc j u hu
  have hb := World.block_lt_of_cell? w _ h1
  exact (hk _ hb (by rw [e, block_of_add]; rfl)).trans h1
theorem Rd.below (h : Rd w A xs) (hb : Below w.heap.size w w') : Rd w' A xs := h.keep fun _ hp _ => hb.cell hp
theorem Rd.drewN (h : Rd w A xs) (k : Nat) : Rd (w.drewN k) A xs := h
theorem Rd.alloc (h : Rd w A xs) (o : Obj) : Rd (w.alloc o) A xs := h.keep fun p hp _ => World.cell?_alloc_lt w o p hp
theorem Rd.setCell (h : Rd w A xs) {p : Addr} (hp : ∀ ad, A = some ad → ad.block ≠ p.block) (u : Value) : Rd (w.setCell p u) A xs :=
  h.keep fun q _ hA => World.cell?_setCell_other w p q u (fun e => by
    subst e
    cases A with
    | none => cases hA
    | some ad => exact hp ad rfl (by simpa using hA))
theorem Rd.take (h : Rd w A xs) (n : Nat) : Rd w A (xs.take n) := fun hn => by
  obtain ⟨ad, e, hc⟩ := h (by simp at hn; omega)
  exact ⟨ad, e, fun j u hu => hc j u (by rw [List.getElem?_take] at hu; split at hu <;> simp_all)⟩
theorem Rd.cut {k cap : Nat} (h : Rd w A xs) (hk : k ≤ xs.length) (hc : xs.length ≤ cap) : Rd w (if cap = k then A else A.map (·.add k)) (xs.drop k) := fun hn => by
  rw [List.length_drop] at hn
  obtain ⟨ad, rfl, hcell⟩ := h (by omega)
  rw [if_neg (by omega)]
  refine ⟨ad.add k, rfl, fun j u hu => ?_⟩
  rw [add_of_add]
  exact hcell _ u (by rw [← hu, List.getElem?_drop])
end

/-- A row of the call's own: the slice v is nil, or begins a block from B on; its elements are xs (of one cell each). -/
def Own (w : World) (B : Nat) (T : TypeId) (v : Value) (xs : List Value) : Prop := w.ownsRow B T 1 v xs.length xs

section
variable {w w' : World} {B : Nat} {T : TypeId} {v : Value} {xs : List Value}
theorem Own.nil (w : World) (B : Nat) (T : TypeId) : Own w B T (.slice none 0 0) [] := World.ownsRow_nil _ _ _ _
theorem Own.form (h : Own w B T v xs) : (v = .slice none 0 0 ∧ xs = []) ∨ ∃ g cap, v = .slice (some ⟨g, 0, none⟩) xs.length cap ∧ B ≤ g ∧ g < w.heap.size ∧ xs.length ≤ cap ∧ cap ≤ maxLen := by
  rcases h.2 with ⟨hv, hn⟩ | ⟨g, cap, cur, hv, hb, hh, hn, hm, _⟩
  · exact .inl ⟨hv, List.eq_nil_of_length_eq_zero hn⟩
  · exact .inr ⟨g, cap, hv, hb, (Array.getElem?_eq_some_iff.1 hh).1, hn, hm⟩
theorem Own.slice (h : Own w B T v xs) : ∃ A cap, v = .slice A xs.length cap ∧ Rd w A xs ∧ xs.length ≤ cap ∧ cap ≤ maxLen ∧ (∀ ad, A = some ad → B ≤ ad.block ∧ ad.block < w.heap.size) := by
  rcases h.form with ⟨hv, hn⟩ | ⟨g, cap, hv, hb, hlt, hn, hm⟩
  · subst hn
    exact ⟨none, 0, hv, Rd.nil _ _, Nat.le_refl _, Nat.zero_le _, fun _ h => by cases h⟩
  · refine ⟨some ⟨g, 0, none⟩, cap, hv, fun _ => ⟨_, rfl, fun j u hu => ?_⟩, hn, hm, fun ad h => by cases h; exact ⟨hb, hlt⟩⟩
    subst hv
    exact World.ownsRow.cells h (g := g) rfl j u hu
theorem Own.keepBlock (h : Own w B T v xs) (hk : ∀ g, v.ownBlock = some g → w'.heap[g]? = w.heap[g]?) : Own w' B T v xs := by
  refine ⟨h.1, ?_⟩
  rcases h.2 with hn | ⟨g, cap, cur, rfl, hb, hh, rest⟩
  · exact .inl hn
  · exact .inr ⟨g, cap, cur, rfl, hb, by rw [hk g rfl]; exact hh, rest⟩
theorem Own.below {B' : Nat} (h : Own w B T v xs) (hb : Below B' w w') (hB : w.heap.size ≤ B') : Own w' B T v xs :=
  h.keepBlock fun g hg => hb.block g (by have := (World.ownsRow.lt h g hg).2; omega)
theorem Own.kept {row : Option Nat} (h : Own w B T v xs) (hg : w.grownBy w' row) (hne : v.ownBlock = none ∨ v.ownBlock ≠ row) : Own w' B T v xs := World.ownsRow.kept h hg hne
theorem Own.alloc (h : Own w B T v xs) (o : Obj) : Own (w.alloc o) B T v xs := World.ownsRow.alloc h o
theorem Own.drew (h : Own w B T v xs) : Own w.drew B T v xs := h
theorem Own.mono (h : Own w B T v xs) {B' : Nat} (hB : B' ≤ B) : Own w B' T v xs := by
  refine ⟨h.1, ?_⟩
  rcases h.2 with hn | ⟨g, cap, cur, rfl, hb, rest⟩
  · exact .inl hn
  · exact .inr ⟨g, cap, cur, rfl, by omega, rest⟩
theorem Own.far (h : Own w B T v xs) {p : Addr} (hp : v.ownBlock ≠ some p.block) (u : Value) : Own (w.setCell p u) B T v xs :=
  h.keepBlock fun g hg => Below.heap_setCell w p u g (fun e => hp (by rw [hg, e]))
theorem Own.lt (h : Own w B T v xs) : ∀ g, v.ownBlock = some g → B ≤ g ∧ g < w.heap.size := World.ownsRow.lt h
end

/-- Block g is just these cells, none frozen. -/
def Blk (w : World) (g : Nat) (t : TypeId) (cs : Array Value) : Prop := w.heap[g]? = some (.cells cs t (0, 0))

section
variable {w w' : World} {g : Nat} {t : TypeId} {cs : Array Value}
theorem Blk.lt (h : Blk w g t cs) : g < w.heap.size := by
  rcases Nat.lt_or_ge g w.heap.size with hlt | hge
  · exact hlt
  · unfold Blk at h; rw [Array.getElem?_eq_none hge] at h; cases h
theorem Blk.cell (h : Blk w g t cs) (i : Nat) : w.cell? ⟨g, i, none⟩ = cs[i]? := cell_of_row w g i cs t (0, 0) h
theorem Blk.frozen (h : Blk w g t cs) (i : Nat) : w.frozen? ⟨g, i, none⟩ = false := by
  unfold Blk at h
  simp [World.frozen?, h]
theorem Blk.new (w : World) (t : TypeId) (cs : Array Value) : Blk (w.alloc (.cells cs t)) w.heap.size t cs := heap_alloc_new w _
theorem Blk.drewN (h : Blk w g t cs) (n : Nat) : Blk (w.drewN n) g t cs := h
theorem Blk.alloc (h : Blk w g t cs) (o : Obj) : Blk (w.alloc o) g t cs := (Below.heap_alloc w o g h.lt).trans h
theorem Blk.set_ (h : Blk w g t cs) (i : Nat) (u : Value) : Blk (w.setCell ⟨g, i, none⟩ u) g t (cs.setIfInBounds i u) := by
  unfold Blk at h ⊢
  simp [World.setCell, Array.getElem?_modify, h]
theorem Blk.far (h : Blk w g t cs) {p : Addr} (hp : g ≠ p.block) (u : Value) : Blk (w.setCell p u) g t cs := (Below.heap_setCell w p u g hp).trans h
theorem Blk.below {B : Nat} (h : Blk w g t cs) (hb : Below B w w') (hg : g < B) : Blk w' g t cs := (hb.block g hg).trans h
theorem Blk.grown {row : Option Nat} (h : Blk w g t cs) (hb : w.grownBy w' row) (hg : some g ≠ row) : Blk w' g t cs := (hb.block g h.lt hg).trans h
theorem Blk.own {B cap n : Nat} (h : Blk w g t cs) (hB : B ≤ g) (hn : n ≤ cap) (hm : cap ≤ maxLen) (hs : cs.size = cap) : Own w B t (.slice (some ⟨g, 0, none⟩) n cap) (cs.toList.take n) := by
  have hl : (cs.toList.take n).length = n := by simp; omega
  refine ⟨by omega, .inr ⟨g, cap, cs, by rw [hl], hB, h, by omega, hm, by omega, by rw [hl]; simp⟩⟩
theorem below_drewN {B : Nat} {a w : World} (h : Below B a w) (n : Nat) : Below B a (w.drewN n) := ⟨h.os, h.tape, h.output, h.size, h.block⟩
end
/-- Nothing that was there has turned. -/
def Ext (w w' : World) : Prop := Below w.heap.size w w'
theorem Ext.refl (w : World) : Ext w w := Below.refl _ _
theorem Ext.trans {a b c : World} (h : Ext a b) (k : Ext b c) : Ext a c := Below.trans h (Below.mono k h.size)
theorem Ext.alloc {a w : World} (h : Ext a w) (o : Obj) : Ext a (w.alloc o) := Below.alloc h h.size o
theorem Ext.drewN {a w : World} (h : Ext a w) (n : Nat) : Ext a (w.drewN n) := below_drewN h n
theorem Ext.new {a w : World} (h : Ext a w) {p : Addr} (hp : a.heap.size ≤ p.block) (u : Value) : Ext a (w.setCell p u) := Below.setCell h hp u
theorem Ext.below {a w : World} (h : Ext a w) : Below a.heap.size a w := h
theorem Ext.le {a w : World} (h : Ext a w) : a.heap.size ≤ w.heap.size := h.size
section
variable {w w' : World} {A : Option Addr} {B : Nat} {T : TypeId} {v : Value} {xs : List Value}
theorem Rd.ext (h : Rd w A xs) (e : Ext w w') : Rd w' A xs := h.below e
theorem Own.ext (h : Own w B T v xs) (e : Ext w w') : Own w' B T v xs := h.below e (Nat.le_refl _)
theorem Own.len {A : Option Addr} {n cap : Nat} (h : Own w B T (.slice A n cap) xs) : n = xs.length := by
  rcases h.form with ⟨hv, hn⟩ | ⟨g, c, hv, _⟩
  · subst hn; injection hv
  · injection hv
theorem Own.rd {A : Option Addr} {n cap : Nat} (h : Own w B T (.slice A n cap) xs) : Rd w A xs := by
  obtain ⟨A', c', hv, hr, _⟩ := h.slice
  injection hv with hA
  subst hA
  exact hr
theorem Own.blk {g n cap : Nat} (h : Own w B T (.slice (some ⟨g, 0, none⟩) n cap) xs) : B ≤ g ∧ ∃ cs, Blk w g T cs ∧ cs.size = cap ∧ n = xs.length ∧ xs.length ≤ cap ∧ cap ≤ maxLen ∧ cs.toList.take xs.length = xs := by
  rcases h.2 with ⟨hv, _⟩ | ⟨g', c', cur, hv, hb, hh, hn, hm, hs, ht⟩
  · cases hv
  · injection hv with h1 h2 h3
    injection h1 with h1
    injection h1 with h1
    subst h1; subst h3
    exact ⟨hb, cur, hh, by omega, h2, hn, hm, by rw [Nat.mul_one] at ht; exact ht⟩
theorem Own.frozen {g n cap : Nat} (h : Own w B T (.slice (some ⟨g, 0, none⟩) n cap) xs) (j : Nat) : w.frozen? ⟨g, j, none⟩ = false := by
  obtain ⟨_, cs, hb, _⟩ := h.blk
  exact hb.frozen j
theorem Own.cell {g n cap : Nat} (h : Own w B T (.slice (some ⟨g, 0, none⟩) n cap) xs) {j : Nat} {u : Value} (hu : xs[j]? = some u) : w.cell? ⟨g, j, none⟩ = some u := by
  obtain ⟨ad, e, hc⟩ := h.rd.at_ hu
  injection e with e
  subst e
  rwa [add_plain] at hc
theorem Own.set {g n cap : Nat} (h : Own w B T (.slice (some ⟨g, 0, none⟩) n cap) xs) (j : Nat) (u : Value) :
    Own (w.setCell ⟨g, j, none⟩ u) B T (.slice (some ⟨g, 0, none⟩) n cap) (xs.set j u) := by
  obtain ⟨hB, cs, hb, hs, hn, hle, hm, ht⟩ := h.blk
  have h1 := (hb.set_ j u).own (B := B) (n := n) hB (by omega) hm (by simpa using hs)
  have e : (cs.setIfInBounds j u).toList.take n = xs.set j u := by
    rw [hn, Array.toList_setIfInBounds, List.take_set, ht]
  rw [e] at h1
  exact h1
/-- A slice of the call's own whose block is known. -/
theorem Own.some_ (h : Own w B T v xs) (hx : xs ≠ []) : ∃ g cap, v = .slice (some ⟨g, 0, none⟩) xs.length cap ∧ B ≤ g ∧ g < w.heap.size ∧ xs.length ≤ cap ∧ cap ≤ maxLen := by
  rcases h.form with ⟨_, hn⟩ | h
  · exact absurd hn hx
  · exact h
end
theorem take_snoc' {α : Type} (l : List α) (k : Nat) (h : k < l.length) : l.take (k + 1) = l.take k ++ [l[k]] := by
  rw [List.take_succ_eq_append_getElem h]
theorem set_take {cs : Array Value} {L : List Value} {k : Nat} (u : Value) (hk : k < cs.size) (h : cs.toList.take k = L) : (cs.setIfInBounds k u).toList.take (k + 1) = L ++ [u] := by
  rw [Array.toList_setIfInBounds, List.take_succ_eq_append_getElem (by simpa using hk), List.take_set, h, List.getElem_set_self]
  congr 1
  rw [← h]
  exact List.set_eq_of_length_le (by simp; omega)
/-- A new row of n zeros. -/
def zrow (z : Value) (n : Nat) : Array Value := madeCells #[z] n
theorem zrow_size (z : Value) (n : Nat) : (zrow z n).size = n := size_madeCells _ _
theorem zrow_get (z : Value) (n j : Nat) (h : j < n) : (zrow z n)[j]? = some z := by
  have hs : j < (zrow z n).size := by rw [zrow_size]; exact h
  rw [Array.getElem?_eq_getElem hs]
  congr 1
  simp only [zrow, madeCells, Array.getElem_map, Array.size, List.length_cons, List.length_nil, Nat.zero_add, Nat.mod_one]
  rfl
theorem zrow_list (z : Value) (n : Nat) : (zrow z n).toList = List.replicate n z := by
  apply List.ext_getElem?
  intro j
  rw [Array.getElem?_toList]
  by_cases h : j < n
  · rw [zrow_get z n j h, List.getElem?_replicate, if_pos h]
  · rw [Array.getElem?_eq_none (by rw [zrow_size]; omega), List.getElem?_eq_none (by simp; omega)]
theorem run_make_z {P : Program} (t e : TypeId) (i : TypeInfo) (z : Value) (ht : P.underlying t = some (.slice e)) (hi : P.info? e = some i) (hz : i.zero = some z) (hs : i.size = 1) (hzc : z.cells = #[z])
    (bytes : Nat) (hby : i.bytes = bytes) (kl kc : IntKind) (n : Nat) (hb : bytes * n ≤ 281474976710656) (h63 : n ≤ 9223372036854775807) (w : World) :
    (Instr.makeSlice t (.int kl (n : Int)) (.int kc (n : Int))).run P w = .ok (.slice (some ⟨w.heap.size, 0, none⟩) n n) (w.alloc (.cells (zrow z n) e)) := by
  have hb' : (i.bytes : Int) * (n : Int) ≤ 281474976710656 := by
    have h : ((i.bytes * n : Nat) : Int) ≤ 281474976710656 := by rw [hby]; omega
    rwa [Int.natCast_mul] at h
  have hr := run_make (P := P) w t e i z ht hi hz kl kc n n (by omega) (by omega) hb' (by omega)
  simp only [Int.toNat_natCast, hs, Nat.mul_one, hzc] at hr
  exact hr
end Go.Proofs.Ytdoeelfcihdmbaa
/-
  append and make, of elements of one cell: what they do to a row of the call's own, and to nothing else.
-/
namespace Go.Proofs.Ytdoeelfcihdmbaa
open Go.RowKit Gf

/-- What a slice type's elements are: of one cell, with this zero, of so many bytes. -/
structure Elt (P : Program) (t e : TypeId) (z : Value) (bytes : Nat) : Prop where
  ty : P.underlying t = some (.slice e)
  info : ∃ i, P.info? e = some i ∧ i.zero = some z ∧ i.size = 1 ∧ i.bytes = bytes
  cells : z.cells = #[z]
  pos : 1 ≤ bytes

/-- Behind an append: the row lies where it lay, and that block alone may have been written; or it lies in the new block, and nothing has been written. -/
def Moved (w w' : World) (v v' : Value) : Prop := (v'.ownBlock = v.ownBlock ∧ w.grownBy w' v.ownBlock) ∨ (v'.ownBlock = some w.heap.size ∧ w.grownBy w' none)
theorem grownBy_weak {w w' : World} {row : Option Nat} (h : w.grownBy w' none) : w.grownBy w' row := ⟨h.os, h.tape, h.output, h.size, fun k hk _ => h.block k hk (by simp)⟩
theorem Moved.grown {w w' : World} {v v' : Value} (h : Moved w w' v v') : w.grownBy w' v.ownBlock := by
  rcases h with ⟨_, h⟩ | ⟨_, h⟩
  · exact h
  · exact grownBy_weak h
theorem Moved.below {w w' : World} {v v' : Value} {B : Nat} (h : Moved w w' v v') (hB : B ≤ w.heap.size) (hv : ∀ g, v.ownBlock = some g → B ≤ g) : Below B w w' :=
  (Below.refl _ _).grown h.grown hB hv
section
variable {P : Program} (w : World)
theorem run_append_nil_src (t ty e : TypeId) (i : TypeInfo) (ht : P.underlying t = some (.slice e)) (hi : P.info? e = some i)
    (B : Nat) (v : Value) (xs : List Value) (hown : Own w B e v xs) (c : Nat) : (Builtin.append_ #[t, t] ty #[v, .slice none 0 c]).run P w = .ok v w := by
  rcases hown.2 with ⟨rfl, hn⟩ | ⟨g, cap, cur, rfl, _, _, hnc, _⟩
  · simp [Builtin.append_, run_underlying ht, sizeOf, typeInfo, hi, Builtin.lenOf, Builtin.firstCells]
  · simp [Builtin.append_, run_underlying ht, sizeOf, typeInfo, hi, Builtin.lenOf, Builtin.firstCells, hnc, storeCells]

theorem run_app {t e : TypeId} {z : Value} {bytes : Nat} (E : Elt P t e z bytes) (ty : TypeId) (B : Nat) (v : Value) (xs : List Value) (hown : Own w B e v xs)
    (A : Option Addr) (m c : Nat) (news : List Value) (hr : Rd w A news) (hm : news.length = m) (h1 : ∀ u ∈ news, u.oneCell' = true)
    (hbytes : (xs.length + m) * bytes ≤ 140737488355328) (hB : B ≤ w.heap.size) :
    ∃ v' w', (Builtin.append_ #[t, t] ty #[v, .slice A m c]).run P w = .ok v' w' ∧ Own w' B e v' (xs ++ news) ∧ Moved w w' v v' := by
  obtain ⟨i, hi, hz, hsz, hby⟩ := E.info
  have hzs : z.cells.size = i.size := by rw [E.cells, hsz]; rfl
  have hle : xs.length + m ≤ 140737488355328 := Nat.le_trans (Nat.le_mul_of_pos_right _ E.pos) hbytes
  have hl : news.length = m * i.size := by rw [hsz, Nat.mul_one, hm]
  have hbytes' : (xs.length + m) * i.bytes ≤ 140737488355328 := by rw [hby]; exact hbytes
  rcases A with _ | ad
  · have hm0 : m = 0 := by
      rcases Nat.eq_zero_or_pos m with h0 | h0
      · exact h0
      · obtain ⟨ad, h, _⟩ := hr (by omega)
        cases h
    subst hm0
    obtain rfl : news = [] := List.eq_nil_of_length_eq_zero hm
    exact ⟨v, w, run_append_nil_src w t ty e i E.ty hi B v xs hown c, by simpa using hown, .inl ⟨rfl, World.grownBy.refl _ _⟩⟩
  have hnews : ∀ j u, news[j]? = some u → w.cell? (ad.add j) = some u := by
    intro j u hu
    obtain ⟨ad', h, hc⟩ := hr (by have := (List.getElem?_eq_some_iff.1 hu).1; omega)
    injection h with h
    subst h
    exact hc j u hu
  have grown : ∀ (old : Nat), old < xs.length + m →
      Own (w.drew.alloc (.cells (xs.toArray ++ news.toArray ++ Builtin.zeroCells z.cells (grownCap w (xs.length + m) old e - (xs.length + m))) e)) B e
        (.slice (some ⟨w.heap.size, 0, none⟩) (xs.length + m) (grownCap w (xs.length + m) old e)) (xs ++ news) ∧
      w.grownBy (w.drew.alloc (.cells (xs.toArray ++ news.toArray ++ Builtin.zeroCells z.cells (grownCap w (xs.length + m) old e - (xs.length + m))) e)) none := by
    intro old ho
    have hge := grownCap_ge w (xs.length + m) old e
    have hcm : grownCap w (xs.length + m) old e ≤ maxLen := grownCap_le_maxLen w (xs.length + m) old e (by simp only [maxLen]; omega)
    have hxl : (xs ++ news).length = xs.length + m := by rw [List.length_append, hm]
    refine ⟨⟨by omega, .inr ⟨w.heap.size, _, _, by rw [hxl], hB, heap_alloc_new w.drew _, by omega, hcm, ?_, ?_⟩⟩, ⟨rfl, rfl, rfl, by simp, fun k hk _ => Below.heap_alloc w.drew _ k hk⟩⟩
    · simp only [Array.size_append, List.size_toArray, size_zeroCells, hzs, hsz, hm]
      omega
    · simp only [Array.toList_append, List.append_assoc, Nat.mul_one]
      rw [← List.append_assoc]
      exact List.take_left
  rcases hown.2 with ⟨rfl, hn⟩ | ⟨g, cap, cur, rfl, hbg, hg, hnc, hcm, hcs, htake⟩
  · obtain rfl : xs = [] := List.eq_nil_of_length_eq_zero hn
    simp only [List.length_nil, Nat.zero_add] at hle hbytes' grown
    by_cases hm0 : m = 0
    · subst hm0
      obtain rfl : news = [] := List.eq_nil_of_length_eq_zero hm
      refine ⟨.slice none 0 0, w, ?_, Own.nil _ _ _, .inl ⟨rfl, World.grownBy.refl _ _⟩⟩
      simp [Builtin.append_, run_underlying E.ty, sizeOf, typeInfo, hi, Builtin.lenOf, Builtin.firstCells, loadCells, loadCellsFrom]
    · have hr' := run_append_nil (P := P) w t ty e i z E.ty hi hz ad m c news hl hnews (by omega) (by omega) (by omega)
      have hgr := grown 0 (by omega)
      simp only [List.nil_append, Array.empty_append] at hgr ⊢
      exact ⟨_, _, hr', hgr.1, .inr ⟨rfl, hgr.2⟩⟩
  · by_cases hroom : xs.length + m ≤ cap
    · have hfit : xs.length * i.size + news.length ≤ cur.size := by rw [hsz, hcs, hm]; omega
      have hr' := run_append_room (P := P) w t ty e i E.ty hi g xs.length cap cur hg ad m c news hl hnews h1 hroom hfit
      refine ⟨_, _, hr', ⟨by omega, .inr ⟨g, cap, _, by rw [List.length_append, hm], hbg, setRow_heap w g cur _ e _ hg, by rw [List.length_append, hm]; exact hroom, hcm, ?_, ?_⟩⟩, .inl ⟨rfl, rfl, rfl, rfl, by simp, fun k _ hk => setRow_other w g k _ (fun e => hk (by simp [Value.ownBlock, e]))⟩⟩
      · simp only [List.size_toArray, List.length_append, List.length_take, List.length_drop, Array.length_toList]
        rw [hsz] at hfit ⊢
        omega
      · rw [hsz, htake, Nat.mul_one]
        simp only [List.length_append]
        rw [← List.length_append]
        exact List.take_left
    · have holds : ∀ j u, xs[j]? = some u → w.cell? ((⟨g, 0, none⟩ : Addr).add j) = some u := World.ownsRow.cells hown (g := g) rfl
      have hr' := run_append_grow (P := P) w t ty e i z E.ty hi hz ⟨g, 0, none⟩ xs.length cap xs (by rw [hsz]; omega) holds ad m c news hl hnews (by omega) (by omega) (growslice_fits (by omega) hbytes')
      have hgr := grown cap (by omega)
      exact ⟨_, _, hr', hgr.1, .inr ⟨rfl, hgr.2⟩⟩

theorem wp_app {t e : TypeId} {z : Value} {bytes : Nat} (E : Elt P t e z bytes) {o : Oper} {a : Act} {K : Act → World → Prop} {Q : Exit → Act → World → Prop} (s x : Operand)
    (ho : o.op = .call { callee := .builtin .append, args := #[s, x], argTypes := #[t, t] })
    (B : Nat) (v : Value) (xs : List Value) (hs : a.eval s = v) (hown : Own w B e v xs)
    (A : Option Addr) (m c : Nat) (news : List Value) (hx : a.eval x = .slice A m c) (hr : Rd w A news) (hm : news.length = m) (h1 : ∀ u ∈ news, u.oneCell' = true)
    (hbytes : (xs.length + m) * bytes ≤ 140737488355328) (hB : B ≤ w.heap.size)
    (h : ∀ v' w', Own w' B e v' (xs ++ news) → Moved w w' v v' → K (a.put o.dst v') w') : o.wp P a w K Q := by
  obtain ⟨v', w', hrun, h2, h3⟩ := run_app (P := P) w E o.type B v xs hown A m c news hr hm h1 hbytes hB
  unfold Oper.wp execOp
  simp only [ho, resolve, invoke, builtin, Sem.run_bind, Sem.run_pure, Result.andThen_ok, List.map_toArray, List.map_cons, List.map_nil, hs, hx, hrun]
  exact h v' w' h2 h3
theorem wpList_app {t e : TypeId} {z : Value} {bytes : Nat} (E : Elt P t e z bytes) {ops : Array Oper} {rest : List Oper} {o : Oper} {a : Act} {Q : Exit → Act → World → Prop} (hgd : o.guard = none) (s x : Operand)
    (ho : o.op = .call { callee := .builtin .append, args := #[s, x], argTypes := #[t, t] })
    (B : Nat) (v : Value) (xs : List Value) (hs : a.eval s = v) (hown : Own w B e v xs)
    (A : Option Addr) (m c : Nat) (news : List Value) (hx : a.eval x = .slice A m c) (hr : Rd w A news) (hm : news.length = m) (h1 : ∀ u ∈ news, u.oneCell' = true)
    (hbytes : (xs.length + m) * bytes ≤ 140737488355328) (hB : B ≤ w.heap.size)
    (h : ∀ v' w', Own w' B e v' (xs ++ news) → Moved w w' v v' → wpList P ops Q rest (a.put o.dst v') w') : wpList P ops Q (o :: rest) a w :=
  wpList_plain hgd fun _ hK => wp_app w E s x ho B v xs hs hown A m c news hx hr hm h1 hbytes hB fun v' w' h2 h3 => hK _ _ (h v' w' h2 h3)
/-- One element, out of the block that was just made for it. -/
theorem rd_new (u : Value) (T : TypeId) : Rd (w.alloc (.cells #[u] T)) (some ⟨w.heap.size, 0, none⟩) [u] := fun _ => ⟨_, rfl, cell_one_new w u T⟩
theorem run_make_elt {t e : TypeId} {z : Value} {bytes : Nat} (E : Elt P t e z bytes) (kl kc : IntKind) (n : Nat) (hb : bytes * n ≤ 281474976710656) (w : World) :
    (Instr.makeSlice t (.int kl (n : Int)) (.int kc (n : Int))).run P w = .ok (.slice (some ⟨w.heap.size, 0, none⟩) n n) (w.alloc (.cells (zrow z n) e)) := by
  obtain ⟨i, hi, hz, hs, hby⟩ := E.info
  have : n ≤ bytes * n := Nat.le_mul_of_pos_left _ E.pos
  exact run_make_z t e i z E.ty hi hz hs E.cells bytes hby kl kc n hb (by omega) w

end
end Go.Proofs.Ytdoeelfcihdmbaa
/-
  The row's last step where of the world behind the call 'Below' alone is known. (The guide's own small lemma.)
-/
namespace Go.Proofs.Ytdoeelfcihdmbaa
open Go.RowKit Go.WideShapes Go.ChangeShapes
section
variable {H : Type} {enc : TypeId × Value → H} {P : Program}
end
end Go.Proofs.Ytdoeelfcihdmbaa
/-
  The arguments of a law opened: bytes that came in, and how large they can be.
-/
namespace Go.Proofs.Ytdoeelfcihdmbaa
open Go.ChangeShapes Go.WideShapes Go.ChangeAt Go.RowKit Gf

section
variable {H : Type} {enc : TypeId × Value → H} {P : Program} {w : World}
theorem lits_length (k : IntKind) (l : List Int) : (lits (H := H) k l).length = l.length := by simp [lits]
end
end Go.Proofs.Ytdoeelfcihdmbaa
/-
  Polynomials over the field of 256, plain: as series of coefficients; a list of coefficients is read as one.
-/
namespace Go.Proofs.Ytdoeelfcihdmbaa.Gf

abbrev S := Nat → E
namespace S
def tail (f : S) : S := fun i => f (i + 1)
def sh (f : S) : S := fun i => match i with | 0 => 0 | i + 1 => f i
def zero : S := fun _ => 0
def one : S := fun i => match i with | 0 => 1 | _ + 1 => 0
def add (f g : S) : S := fun i => f i + g i
def smul (c : E) (f : S) : S := fun i => c * f i
def conv : Nat → S → S → E
  | 0, f, g => f 0 * g 0
  | n + 1, f, g => f 0 * g (n + 1) + conv n (tail f) g
def mul (f g : S) : S := fun n => conv n f g

theorem add_comm (f g : S) : add f g = add g f := funext fun _ => E.add_comm _ _
theorem add_assoc (f g h : S) : add (add f g) h = add f (add g h) := funext fun _ => E.add_assoc _ _ _
theorem add_left_comm (f g h : S) : add f (add g h) = add g (add f h) := funext fun _ => E.add_left_comm _ _ _
theorem add_zero (f : S) : add f zero = f := funext fun _ => E.add_zero _
theorem zero_add (f : S) : add zero f = f := funext fun _ => E.zero_add _
theorem add_self (f : S) : add f f = zero := funext fun _ => E.add_self _
theorem add_eq_zero {f g : S} (h : add f g = zero) : f = g := funext fun i => E.add_eq_zero.1 (congrFun h i)
theorem zero_smul (f : S) : smul 0 f = zero := funext fun _ => E.zero_mul _
theorem smul_zero (c : E) : smul c zero = zero := funext fun _ => E.mul_zero _
theorem sh_zero : sh zero = zero := funext fun i => by cases i <;> rfl
theorem conv_add_left (f f' g : S) (n : Nat) : conv n (add f f') g = conv n f g + conv n f' g := by
  induction n generalizing f f' with
  | zero => exact E.add_mul _ _ _
  | succ n ih =>
    show (f 0 + f' 0) * g (n + 1) + conv n (add (tail f) (tail f')) g = _
    rw [ih, E.add_mul]
    simp only [conv, E.add_assoc, E.add_left_comm]
theorem conv_add_right (f g g' : S) (n : Nat) : conv n f (add g g') = conv n f g + conv n f g' := by
  induction n generalizing f with
  | zero => exact E.mul_add _ _ _
  | succ n ih =>
    show f 0 * (g (n + 1) + g' (n + 1)) + conv n (tail f) (add g g') = _
    rw [ih, E.mul_add]
    simp only [conv, E.add_assoc, E.add_left_comm]
theorem conv_smul_left (c : E) (f g : S) (n : Nat) : conv n (smul c f) g = c * conv n f g := by
  induction n generalizing f with
  | zero => exact E.mul_assoc _ _ _
  | succ n ih =>
    show c * f 0 * g (n + 1) + conv n (smul c (tail f)) g = _
    rw [ih, E.mul_assoc, ← E.mul_add]; rfl
theorem conv_last (f g : S) (n : Nat) : conv (n + 1) f g = f (n + 1) * g 0 + conv n f (tail g) := by
  induction n generalizing f with
  | zero => exact E.add_comm _ _
  | succ n ih =>
    show f 0 * g (n + 2) + conv (n + 1) (tail f) g = _
    rw [ih, E.add_left_comm]; rfl
theorem conv_comm (f g : S) (n : Nat) : conv n f g = conv n g f := by
  induction n generalizing f with
  | zero => exact E.mul_comm _ _
  | succ n ih =>
    rw [conv_last g f, E.mul_comm, ← ih]; rfl
theorem tail_mul (f g : S) : tail (mul f g) = add (smul (f 0) (tail g)) (mul (tail f) g) := rfl
theorem conv_assoc (f g h : S) (n : Nat) : conv n (mul f g) h = conv n f (mul g h) := by
  induction n generalizing f with
  | zero => exact E.mul_assoc _ _ _
  | succ n ih =>
    show (f 0 * g 0) * h (n + 1) + conv n (tail (mul f g)) h = f 0 * (g 0 * h (n + 1) + conv n (tail g) h) + conv n (tail f) (mul g h)
    rw [tail_mul, conv_add_left, conv_smul_left, ih, E.mul_add, E.mul_assoc, E.add_assoc]
theorem mul_comm (f g : S) : mul f g = mul g f := funext fun n => conv_comm f g n
theorem mul_assoc (f g h : S) : mul (mul f g) h = mul f (mul g h) := funext fun n => conv_assoc f g h n
theorem add_mul (f g h : S) : mul (add f g) h = add (mul f h) (mul g h) := funext fun n => conv_add_left f g h n
theorem mul_add (f g h : S) : mul f (add g h) = add (mul f g) (mul f h) := funext fun n => conv_add_right f g h n
theorem smul_mul (c : E) (f g : S) : mul (smul c f) g = smul c (mul f g) := funext fun n => conv_smul_left c f g n
theorem mul_left_comm (f g h : S) : mul f (mul g h) = mul g (mul f h) := by rw [← mul_assoc, mul_comm f g, mul_assoc]
theorem conv_zero (g : S) (n : Nat) : conv n zero g = 0 := by
  induction n with
  | zero => exact E.zero_mul _
  | succ n ih =>
    show 0 * g (n + 1) + conv n zero g = 0
    rw [ih, E.zero_mul, E.add_zero]
theorem zero_mul (g : S) : mul zero g = zero := funext fun n => conv_zero g n
theorem mul_zero (g : S) : mul g zero = zero := by rw [mul_comm, zero_mul]
theorem conv_one (g : S) (n : Nat) : conv n one g = g n := by
  cases n with
  | zero => exact E.one_mul _
  | succ n =>
    show 1 * g (n + 1) + conv n zero g = g (n + 1)
    rw [conv_zero, E.one_mul, E.add_zero]
theorem one_mul (g : S) : mul one g = g := funext fun n => conv_one g n
theorem mul_one (g : S) : mul g one = g := by rw [mul_comm, one_mul]
theorem sh_mul (f g : S) : mul (sh f) g = sh (mul f g) := funext fun n => by
  cases n with
  | zero => exact E.zero_mul _
  | succ n =>
    show 0 * g (n + 1) + conv n f g = conv n f g
    rw [E.zero_mul, E.zero_add]
/-- c times x to the n. -/
def mono (c : E) (n : Nat) : S := fun i => if i = n then c else 0
/-! degrees -/
def Dlt (f : S) (n : Nat) : Prop := ∀ i, n ≤ i → f i = 0
theorem Dlt.mono {f : S} {n m : Nat} (h : Dlt f n) (hm : n ≤ m) : Dlt f m := fun i hi => h i (Nat.le_trans hm hi)
theorem Dlt.add {f g : S} {n : Nat} (h : Dlt f n) (k : Dlt g n) : Dlt (add f g) n := fun i hi => by simp [S.add, h i hi, k i hi, E.add_zero]
theorem Dlt.smul {f : S} {n : Nat} (h : Dlt f n) (c : E) : Dlt (smul c f) n := fun i hi => by simp [S.smul, h i hi, E.mul_zero]
theorem Dlt.tail {f : S} {n : Nat} (h : Dlt f (n + 1)) : Dlt (tail f) n := fun i hi => h (i + 1) (by omega)
theorem Dlt.zero {f : S} (h : Dlt f 0) : f = zero := funext fun i => h i (Nat.zero_le _)
theorem dlt_zero (n : Nat) : Dlt zero n := fun _ _ => rfl
theorem split (f : S) : f = S.add (S.smul (f 0) one) (sh (S.tail f)) := funext fun i => by
  cases i with
  | zero => show f 0 = f 0 * 1 + 0; rw [E.mul_one, E.add_zero]
  | succ i => show f (i + 1) = f 0 * 0 + f (i + 1); rw [E.mul_zero, E.zero_add]
theorem mul_split (f g : S) : mul f g = S.add (S.smul (f 0) g) (sh (mul (S.tail f) g)) := by
  conv => lhs; rw [split f]
  rw [add_mul, smul_mul, one_mul, sh_mul]
theorem Dlt.mulN {f g : S} {m n : Nat} (hf : Dlt f m) (hg : Dlt g (n + 1)) : Dlt (mul f g) (m + n) := by
  induction m generalizing f with
  | zero =>
    rw [hf.zero, zero_mul]
    exact dlt_zero _
  | succ m ih =>
    intro i hi
    rw [mul_split]
    cases i with
    | zero => omega
    | succ i =>
      show f 0 * g (i + 1) + mul (S.tail f) g i = 0
      rw [hg _ (by omega), ih hf.tail i (by omega), E.mul_zero, E.add_zero]
theorem Dlt.mul {f g : S} {m n : Nat} (hf : Dlt f m) (hg : Dlt g n) : Dlt (mul f g) (m + n) := (hf.mulN (hg.mono (Nat.le_succ n)))
theorem lead_mul {f g : S} {m n : Nat} (hf : Dlt f (m + 1)) (hg : Dlt g (n + 1)) : mul f g (m + n) = f m * g n := by
  induction m generalizing f with
  | zero =>
    have : S.tail f = zero := hf.tail.zero
    rw [mul_split, this, zero_mul, sh_zero, S.add_zero, Nat.zero_add]; rfl
  | succ m ih =>
    rw [mul_split]
    show f 0 * g (m + 1 + n) + sh (mul (S.tail f) g) (m + 1 + n) = _
    rw [hg _ (by omega), show m + 1 + n = (m + n) + 1 by omega]
    show f 0 * 0 + mul (S.tail f) g (m + n) = _
    rw [ih hf.tail, E.mul_zero, E.zero_add]; rfl
/-- What is not zero has a degree. -/
theorem has_deg {f : S} {n : Nat} (h : Dlt f n) (hf : f ≠ zero) : ∃ d, d < n ∧ f d ≠ 0 ∧ Dlt f (d + 1) := by
  induction n with
  | zero => exact absurd h.zero hf
  | succ n ih =>
    by_cases hn : f n = 0
    · have h' : Dlt f n := fun i hi => by
        rcases Nat.eq_or_lt_of_le hi with e | e
        · rw [← e]; exact hn
        · exact h i e
      obtain ⟨d, hd, h1, h2⟩ := ih h'
      exact ⟨d, by omega, h1, h2⟩
    · exact ⟨n, by omega, hn, h⟩
theorem mul_eq_zero {f g : S} {m n : Nat} (hf : Dlt f m) (hg : Dlt g n) (h : mul f g = zero) : f = zero ∨ g = zero := by
  by_cases h1 : f = zero
  · exact .inl h1
  by_cases h2 : g = zero
  · exact .inr h2
  obtain ⟨d, _, hd, hd'⟩ := has_deg hf h1
  obtain ⟨e, _, he, he'⟩ := has_deg hg h2
  have := lead_mul hd' he'
  rw [h] at this
  rcases E.mul_eq_zero.1 this.symm with h | h
  · exact absurd h hd
  · exact absurd h he
/-! values -/
def ev : Nat → S → E → E
  | 0, _, _ => 0
  | n + 1, f, x => f 0 + x * ev n (tail f) x
theorem ev_zero (n : Nat) (x : E) : ev n zero x = 0 := by
  induction n with
  | zero => rfl
  | succ n ih => show 0 + x * ev n zero x = 0; rw [ih, E.mul_zero, E.add_zero]
theorem ev_dlt {f : S} {n m : Nat} (h : Dlt f n) (hm : n ≤ m) (x : E) : ev m f x = ev n f x := by
  induction n generalizing f m with
  | zero => rw [h.zero, ev_zero]; rfl
  | succ n ih =>
    obtain ⟨m, rfl⟩ : ∃ k, m = k + 1 := ⟨m - 1, by omega⟩
    show f 0 + x * ev m (tail f) x = f 0 + x * ev n (tail f) x
    rw [ih h.tail (by omega)]
theorem ev_add (n : Nat) (f g : S) (x : E) : ev n (add f g) x = ev n f x + ev n g x := by
  induction n generalizing f g with
  | zero => exact (E.add_zero _).symm
  | succ n ih =>
    show (f 0 + g 0) + x * ev n (add (tail f) (tail g)) x = _
    rw [ih, E.mul_add]
    simp only [ev, E.add_assoc, E.add_left_comm]
theorem ev_smul (n : Nat) (c : E) (f : S) (x : E) : ev n (smul c f) x = c * ev n f x := by
  induction n generalizing f with
  | zero => exact (E.mul_zero _).symm
  | succ n ih =>
    show c * f 0 + x * ev n (smul c (tail f)) x = _
    rw [ih, E.mul_left_comm, ← E.mul_add]; rfl
theorem ev_sh (n : Nat) (f : S) (x : E) : ev (n + 1) (sh f) x = x * ev n f x := by
  show 0 + x * ev n f x = _
  rw [E.zero_add]
theorem ev_mul {f g : S} {m n : Nat} (hf : Dlt f m) (hg : Dlt g n) (x : E) : ev (m + n) (mul f g) x = ev m f x * ev n g x := by
  induction m generalizing f with
  | zero => rw [hf.zero, zero_mul, ev_zero]; exact (E.zero_mul _).symm
  | succ m ih =>
    rw [show m + 1 + n = (m + n) + 1 by omega, mul_split, ev_add, ev_smul, ev_sh, ih hf.tail, ev_dlt hg (by omega)]
    show _ = (f 0 + x * ev m (tail f) x) * ev n g x
    rw [E.add_mul, E.mul_assoc]
end S
end Go.Proofs.Ytdoeelfcihdmbaa.Gf
/-
  Lists of coefficients, plain: without the zeros at the end; sums, products, values.
-/
namespace Go.Proofs.Ytdoeelfcihdmbaa.Gf
open S
def ser (l : List E) : S := fun i => l[i]?.getD 0
theorem ser_nil : ser [] = zero := rfl
theorem ser_cons_zero (a : E) (l : List E) : ser (a :: l) 0 = a := rfl
theorem ser_tail (a : E) (l : List E) : tail (ser (a :: l)) = ser l := rfl
theorem ser_at (l : List E) (i : Nat) (h : i < l.length) : ser l i = l[i] := by simp [ser, h]
theorem ser_out (l : List E) (i : Nat) (h : l.length ≤ i) : ser l i = 0 := by simp [ser, h]
theorem dlt_ser (l : List E) : Dlt (ser l) l.length := fun i hi => ser_out l i hi
theorem ser_append_left (a b : List E) (i : Nat) (h : i < a.length) : ser (a ++ b) i = ser a i := by simp [ser, List.getElem?_append_left h]
theorem ser_append_right (a b : List E) (i : Nat) (h : a.length ≤ i) : ser (a ++ b) i = ser b (i - a.length) := by simp [ser, List.getElem?_append_right h]
theorem ser_take (l : List E) (n i : Nat) : ser (l.take n) i = if i < n then ser l i else 0 := by
  simp only [ser, List.getElem?_take]
  split <;> rfl
def ofS (n : Nat) (f : S) : List E := (List.range n).map f
theorem ofS_length (n : Nat) (f : S) : (ofS n f).length = n := by simp [ofS]
theorem ser_ofS_lt (n : Nat) (f : S) (i : Nat) (h : i < n) : ser (ofS n f) i = f i := by simp [ser, ofS, h]
theorem ser_ofS {n : Nat} {f : S} (h : Dlt f n) : ser (ofS n f) = f := funext fun i => by
  by_cases hi : i < n
  · exact ser_ofS_lt n f i hi
  · rw [ser_out _ _ (by rw [ofS_length]; omega), h i (by omega)]
/-- How many coefficients there are up to the last that is not zero. -/
def dg : List E → Nat
  | [] => 0
  | a :: l => if dg l = 0 then (if a = 0 then 0 else 1) else dg l + 1
theorem dg_le : ∀ l, dg l ≤ l.length
  | [] => Nat.le_refl _
  | a :: l => by
    have := dg_le l
    simp only [dg, List.length_cons]
    split
    · split <;> omega
    · omega
theorem dg_zero : ∀ (l : List E) (i : Nat), dg l ≤ i → ser l i = 0
  | [], _, _ => rfl
  | a :: l, i, h => by
    simp only [dg] at h
    split at h
    · rename_i h0
      split at h
      · rename_i ha
        cases i with
        | zero => exact ha
        | succ i => exact dg_zero l i (by omega)
      · cases i with
        | zero => omega
        | succ i => exact dg_zero l i (by omega)
    · cases i with
      | zero => omega
      | succ i => exact dg_zero l i (by omega)
theorem dg_last : ∀ (l : List E), dg l ≠ 0 → ser l (dg l - 1) ≠ 0
  | [], h => absurd rfl h
  | a :: l, h => by
    simp only [dg] at h ⊢
    split
    · rename_i h0
      rw [if_pos h0] at h
      split
      · rename_i ha; rw [if_pos ha] at h; exact absurd rfl h
      · rename_i ha; exact ha
    · rename_i h0
      have := dg_last l h0
      rw [show dg l + 1 - 1 = (dg l - 1) + 1 by omega]
      exact this
theorem dg_dlt (l : List E) : Dlt (ser l) (dg l) := dg_zero l
theorem dg_min {l : List E} {n : Nat} (h : Dlt (ser l) n) : dg l ≤ n := by
  rcases Nat.lt_or_ge n (dg l) with h1 | h1
  · exact absurd (h (dg l - 1) (by omega)) (dg_last l (by omega))
  · exact h1
theorem dg_eq {l : List E} {n : Nat} (h : Dlt (ser l) n) (hn : n ≠ 0 → ser l (n - 1) ≠ 0) : dg l = n := by
  have h1 := dg_min h
  rcases Nat.lt_or_ge (dg l) n with h2 | h2
  · exact absurd (dg_zero l (n - 1) (by omega)) (hn (by omega))
  · omega
theorem dg_ser {a b : List E} (h : ser a = ser b) : dg a = dg b := by
  have h1 := dg_min (l := a) (n := dg b) (by rw [h]; exact dg_dlt b)
  have h2 := dg_min (l := b) (n := dg a) (by rw [← h]; exact dg_dlt a)
  omega
def trim (l : List E) : List E := l.take (dg l)
theorem trim_length (l : List E) : (trim l).length = dg l := by rw [trim, List.length_take, Nat.min_eq_left (dg_le l)]
theorem ser_trim (l : List E) : ser (trim l) = ser l := funext fun i => by
  rw [trim, ser_take]
  split
  · rfl
  · exact (dg_zero l i (by omega)).symm
theorem dg_trim (l : List E) : dg (trim l) = dg l := dg_ser (ser_trim l)
theorem trim_trim (l : List E) : trim (trim l) = trim l := by
  rw [trim, dg_trim, ← trim_length, List.take_length]
def Trimmed (l : List E) : Prop := trim l = l
theorem trimmed_trim (l : List E) : Trimmed (trim l) := trim_trim l
theorem Trimmed.dg {l : List E} (h : Trimmed l) : Gf.dg l = l.length := by
  have := trim_length l
  rw [h] at this
  exact this.symm
theorem trimmed_of {l : List E} (h : l.length ≠ 0 → ser l (l.length - 1) ≠ 0) : Trimmed l := by
  have : Gf.dg l = l.length := dg_eq (dlt_ser l) h
  rw [Trimmed, trim, this, List.take_length]
/-! the document's functions -/
def plusL (p q : List E) : List E := trim (ofS (max p.length q.length) (add (ser p) (ser q)))
def scaleL (p : List E) (c : E) : List E := trim (ofS p.length (smul c (ser p)))
def timesL (p q : List E) : List E := trim (ofS (p.length + q.length) (mul (ser p) (ser q)))
theorem ser_plusL (p q : List E) : ser (plusL p q) = add (ser p) (ser q) := by
  rw [plusL, ser_trim, ser_ofS]
  exact ((dlt_ser p).mono (by omega)).add ((dlt_ser q).mono (by omega))
theorem ser_scaleL (p : List E) (c : E) : ser (scaleL p c) = smul c (ser p) := by
  rw [scaleL, ser_trim, ser_ofS ((dlt_ser p).smul c)]
theorem ser_timesL (p q : List E) : ser (timesL p q) = mul (ser p) (ser q) := by
  rw [timesL, ser_trim, ser_ofS ((dlt_ser p).mul (dlt_ser q))]
theorem trimmed_timesL (p q : List E) : Trimmed (timesL p q) := trimmed_trim _
/-- The value. -/
def evL (l : List E) (x : E) : E := ev l.length (ser l) x
theorem evL_nil (x : E) : evL [] x = 0 := rfl
theorem evL_cons (a : E) (l : List E) (x : E) : evL (a :: l) x = a + x * evL l x := rfl
theorem evL_ser {a b : List E} (h : ser a = ser b) (x : E) : evL a x = evL b x := by
  have h1 := ev_dlt (dlt_ser a) (Nat.le_max_left a.length b.length) x
  have h2 := ev_dlt (dlt_ser b) (Nat.le_max_right a.length b.length) x
  rw [evL, evL, ← h1, ← h2, h]
theorem evL_of {l : List E} {f : S} {n : Nat} (h : ser l = f) (hf : Dlt f n) (x : E) : evL l x = ev n f x := by
  have h1 := ev_dlt (dlt_ser l) (Nat.le_max_left l.length n) x
  have h2 := ev_dlt hf (Nat.le_max_right l.length n) x
  rw [evL, ← h1, ← h2, h]
theorem evL_plus (p q : List E) (x : E) : evL (plusL p q) x = evL p x + evL q x := by
  have hp := (dlt_ser p).mono (Nat.le_max_left p.length q.length)
  have hq := (dlt_ser q).mono (Nat.le_max_right p.length q.length)
  rw [evL_of (ser_plusL p q) (hp.add hq), ev_add, evL, evL, ev_dlt (dlt_ser p) (by omega), ev_dlt (dlt_ser q) (by omega)]
theorem evL_scale (p : List E) (c x : E) : evL (scaleL p c) x = c * evL p x := by
  rw [evL_of (ser_scaleL p c) ((dlt_ser p).smul c), ev_smul]; rfl
theorem evL_times (p q : List E) (x : E) : evL (timesL p q) x = evL p x * evL q x := by
  rw [evL_of (ser_timesL p q) ((dlt_ser p).mul (dlt_ser q)), ev_mul (dlt_ser p) (dlt_ser q)]; rfl
end Go.Proofs.Ytdoeelfcihdmbaa.Gf
/-
  The walks of layer 2: degree, copy, trimming.
-/
namespace Go.Proofs.Ytdoeelfcihdmbaa
open Go.RowKit Gf
set_option maxRecDepth 20000
set_option linter.unusedVariables false

theorem infoEl : (Try.prog.info? 63).map (fun i => (i.zero, i.size, i.bytes)) = some (some (.int .u8 0), 1, 1) := by kernel_rfl
theorem eltEl : Elt Try.prog 26 63 (.int .u8 0) 1 := ⟨Try.underlying26, info_parts infoEl, rfl, by decide⟩
end Go.Proofs.Ytdoeelfcihdmbaa
/-
  The walks of layer 2: what two polynomials come to, coefficient by coefficient.
-/
namespace Go.Proofs.Ytdoeelfcihdmbaa
open Go.RowKit Gf
set_option maxRecDepth 20000
set_option linter.unusedVariables false
set_option linter.unusedSimpArgs false

end Go.Proofs.Ytdoeelfcihdmbaa
/-
  The walks of layer 2: products, the formal derivative.
-/
namespace Go.Proofs.Ytdoeelfcihdmbaa
open Go.RowKit Gf
set_option maxRecDepth 20000
set_option linter.unusedVariables false

def upd (f : S) (k : Nat) (v : E) : S := fun i => if i = k then v else f i
end Go.Proofs.Ytdoeelfcihdmbaa
/-
  slices.Backward over bytes: its closure stops, and what it hands out. (After the worked proof of slices.All.)
-/
namespace Go.Proofs.Ytdoeelfcihdmbaa
open Go.RowKit Go.Shelf Gf
set_option maxRecDepth 100000
set_option linter.unusedVariables false
attribute [local go_sem] Oper.semAt_some

abbrev Item (len : Nat) := {x : Nat × E // x.1 < len}
def plain {len : Nat} (ys : List (Item len)) : List (Nat × E) := ys.map (·.1)
end Go.Proofs.Ytdoeelfcihdmbaa
/-
  The walks of layer 2: a polynomial's value.
-/
namespace Go.Proofs.Ytdoeelfcihdmbaa
open Go.RowKit Go.Shelf Gf
set_option maxRecDepth 100000
set_option linter.unusedVariables false
attribute [local go_sem] Oper.semAt_some

end Go.Proofs.Ytdoeelfcihdmbaa
/-
  What the division's rounds come to, in plain terms.
-/
namespace Go.Proofs.Ytdoeelfcihdmbaa
open Gf

end Go.Proofs.Ytdoeelfcihdmbaa
/-
  A region that draws its order, in a round of a range over a function as well: its operations leave the world alone; the last one, that waits for all others, may store.
-/
namespace Go.Proofs.Ytdoeelfcihdmbaa
open Go

section
variable {F : Fence} {n : Nat} {P : Program} {ops : Array Oper} {md : Region.Mode} {C : World → Prop}

def noDefer (ops : Array Oper) : Bool := ops.all fun o => match o.op with | .defer _ => false | _ => true
theorem noDefer_spec (h : noDefer ops = true) {i : Nat} {o : Oper} (hi : ops[i]? = some o) : ∀ c, o.op ≠ .defer c := by
  intro c e
  have := Array.all_eq_true_iff_forall_mem.1 h o (Array.mem_of_getElem? hi)
  simp [e] at this

theorem loudOp {o : Oper} {a : Act} {K : Act → Prop} {K' : Act → World → Prop} {Q' : Exit → Act → World → Prop} {w : World} (hnd : ∀ c, o.op ≠ .defer c) (hw : C w) (h : ∀ a w', C w' → K a → K' a w')
    (ha : o.askedIn F P a C) (hh : o.quietIn F n P a C K) : o.wpIn F n P a w K' Q' := by
  obtain ⟨v, h1, h2⟩ := hh
  have h3 := h1 w hw
  refine ⟨ha w hw, ?_⟩
  rw [Oper.semAt_plain F _ _ hnd]
  unfold Oper.quietAtIn at h3
  cases hr : (execOp a.eval o).run P w with
  | halt x w' => rw [hr] at h3; exact h3.elim
  | ok x w' =>
    rw [hr] at h3
    cases x with
    | value u => obtain ⟨e1, e2⟩ := h3; rw [e1, e2]; exact h _ _ hw h2
    | skip => obtain ⟨e1, e2⟩ := h3; rw [e1, Oper.uponIn_skip, ← e2]; exact h _ _ hw h2
    | enter f args =>
      obtain ⟨e1, hd, hc⟩ := h3
      rw [e1]
      exact ⟨hd, hc.mono fun e w'' ⟨he, hw''⟩ => by subst he; exact h _ _ hw'' h2⟩
    | _ => exact h3.elim

theorem loudAt {i : Nat} {a : Act} {K : Act → Prop} {K' : Act → World → Prop} {Q' : Exit → Act → World → Prop} {w : World} (hnd : noDefer ops = true) (hC : C w) (h : ∀ a w', C w' → K a → K' a w')
    (hh : qOpIn F n P ops C i K a) : wpOpIn F n P ops Q' i K' a w := by
  unfold qOpIn at hh
  unfold wpOpIn
  cases ho : ops[i]? with
  | none => rw [ho] at hh; exact h _ _ hC hh
  | some o =>
    rw [ho] at hh
    obtain ⟨ha, hh⟩ := hh
    by_cases hw : Region.wanted o (yielded ops a.tmps) = true
    · simp only [hw, if_true] at hh ⊢
      exact loudOp (noDefer_spec hnd ho) hC h ha hh
    · simp only [hw] at hh ⊢
      exact ⟨ha w hC, h _ _ hC hh⟩

/-! ### A store at the end -/

def mute (s : Oper) : Oper := { s with op := .move (.const undef) }
def muted : List Oper → List Oper
  | [] => []
  | [s] => [mute s]
  | o :: p :: l => o :: muted (p :: l)
theorem muted_snoc (l : List Oper) (s : Oper) : muted (l ++ [s]) = l ++ [mute s] := by
  induction l with
  | nil => rfl
  | cons o l ih =>
    cases l with
    | nil => rfl
    | cons p l => exact congrArg (o :: ·) ih

/-- The last operation bears no guard, lays nothing into a temporary, waits for all others; every edge goes back. -/
def closes (l : List Oper) : Bool := match l.getLast? with
  | none => false
  | some s => s.dst.isNone && s.guard.isNone && (List.range (l.length - 1)).all (fun i => s.after.any fun e => Region.binds .any e && e.on == i) &&
      (List.range l.length).all (fun i => match l[i]? with | some o => o.after.all (fun e => decide (e.on < i)) | none => true)

variable {l : List Oper} {s : Oper}
theorem getElem_mute (i : Nat) : i ≠ l.length → (l ++ [mute s]).toArray[i]? = (l ++ [s]).toArray[i]? := by
  intro h
  simp only [List.getElem?_toArray]
  rcases Nat.lt_or_ge i l.length with h1 | h1
  · rw [List.getElem?_append_left h1, List.getElem?_append_left h1]
  · rw [List.getElem?_eq_none (by simp; omega), List.getElem?_eq_none (by simp; omega)]
theorem getElem_last (s : Oper) : (l ++ [s]).toArray[l.length]? = some s := by simp
theorem ready_mute (listed : Array Bool) : Region.ready md (l ++ [mute s]).toArray listed = Region.ready md (l ++ [s]).toArray listed := by
  unfold Region.ready
  rw [show (l ++ [mute s]).toArray.size = (l ++ [s]).toArray.size by simp]
  refine List.filter_congr fun i _ => ?_
  by_cases h : i = l.length
  · rw [h, getElem_last, getElem_last]; rfl
  · rw [getElem_mute i h]
theorem yielded_mute (t : Array Value) : yielded (l ++ [mute s]).toArray t = yielded (l ++ [s]).toArray t := by
  funext j
  unfold yielded
  by_cases h : j = l.length
  · rw [h, getElem_last, getElem_last]; rfl
  · rw [getElem_mute j h]

theorem endAny {Qa : Act → Prop} {Q : Exit → Act → World → Prop} (hnd : noDefer (l ++ [s]).toArray = true) (hd : s.dst = none) (hg : s.guard = none)
    (hall : ∀ i < l.length, ∃ e ∈ s.after, Region.binds .any e = true ∧ e.on = i) (hback : ∀ (i : Nat) (o : Oper), (l ++ [s]).toArray[i]? = some o → ∀ e ∈ o.after, e.on < i)
    (hQ : ∀ a w, C w → Qa a → s.wpIn F n P a w (fun a w => Q .normal a w) Q) : ∀ (fuel : Nat) (listed : Array Bool) (a : Act) (w : World), C w → listed.size = l.length + 1 → listed.getD l.length true = false →
    wpAnyQIn F n P .any (l ++ [mute s]).toArray C Qa fuel listed a → wpAnyIn F n P .any (l ++ [s]).toArray Q fuel listed a w := by
  have some_ready : ∀ listed : Array Bool, listed.size = l.length + 1 → listed.getD l.length true = false → Region.ready .any (l ++ [s]).toArray listed ≠ [] := by
    intro listed hz hl hr
    have key : ∀ i, i ≤ l.length → listed.getD i true = true := by
      intro i
      induction i using Nat.strongRecOn with
      | ind i ih =>
        intro hi
        by_cases hc : listed.getD i true = true
        · exact hc
        · exfalso
          have hil : i < (l ++ [s]).toArray.size := by simp; omega
          have : i ∈ Region.ready .any (l ++ [s]).toArray listed := by
            refine mem_ready.2 ⟨by simpa using hc, _, Array.getElem?_eq_getElem hil, fun e he _ => ?_⟩
            have hlt := hback i _ (Array.getElem?_eq_getElem hil) e he
            have := ih e.on hlt (by omega)
            have hb : e.on < listed.size := by omega
            simpa [Array.getD, hb] using this
          rw [hr] at this
          cases this
    rw [key _ (Nat.le_refl _)] at hl
    cases hl
  have last_ready : ∀ listed : Array Bool, listed.size = l.length + 1 → l.length ∈ Region.ready .any (l ++ [s]).toArray listed → Region.ready .any (l ++ [s]).toArray (listed.setIfInBounds l.length true) = [] := by
    intro listed hz hr
    obtain ⟨_, o, ho, hall'⟩ := mem_ready.1 hr
    rw [getElem_last] at ho
    injection ho with ho
    subst ho
    refine List.eq_nil_iff_forall_not_mem.2 fun i hi => ?_
    obtain ⟨h1, o, ho, _⟩ := mem_ready.1 hi
    have hlt : i < l.length + 1 := by have := (Array.getElem?_eq_some_iff.1 ho).1; simpa using this
    have : (listed.setIfInBounds l.length true).getD i true = true := by
      by_cases h : i = l.length
      · subst h
        simp [Array.getD, hz]
      · obtain ⟨e, he, hb, hon⟩ := hall i (by omega)
        have := hall' e he hb
        rw [hon] at this
        have hb : i < listed.size := by omega
        have hne : l.length ≠ i := fun e => h e.symm
        simp [Array.getD, hb, hne] at this ⊢
        exact this
    rw [this] at h1
    cases h1
  intro fuel
  induction fuel with
  | zero =>
    intro listed a w hw hz hl h
    exact absurd (by have := h.1; rwa [ready_mute] at this) (some_ready listed hz hl)
  | succ fuel ih =>
    intro listed a w hw hz hl h
    refine ⟨fun h0 => absurd h0 (some_ready listed hz hl), fun i hi => ?_⟩
    have hq := h.2 i (by rw [ready_mute]; exact hi)
    by_cases him : i = l.length
    · subst him
      have he := last_ready listed hz hi
      unfold qOpIn at hq
      rw [getElem_last] at hq
      unfold wpOpIn
      rw [getElem_last]
      have hwm : Region.wanted (mute s) (yielded (l ++ [mute s]).toArray a.tmps) = true := by simp [Region.wanted, mute, hg]
      have hws : Region.wanted s (yielded (l ++ [s]).toArray a.tmps) = true := by simp [Region.wanted, hg]
      simp only [hwm, hws, if_true] at hq ⊢
      obtain ⟨_, v, _, hq⟩ := hq
      have hp : a.put (mute s).dst v = a := by simp [mute, hd, Act.put]
      rw [hp] at hq
      have hqa : Qa a := by
        cases fuel with
        | zero => exact hq.2
        | succ f => exact hq.1 (by rw [ready_mute]; exact he)
      refine Oper.wpIn_mono (fun a' w' h' => ?_) (hQ a w hw hqa)
      cases fuel with
      | zero => exact ⟨he, h'⟩
      | succ f => exact ⟨fun _ => h', fun j hj => by rw [he] at hj; cases hj⟩
    · have hq' : qOpIn F n P (l ++ [s]).toArray C i (wpAnyQIn F n P .any (l ++ [mute s]).toArray C Qa fuel (listed.setIfInBounds i true)) a := by
        unfold qOpIn at hq ⊢
        rw [getElem_mute i him, yielded_mute] at hq
        exact hq
      have hne : i ≠ l.length := him
      exact loudAt hnd hw (fun a' w' hw' h' => ih _ a' w' hw' (by simpa using hz) (by
        simp [Array.getD, hz, hne] at hl ⊢
        exact hl) h') hq'

theorem quiet_snoc {ops : Array Oper} {Q : Act → Prop} {s : Oper} (hg : s.guard = none) (hd : s.dst = none) : ∀ (l : List Oper) (a : Act), wpQuietIn F n P ops C Q l a → wpQuietIn F n P ops C Q (l ++ [mute s]) a
  | [], a, h => by
    refine ⟨BigFrame.askedIn_plain (fun _ h => by simp [mute] at h), ?_⟩
    have hwm : Region.wanted (mute s) (yielded ops a.tmps) = true := by simp [Region.wanted, mute, hg]
    rw [if_pos hwm]
    refine BigFrame.quietIn_move (x := .const undef) rfl ?_
    have hp : ∀ v, a.put (mute s).dst v = a := fun v => by simp [mute, hd, Act.put]
    rw [hp]
    exact h
  | o :: l, a, h => by
    refine ⟨h.1, ?_⟩
    have h2 := h.2
    by_cases hw : Region.wanted o (yielded ops a.tmps) = true
    · simp only [hw, if_true] at h2 ⊢
      exact Oper.quietIn_mono (fun a' => quiet_snoc hg hd l a') h2
    · simp only [hw] at h2 ⊢
      exact quiet_snoc hg hd l _ h2

/-- The quiet region with a store at its end, in whatever frame. -/
theorem region_store {id : Nat} {Q : Exit → Act → World → Prop} {a : Act} {w : World} {L : List Oper} (hm : P.follows .mixedOrders = true) (hc : closes L = true) (hB : Region.lexB .any (muted L).toArray = true) (hnd : noDefer L.toArray = true)
    (h : wpQuietIn F n P (muted L).toArray (fun w' => ∃ n, w' = w.drewN n) (fun a' => ∀ w', (∃ n, w' = w.drewN n) → ∀ s, L.getLast? = some s → s.wpIn F n P a' w' (fun a w => Q .normal a w) Q) L.dropLast a) : (Code.region id L.toArray true).wpIn F n P Q a w := by
  obtain ⟨s, hs⟩ : ∃ s, L.getLast? = some s := by
    cases e : L.getLast? with
    | none => simp [closes, e] at hc
    | some s => exact ⟨s, rfl⟩
  obtain ⟨l, rfl⟩ : ∃ l, L = l ++ [s] := ⟨L.dropLast, (List.getLast?_eq_some_iff.1 hs).elim fun y hy => by rw [hy]; simp⟩
  simp only [closes, hs, Bool.and_eq_true, List.all_eq_true, List.mem_range] at hc
  obtain ⟨⟨⟨hd, hg⟩, hall⟩, hback⟩ := hc
  have hd : s.dst = none := by simpa using hd
  have hg : s.guard = none := by simpa using hg
  simp only [Region.lexB, Bool.and_eq_true] at hB
  rw [muted_snoc] at hB h
  simp only [List.dropLast_concat] at h
  refine wpIn_region_any hm (endAny (C := fun w' => ∃ n, w' = w.drewN n) (Qa := fun a' => ∀ w', (∃ n, w' = w.drewN n) → ∀ s', (l ++ [s]).getLast? = some s' → s'.wpIn F n P a' w' (fun a w => Q .normal a w) Q) hnd hd hg ?_ ?_
    (fun a w hw h => h w hw s hs) _ _ _ _ ⟨1, rfl⟩ (by simp) (by simp [Array.getD]) ?_)
  · intro i hi
    have := hall i (by simpa using hi)
    obtain ⟨e, he, hb⟩ := Array.any_eq_true'.1 this
    simp only [Bool.and_eq_true, beq_iff_eq] at hb
    exact ⟨e, he, hb.1, hb.2⟩
  · intro i o ho e he
    have hlt : i < (l ++ [s]).length := by have := (Array.getElem?_eq_some_iff.1 ho).1; simpa using this
    have := hback i hlt
    rw [List.getElem?_toArray] at ho
    rw [ho] at this
    simp only [Array.all_eq_true_iff_forall_mem, decide_eq_true_eq] at this
    exact this e he
  · have := wpAnyQIn_lex (F := F) (n := n) (C := fun w' => ∃ n, w' = w.drewN n) (md := .any) hB.1 (l ++ [mute s]) 0 (Array.replicate (l ++ [mute s]).toArray.size false) a (by simp) (by simpa using hB.2) (quiet_snoc hg hd l a h)
    simpa using this
end
end Go.Proofs.Ytdoeelfcihdmbaa
/-
  The walks of layer 2: the quotient and what is left.
-/
namespace Go.Proofs.Ytdoeelfcihdmbaa
open Go.RowKit Go.Shelf Gf
set_option maxRecDepth 100000
set_option linter.unusedVariables false
attribute [local go_sem] Oper.semAt_some

section
variable {b s4 d lr ns cr : Nat} {Q : Value} {lead : E} {R : Option Addr} {fr fs : S} {W W' : World}
end

end Go.Proofs.Ytdoeelfcihdmbaa
/-
  The walks of layer 2: the division by nothing; the product over points; the polynomial through points.
-/
namespace Go.Proofs.Ytdoeelfcihdmbaa
open Go.RowKit Gf
set_option maxRecDepth 20000
set_option linter.unusedVariables false

end Go.Proofs.Ytdoeelfcihdmbaa
/-
  The walks of the document's answer for chapter 2: product, inverse, trimming, degree, value.
-/
namespace Go.Proofs.Ytdoeelfcihdmbaa
open Go.RowKit Gf
set_option maxRecDepth 20000
set_option linter.unusedVariables false

theorem infoU8 : (Try.prog.info? 5).map (fun i => (i.zero, i.size, i.bytes)) = some (some (.int .u8 0), 1, 1) := by kernel_rfl
theorem eltU8 : Elt Try.prog 24 5 (.int .u8 0) 1 := ⟨Try.underlying24, info_parts infoU8, rfl, by decide⟩
end Go.Proofs.Ytdoeelfcihdmbaa
/-
  The walks of the laws' own helpers of chapter 2: lent, same, kept; and the roots.
-/
namespace Go.Proofs.Ytdoeelfcihdmbaa
open Go.RowKit Gf
set_option maxRecDepth 20000
set_option linter.unusedVariables false

/-- The marks behind a list that is lent. -/
def mark (i : Nat) : E := E.of (101 + i)
def marks (n : Nat) : List E := (List.range n).map mark
end Go.Proofs.Ytdoeelfcihdmbaa
/-
  The walks of the document's answer for chapter 2: sums, multiples, products, the derivative.
-/
namespace Go.Proofs.Ytdoeelfcihdmbaa
open Go.RowKit Gf
set_option maxRecDepth 20000
set_option linter.unusedVariables false

/-- A region of quiet operations with a store at its end, outside of a fence. -/
theorem region_store_plain {P : Program} {id : Nat} {Q : Exit → Act → World → Prop} {a : Act} {w : World} {L : List Oper} (hm : P.follows .mixedOrders = true) (hc : closes L = true) (hB : Region.lexB .any (muted L).toArray = true) (hnd : noDefer L.toArray = true)
    (h : wpQuietIn Fence.wide 0 P (muted L).toArray (fun w' => ∃ n, w' = w.drewN n) (fun a' => ∀ w', (∃ n, w' = w.drewN n) → ∀ s, L.getLast? = some s → s.wpIn Fence.wide 0 P a' w' (fun a w => Q .normal a w) Q) L.dropLast a) : (Code.region id L.toArray true).wp P Q a w :=
  (wpIn_wide (n := 0)).1 (region_store hm hc hB hnd h)

end Go.Proofs.Ytdoeelfcihdmbaa
/-
  The walks of the document's answer for chapter 2: the quotient and what is left.
-/
namespace Go.Proofs.Ytdoeelfcihdmbaa
open Go.RowKit Gf
set_option maxRecDepth 20000
set_option linter.unusedVariables false

end Go.Proofs.Ytdoeelfcihdmbaa
/-
  The arguments of a law opened where they are together of a bulk that is bounded: rows of bytes, the struct of three rows, a byte and a number.
-/
namespace Go.Proofs.Ytdoeelfcihdmbaa
open Go.ChangeShapes Go.WideShapes Go.ChangeAt Go.RowKit Gf Go.Deep

section
variable {H : Type} {enc : TypeId × Value → H} {P : Program} {w : World}
theorem bulk_one (d : DataW H) : 1 ≤ Rows.uptoBulk d := by
  cases d with
  | lit l => cases l <;> simp [Rows.uptoBulk]
  | nil => simp [Rows.uptoBulk]
  | ptr d => simp [Rows.uptoBulk]
  | slice elems spare => simp [Rows.uptoBulk]
  | agg parts => simp [Rows.uptoBulk]
  | iface t d => simp [Rows.uptoBulk]
  | map entries => simp [Rows.uptoBulk]
  | held h => simp [Rows.uptoBulk]
theorem bulk_len (l : List (DataW H)) : l.length ≤ Rows.uptoBulkAll l := by
  induction l with
  | nil => simp [Rows.uptoBulkAll]
  | cons x r ih => have := bulk_one x; simp only [Rows.uptoBulkAll, List.length_cons]; omega
theorem bulk_part {d : DataW H} {l : List (DataW H)} (h : d ∈ l) : Rows.uptoBulk d ≤ Rows.uptoBulkAll l := by
  induction l with
  | nil => cases h
  | cons x r ih =>
    simp only [Rows.uptoBulkAll]
    cases List.mem_cons.1 h with
    | inl e => subst e; omega
    | inr e => have := ih e; omega
theorem bulk_bound {l : List (DataW H)} {d : DataW H} (hk : Rows.uptoSmall H l = true) (h : d ∈ l) : Rows.uptoBulk d ≤ 1048576 :=
  Nat.le_trans (bulk_part h) (of_decide_eq_true hk)
/-- A row of bytes that came in, of bounded bulk. -/
theorem open_bytes_u {base : Nat} {held : Bool} {t e : TypeId} {fuel : Nat} {cs : List Value} {y : DataW H × List MemPlace} (ht : P.underlying t = some (.slice e)) (he : P.underlying e = some (.int .u8)) (hc : P.cellsOf e = 1)
    (h : DataW.trod enc P w base (fun _ => true) held fuel t cs = some y) (hB : Rows.uptoBulk y.1 ≤ 1048576) :
    ∃ (A : Option Addr) (cap : Nat) (xs : List E), cs = [.slice A xs.length cap] ∧ Rd w A (bs xs) ∧ xs.length ≤ cap ∧ cap ≤ 1048576 := by
  rcases open_ints ht he hc h with ⟨hcs, _⟩ | ⟨x, l, c', zs, hcs, _, hl, hm, hz, hx, hcell, hwz⟩
  · exact ⟨none, 0, [], hcs, Rd.nil _ _, Nat.le_refl _, by omega⟩
  · simp only [if_true] at hz
    have hcap : c' ≤ 1048576 := by
      rw [hx] at hB
      simp only [Rows.uptoBulk] at hB
      have h1 := bulk_len (H := H) (lits .u8 (zs.take l))
      have h2 := bulk_len (H := H) (lits .u8 (zs.drop l))
      rw [lits_length, List.length_take] at h1
      rw [lits_length, List.length_drop] at h2
      omega
    have hE : ∀ i, i < zs.length → ∃ x : E, zs.getD i 0 = (x.val : Int) := fun i hi => by
      have : zs.getD i 0 ∈ zs := by
        rw [List.getD_eq_getElem?_getD, List.getElem?_eq_getElem hi]
        exact List.getElem_mem hi
      exact toE (hwz _ this)
    let f : Nat → E := fun i => ⟨(zs.getD i 0).toNat % 256, Nat.mod_lt _ (by decide)⟩
    have hf : ∀ i, i < zs.length → zs.getD i 0 = ((f i).val : Int) := fun i hi => by
      obtain ⟨x, hx⟩ := hE i hi
      have hlt := x.lt
      show zs.getD i 0 = (((zs.getD i 0).toNat % 256 : Nat) : Int)
      rw [hx]
      omega
    refine ⟨some x, c', (List.range l).map f, by simpa using hcs, fun _ => ⟨x, rfl, fun j u hu => ?_⟩, by simpa using hl, hcap⟩
    have hj : j < l := by
      have := (List.getElem?_eq_some_iff.1 hu).1
      simpa [bs] using this
    rw [hcell j (by omega), hf j (by omega)]
    rw [bs, List.getElem?_map, List.getElem?_map, List.getElem?_range hj] at hu
    simpa [bv] using hu
end
end Go.Proofs.Ytdoeelfcihdmbaa
