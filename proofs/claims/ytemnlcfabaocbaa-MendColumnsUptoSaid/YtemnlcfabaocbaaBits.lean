/-
  Small laws on Go's integer operations at numbers that are known to be small.
-/
import Derived.WalkKit
import Derived.OpenShut
import Derived.Test.YtemnlcfabaocbaaGf
namespace Go.Proofs.Ytemnlcfabaocbaa
open Go.RowKit Gf

theorem bits_i64_xor (a b : Nat) (ha : a < 2 ^ 32) (hb : b < 2 ^ 32) : bits .xor .i64 (a : Int) (b : Int) = ((a ^^^ b : Nat) : Int) := by
  have ha' : a % 2 ^ 64 = a := Nat.mod_eq_of_lt (Nat.lt_trans ha (by decide))
  have hb' : b % 2 ^ 64 = b := Nat.mod_eq_of_lt (Nat.lt_trans hb (by decide))
  have hx : a ^^^ b < 2 ^ 32 := Nat.xor_lt_two_pow ha hb
  have e : IntKind.bits .i64 = 64 := rfl
  simp only [bits, e, BitVec.ofInt_natCast, BitVec.toNat_xor, BitVec.toNat_ofNat, ha', hb']
  rw [IntKind.wrap_i64]
  omega
theorem bits_i64_and1 (a : Nat) (ha : a < 2 ^ 32) : bits .and .i64 (a : Int) 1 = ((a % 2 : Nat) : Int) := by
  have h := (bits_nat .i64 32 (by decide) (fun n h0 h1 => by rw [IntKind.wrap_i64]; omega) a 1 ha (by decide)).1
  rw [Nat.and_one_is_mod] at h
  exact h
theorem bits_u8_and1 (a : Nat) (ha : a < 256) : bits .and .u8 (a : Int) 1 = ((a % 2 : Nat) : Int) := by
  have h := u8_and_nat a 1 ha (by decide)
  rw [Nat.and_one_is_mod] at h
  exact h
theorem bits_u8_xor (x y : E) : bits .xor .u8 (x.val : Int) (y.val : Int) = ((x + y).val : Int) := u8_xor_nat _ _ x.lt y.lt
/-- An integer that fits the kind of bytes is an element. -/
theorem toE {a : Int} (h : (Lit.int .u8 a).wf = true) : ∃ x : E, a = (x.val : Int) := by
  have h' := bounds_u8 h
  exact ⟨⟨a.toNat, by omega⟩, by show a = ((a.toNat : Nat) : Int); omega⟩
theorem ret_int {k : IntKind} {a b : Int} (h : a = b) : Ending.returned (.int k a) = .returned (.int k b) := by rw [h]
theorem ret_bool {a b : Bool} (h : a = b) : Ending.returned (.bool a) = .returned (.bool b) := by rw [h]
theorem ret_elem {a b : E} (h : a = b) : Ending.returned (.int .u8 a.val) = .returned (.int .u8 b.val) := by rw [h]
theorem ret_elemI {a b : E} (h : a = b) : Ending.returned (.int .i64 a.val) = .returned (.int .i64 b.val) := by rw [h]
theorem val_eq {a b : E} (h : a = b) : Value.int .u8 (a.val : Int) = .int .u8 (b.val : Int) := by rw [h]
theorem eqE (x y : E) : ((x.val : Int) == (y.val : Int)) = decide (x = y) := by
  rw [Bool.eq_iff_iff]; simp only [beq_iff_eq, decide_eq_true_iff, E.ext_iff]; omega
end Go.Proofs.Ytemnlcfabaocbaa
