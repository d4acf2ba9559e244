/-
  The walks of the document's answer for chapter 2: product, inverse, trimming, degree, value.
-/
import Derived.Test.YtemnlcfabaocbaaPoly3
namespace Go.Proofs.Ytemnlcfabaocbaa
open Go.RowKit Gf
set_option maxRecDepth 20000
set_option linter.unusedVariables false

theorem infoU8 : (Try.prog.info? 5).map (fun i => (i.zero, i.size, i.bytes)) = some (some (.int .u8 0), 1, 1) := by kernel_rfl
theorem eltU8 : Elt Try.prog 24 5 (.int .u8 0) 1 := ⟨Try.underlying24, info_parts infoU8, rfl, by decide⟩
theorem make_bytes (n : Nat) (h : n ≤ 281474976710656) (w : World) :
    (Instr.makeSlice 24 (.int .i64 (n : Int)) (.int .i64 (n : Int))).run Try.prog w = .ok (.slice (some ⟨w.heap.size, 0, none⟩) n n) (w.alloc (.cells (zrow (.int .u8 0) n) 5)) :=
  run_make_elt eltU8 _ _ n (by omega) w

theorem bit_i64 (b k : Nat) (hb : b < 2 ^ 32) : bits BinOp.and IntKind.i64 ((b : Int) / 2 ^ k) 1 = ((b / 2 ^ k % 2 : Nat) : Int) := by
  have h : ((b : Int) / 2 ^ k) = ((b / 2 ^ k : Nat) : Int) := by simp
  rw [h]
  exact bits_i64_and1 _ (Nat.lt_of_le_of_lt (Nat.div_le_self _ _) hb)
theorem racc_yes (a b k : Nat) (ha : a < 256) (hb : b < 256) (h : (bits BinOp.and IntKind.i64 ((b : Int) / 2 ^ k) 1 == 1) = true) :
    bits BinOp.xor IntKind.i64 (acc a b k : Int) (xtn a k : Int) = (acc a b (k + 1) : Int) := by
  rw [bit_i64 b k (Nat.lt_trans hb (by decide)), beq_iff_eq] at h
  rw [bits_i64_xor _ _ (Nat.lt_trans (acc_lt b ha k) (by decide)) (Nat.lt_trans (xtn_lt ha k) (by decide))]
  rw [acc, if_pos (by omega)]
theorem racc_no (a b k : Nat) (hb : b < 256) (h : (bits BinOp.and IntKind.i64 ((b : Int) / 2 ^ k) 1 == 1) = false) :
    (acc a b k : Int) = (acc a b (k + 1) : Int) := by
  rw [bit_i64 b k (Nat.lt_trans hb (by decide)), beq_eq_false_iff_ne] at h
  rw [acc, if_neg (by omega)]
theorem rxt_big (X : Nat) (h : X < 256) (h1 : 255 < 2 * (X : Int)) : bits BinOp.xor IntKind.i64 (2 * (X : Int)) 285 = (xt X : Int) := by
  rw [Int.mul_comm] at h1 ⊢; exact xt_big X h h1
theorem rxt_small (X : Nat) (h1 : 2 * (X : Int) ≤ 255) : 2 * (X : Int) = (xt X : Int) := by
  rw [Int.mul_comm] at h1 ⊢; exact xt_small X h1
theorem refMul_any (x y : E) (w : World) :
    Calls Try.prog 86 #[.int .u8 x.val, .int .u8 y.val] w fun e w' => e = .returned (.int .u8 (x * y).val) ∧ w = w' := by
  obtain ⟨a, ha⟩ := x
  obtain ⟨b, hb⟩ := y
  simp only
  go_enter Try.func86, Try.ntmps86
  go_wp2
  go_loop [5, 6, 7] (fun p x i => ∃ k : Nat, k ≤ 8 ∧ i = .int .i64 k ∧ p = .int .i64 (acc a b k) ∧ x = .int .i64 (xtn a k))
     (fun _ _ i => 8 - (intOf i).toNat)
  case atStart => exact ⟨0, Nat.zero_le _, rfl, rfl, rfl⟩
  case round =>
    obtain ⟨k, hk, rfl, rfl, rfl⟩ := hrel
    have hP := acc_lt b ha k
    have hX := xtn_lt ha k
    by_cases hlt : k < 8
    · go_wp2
      all_goals
        go_round
        case rel => exact ⟨k + 1, by omega, by go_num, congrArg _ (by first | exact racc_yes a b k ha hb (by assumption) | exact racc_no a b k hb (by assumption)), congrArg _ (by first | exact rxt_big _ hX (by assumption) | exact rxt_small _ (by assumption))⟩
        case measure => simp [intOf]; omega
    · obtain rfl : k = 8 := by omega
      go_wp2
      go_ret
      exact ⟨rfl, rfl⟩
theorem refMul_lit (a b : Int) (x y : E) (ha : a = x.val) (hb : b = y.val) (w : World) :
    Calls Try.prog 86 #[.int .u8 a, .int .u8 b] w fun e w' => e = .returned (.int .u8 (x * y).val) ∧ w = w' := by
  subst ha; subst hb; exact refMul_any x y w
theorem inv_found {x : E} (hx : x ≠ 0) (c : E) : (x * c = 1) ↔ c = E.inv x := by
  constructor
  · intro h; exact E.inv_eq h
  · rintro rfl; exact E.mul_inv hx
theorem refInv_any (x : E) (hx : x ≠ 0) (w : World) :
    Calls Try.prog 92 #[.int .u8 x.val] w fun e w' => e = .returned (.int .u8 (E.inv x).val) ∧ w = w' := by
  have hf := Lib.hid (fun c => inv_found (x := x) hx c)
  have ht0 : E.inv x ≠ 0 := E.inv_ne_zero hx
  have hxl := x.lt
  clear hx
  generalize E.inv x = t at hf ht0 ⊢
  have htl := t.lt
  have ht1 : 1 ≤ t.val := by
    rcases Nat.eq_zero_or_pos t.val with h | h
    · exact absurd (E.ext h) ht0
    · exact h
  clear ht0
  go_enter Try.func92, Try.ntmps92
  go_wp2
  go_loop [3] (fun i => ∃ k : Nat, 1 ≤ k ∧ k ≤ t.val ∧ i = .int .i64 k) (fun i => 256 - (intOf i).toNat)
  case atStart => exact ⟨1, Nat.le_refl _, ht1, rfl⟩
  case round =>
    obtain ⟨k, hk1, hk, rfl⟩ := hrel
    have hof : (E.of k).val = k := E.val_of (by omega)
    have HC := Lib.hid (fun w => refMul_lit x.val k x (E.of k) rfl (by rw [hof]) w)
    have hk256 : k < 256 := by omega
    by_cases hkt : k = t.val
    · subst hkt
      rw [E.of_val] at HC
      have he : (((x * t).val : Int) == 1) = true := (eqE _ 1).trans (decide_eq_true ((hf.out t).2 rfl))
      clear hof
      go_wp2_with (go_at_call 86; refine (HC.out _).mono ?_; rintro e w' ⟨rfl, rfl⟩)
      go_ret
      exact ⟨rfl, rfl⟩
    · have he : (((x * E.of k).val : Int) == 1) = false := (eqE _ 1).trans (decide_eq_false (fun h => hkt (by rw [← (hf.out _).1 h, hof])))
      have hlt : k < t.val := by omega
      clear hof hkt
      go_wp2_with (go_at_call 86; refine (HC.out _).mono ?_; rintro e w' ⟨rfl, rfl⟩)
      go_round
      case rel => exact ⟨k + 1, by omega, by omega, by go_num⟩
      case measure => simp [intOf]; omega
set_option maxHeartbeats 1000000 in
theorem refTrim_n (A : Option Addr) (n : Nat) (xs : List E) (cap : Nat) (w : World) (hn : xs.length = n) (hr : Rd w A (bs xs)) (hlen : n ≤ 140737488355328) :
    Calls Try.prog 30 #[.slice A n cap] w fun e w' => ∃ v, e = .returned v ∧ Own w' w.heap.size 5 v (bs (trim xs)) ∧ Ext w w' := by
  have HN := Lib.hid hn
  have hd0 := dg_le xs
  rw [hn] at hd0
  clear hn
  go_enter Try.func30, Try.ntmps30
  go_wp2_with fail
  go_loop [3] (fun i => ∃ m : Nat, m ≤ n ∧ i = .int .i64 m ∧ dg xs ≤ m) (fun i => (intOf i).toNat)
  case atStart => exact ⟨n, by omega, rfl, hd0⟩
  case round =>
    obtain ⟨m, hm, rfl, hd⟩ := hrel
    by_cases hgo : ∃ j, m = j + 1 ∧ dg xs ≤ j
    · obtain ⟨j, rfl, hdj⟩ := hgo
      have hj : j < xs.length := by have := HN.out; omega
      have hjn : j < n := by omega
      obtain ⟨ad, rfl, hc⟩ := hr.byte hj
      have hz : xs[j] = 0 := by rw [← ser_at xs j hj]; exact dg_zero xs j hdj
      have hw1 : wrap64 (((j + 1 : Nat) : Int) - 1) = (j : Int) := by rw [IntWalk.wrap64_in _ (by omega)]; omega
      rw [hz] at hc
      clear hz
      go_wp2
      go_round
      case rel => exact ⟨j, by omega, by go_num, hdj⟩
      case measure => simp [intOf]
    · obtain rfl : m = dg xs := by
        rcases Nat.eq_zero_or_pos m with h | h
        · omega
        · rcases Nat.lt_or_ge (m - 1) (dg xs) with h2 | h2
          · omega
          · exact absurd ⟨m - 1, by omega, h2⟩ hgo
      clear hgo
      have htl := trim_length xs
      have htr : Rd w A (bs (trim xs)) := by rw [trim, bs_take]; exact hr.take _
      have HT := Lib.hid htr
      rcases Nat.eq_zero_or_pos (dg xs) with h0 | h0
      · have h00 : (((dg xs : Nat) : Int)) = 0 := by omega
        have hdt : trim xs = [] := List.eq_nil_of_length_eq_zero (by rw [htl]; exact h0)
        have HDT := Lib.hid hdt
        rw [h00]
        clear htl htr h00 hdt hd hd0 hm
        go_wp2
        go_loop [4, 5] (fun v i => v = .slice none 0 0 ∧ i = .int .i64 0) (fun _ _ => 0)
        case atStart => exact ⟨rfl, rfl⟩
        case round =>
          obtain ⟨rfl, rfl⟩ := hrel
          go_wp2
          go_ret
          exact ⟨_, rfl, by rw [HDT.out]; exact Own.nil _ _ _, Ext.refl _⟩
      · obtain ⟨j, hj⟩ : ∃ j, dg xs = j + 1 := ⟨dg xs - 1, by omega⟩
        have hjl : j < xs.length := by have := HN.out; omega
        have hjn : j < n := by omega
        obtain ⟨ad, rfl, hc⟩ := hr.byte hjl
        have hz : ((((xs[j]).val : Nat) : Int) == 0) = false := (eqE _ 0).trans (decide_eq_false (by
          have := dg_last xs (by omega)
          rw [hj, Nat.add_sub_cancel, ser_at xs j hjl] at this
          exact this))
        have hw1 : wrap64 (((j + 1 : Nat) : Int) - 1) = (j : Int) := by rw [IntWalk.wrap64_in _ (by omega)]; omega
        have HJ := Lib.hid hj
        have HTL := Lib.hid (htl.trans hj)
        rw [hj]
        rw [hj] at hd0 hm
        clear hj htl htr hd h0
        go_wp2
        go_loopw [4, 5] (fun v i wr => ∃ (k : Nat) (V : Value), V = v ∧ k ≤ j + 1 ∧ i = .int .i64 k ∧ Ext w wr ∧ Own wr w.heap.size 5 V (bs ((trim xs).take k))) (fun _ i _ => j + 1 - (intOf i).toNat)
        case atStart => exact ⟨0, _, rfl, by omega, rfl, Ext.refl _, Own.nil _ _ _⟩
        case round =>
          obtain ⟨k, V, rfl, hk, rfl, hx, ho⟩ := hrel
          by_cases hlt : k < j + 1
          · have hkt : k < (trim xs).length := by rw [HTL.out]; exact hlt
            obtain ⟨ad', e', hck⟩ := (HT.out.ext hx).byte hkt
            injection e' with e'
            subst e'
            have hkn : k < n := by omega
            have hle := hx.le
            have hbd : ((bs ((trim xs).take k)).length + 1) * 1 ≤ 140737488355328 := by simp [bs]; omega
            have hsn := bs_snoc (trim xs) k hkt
            go_wp2_with (at_builtin; refine wpList_push wr eltU8 rfl _ _ (by rfl) w.heap.size V _ (by rfl) (by exact ho) (.int .u8 ((trim xs)[k]).val) (by rfl) rfl hbd hle ?_; intro v' w' ho' _ hb' _)
            go_roundw
            case rel => exact ⟨k + 1, _, rfl, by omega, by go_num, Below.trans hx hb', by rw [hsn]; exact ho'⟩
            case measure => simp [intOf]; omega
          · obtain rfl : k = j + 1 := by omega
            have hta : (trim xs).take (j + 1) = trim xs := List.take_of_length_le (by rw [HTL.out]; exact Nat.le_refl _)
            rw [hta] at ho
            clear hta
            go_wp2
            go_ret
            exact ⟨_, rfl, ho, hx⟩
theorem refDegree_n (A : Option Addr) (n : Nat) (xs : List E) (cap : Nat) (w : World) (hn : xs.length = n) (hr : Rd w A (bs xs)) (hlen : n ≤ 140737488355328) :
    Calls Try.prog 31 #[.slice A n cap] w fun e w' => e = .returned (.int .i64 ((dg xs : Int) - 1)) ∧ Ext w w' := by
  have hd := dg_le xs
  have HT := Lib.hid (trim_length xs)
  have HN := Lib.hid hn
  rw [hn] at hd
  go_enter Try.func31, Try.ntmps31
  go_wp2_with fail
  refine (refTrim_n A n xs cap _ hn hr hlen).mono ?_
  rintro e w1 ⟨v, rfl, ho, hx⟩
  obtain ⟨A1, c1, rfl, -, -, -, -⟩ := ho.bytes
  rw [HT.out]
  clear ho hn
  go_wp2
  go_ret
  exact ⟨rfl, hx⟩
theorem evL_take (p : List E) (x : E) (k : Nat) (h : k < p.length) : evL (p.take (k + 1)) x = evL (p.take k) x + p[k] * E.pow x k := by
  induction p generalizing k with
  | nil => simp at h
  | cons a l ih =>
    cases k with
    | zero => simp [evL_cons, evL_nil, E.mul_zero, E.add_zero, E.zero_add, E.pow_zero, E.mul_one]
    | succ k =>
      simp only [List.take_succ_cons, evL_cons, List.getElem_cons_succ]
      rw [ih k (by simpa using h), E.mul_add, E.add_assoc, E.pow_succ, E.mul_left_comm, E.mul_comm x (E.pow x k)]
theorem refAt_n (A : Option Addr) (n : Nat) (p : List E) (cap : Nat) (x : E) (w : World) (hn : p.length = n) (hr : Rd w A (bs p)) (hlen : n ≤ 140737488355328) :
    Calls Try.prog 32 #[.slice A n cap, .int .u8 x.val] w fun e w' => e = .returned (.int .u8 (evL p x).val) ∧ w = w' := by
  have HN := Lib.hid hn
  clear hn
  have hxl := x.lt
  go_enter Try.func32, Try.ntmps32
  go_wp2_with fail
  go_loop [5, 6, 7] (fun s pw i => ∃ k : Nat, k ≤ n ∧ i = .int .i64 k ∧ s = .int .u8 (evL (p.take k) x).val ∧ pw = .int .u8 (E.pow x k).val) (fun _ _ i => n - (intOf i).toNat)
  case atStart => exact ⟨0, by omega, rfl, rfl, rfl⟩
  case round =>
    obtain ⟨k, hk, rfl, rfl, rfl⟩ := hrel
    by_cases hlt : k < n
    · have hkp : k < p.length := by have := HN.out; omega
      obtain ⟨ad, rfl, hc⟩ := hr.byte hkp
      have HE := Lib.hid (evL_take p x k hkp)
      have hpl := (E.pow x k).lt
      have hcl := (p[k]).lt
      have hb := bits_u8_xor (evL (p.take k) x) (p[k] * E.pow x k)
      go_wp2_with (go_at_call 86; with_reducible refine (refMul_any _ _ _).mono ?_; rintro e w' ⟨rfl, rfl⟩)
      go_round
      case rel => exact ⟨k + 1, by omega, by go_num, by rw [HE.out], by rw [E.pow_succ]⟩
      case measure => simp [intOf]; omega
    · obtain rfl : k = n := by omega
      have hp : p.take k = p := List.take_of_length_le (by rw [HN.out]; exact Nat.le_refl _)
      rw [hp]
      go_wp2
      go_ret
      exact ⟨rfl, rfl⟩
end Go.Proofs.Ytemnlcfabaocbaa
