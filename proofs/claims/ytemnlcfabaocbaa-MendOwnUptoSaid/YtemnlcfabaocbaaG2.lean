/-
  Texts of mine, merged: Poly1 Poly2 Poly3 Back Poly4 Div Quiet.
-/
import Derived.Test.YtemnlcfabaocbaaG1
import Derived.Deep.RegionWith
import Derived.Deep.RegionLaw
import Derived.Lib.SliceRun
import Derived.RangeFuncBox
import Derived.RangeFuncLeaves
import Derived.Shelf.Abstract
import Derived.WalkKit
import Derived.OwnWalkIn
import Derived.TacticsInMore
import Derived.LoopNIn
import Derived.LoopIn
import Derived.RangeFuncCalls
import Derived.Sort.QuietIn
/-
  The walks of layer 2: degree, copy, trimming.
-/
namespace Go.Proofs.Ytemnlcfabaocbaa
open Go.RowKit Gf
set_option maxRecDepth 20000
set_option linter.unusedVariables false

theorem infoEl : (Try.prog.info? 34).map (fun i => (i.zero, i.size, i.bytes)) = some (some (.int .u8 0), 1, 1) := by kernel_rfl
theorem eltEl : Elt Try.prog 26 34 (.int .u8 0) 1 := ⟨Try.underlying26, info_parts infoEl, rfl, by decide⟩
theorem make_elems (n : Nat) (h : n ≤ 281474976710656) (w : World) :
    (Instr.makeSlice 26 (.int .i64 (n : Int)) (.int .i64 (n : Int))).run Try.prog w = .ok (.slice (some ⟨w.heap.size, 0, none⟩) n n) (w.alloc (.cells (zrow (.int .u8 0) n) 34)) :=
  run_make_elt eltEl _ _ n (by omega) w
theorem bs_snoc (xs : List E) (k : Nat) (h : k < xs.length) : bs (xs.take (k + 1)) = bs (xs.take k) ++ [.int .u8 ((xs[k]).val : Int)] := by
  rw [take_snoc' xs k h, bs_append]; rfl

theorem dg_step {xs : List E} {j : Nat} (h : dg xs ≤ j + 1) (hj : j < xs.length) (h0 : xs[j] = 0) : dg xs ≤ j := by
  apply dg_min
  intro i hi
  rcases Nat.eq_or_lt_of_le hi with e | e
  · subst e; rw [ser_at xs j hj]; exact h0
  · exact dg_zero xs i (by omega)
theorem dg_stop {xs : List E} {j : Nat} (h : dg xs ≤ j + 1) (hj : j < xs.length) (h0 : xs[j] ≠ 0) : dg xs = j + 1 := by
  rcases Nat.lt_or_ge (dg xs) (j + 1) with h1 | h1
  · exact absurd (by rw [← ser_at xs j hj]; exact dg_zero xs j (by omega)) h0
  · omega
theorem degree_n (A : Option Addr) (n : Nat) (xs : List E) (cap : Nat) (w : World) (hn : xs.length = n) (hr : Rd w A (bs xs)) (hlen : n ≤ 9000000000000000000) :
    Calls Try.prog 34 #[.slice A n cap] w fun e w' => e = .returned (.int .i64 ((dg xs : Int) - 1)) ∧ w = w' := by
  have HN := Lib.hid hn
  have hd0 := dg_le xs
  rw [hn] at hd0
  clear hn
  go_enter Try.func34, Try.ntmps34
  go_wp2_with fail
  go_loop [3] (fun i => ∃ (m : Nat) (z : Int), m ≤ n ∧ i = .int .i64 z ∧ Hid (z = (m : Int) - 1) ∧ dg xs ≤ m) (fun i => (intOf i + 1).toNat)
  case atStart => exact ⟨n, _, by omega, rfl, rfl, hd0⟩
  case round =>
    obtain ⟨m, z, hm, rfl, hz, hd⟩ := hrel
    cases m with
    | zero =>
      obtain rfl : z = -1 := by have := hz.out; omega
      have H0 := Lib.hid (show dg xs = 0 by omega)
      have hb : decide ((0 : Int) ≤ -1) = false := by decide
      go_wp2
      go_ret
      exact ⟨ret_int (by rw [H0.out]; rfl), rfl⟩
    | succ j =>
      obtain rfl : z = (j : Int) := by have := hz.out; omega
      have hj : j < xs.length := by have := HN.out; omega
      obtain ⟨ad, rfl, hc⟩ := hr.byte hj
      by_cases h0 : xs[j] = 0
      · have hd' := dg_step hd hj h0
        have hz0 : decide (xs[j] = 0) = true := decide_eq_true h0
        clear h0
        go_wp2_with (go_at_call 85; with_reducible refine (isZero_any _ _).mono ?_; rintro e w' ⟨rfl, rfl⟩)
        go_round
        case rel => exact ⟨j, _, by omega, rfl, rfl, hd'⟩
        case measure => simp [intOf]
      · have hd' := Lib.hid (dg_stop hd hj h0)
        have hz0 : decide (xs[j] = 0) = false := decide_eq_false h0
        clear h0
        go_wp2_with (go_at_call 85; with_reducible refine (isZero_any _ _).mono ?_; rintro e w' ⟨rfl, rfl⟩)
        go_ret
        exact ⟨ret_int (by rw [hd'.out]; omega), rfl⟩
/-- The copy: nil stays nil; else it is new, and never nil. -/
theorem clone_n (A : Option Addr) (n : Nat) (xs : List E) (cap : Nat) (w : World) (hn : xs.length = n) (hr : Rd w A (bs xs)) (hlen : n ≤ 140737488355328) :
    Calls Try.prog 87 #[.slice A n cap] w fun e w' => ∃ v, e = .returned v ∧ Own w' w.heap.size 34 v (bs xs) ∧ Ext w w' := by
  have HN := Lib.hid hn
  clear hn
  have hq := fun (w : World) (a : Option Addr) (l c : Nat) => Lib.run_eql_slice_nil (P := Try.prog) w 26 34 a l c 0 0 Try.underlying26
  cases A with
  | none =>
    obtain rfl : xs = [] := by
      rcases Nat.eq_zero_or_pos xs.length with h | h
      · exact List.eq_nil_of_length_eq_zero h
      · obtain ⟨ad, e, _⟩ := hr (by rw [bs_length]; exact h)
        cases e
    go_enter Try.func87, Try.ntmps87
    go_wp2
    go_ret
    exact ⟨_, rfl, Own.nil _ _ _, Ext.refl _⟩
  | some ad =>
    go_enter Try.func87, Try.ntmps87
    have h0 : Own (w.alloc (.cells #[] 34)) w.heap.size 34 (.slice (some ⟨w.heap.size, 0, none⟩) 0 0) [] := (Blk.new w 34 #[]).own (Nat.le_refl _) (Nat.le_refl _) (Nat.zero_le _) rfl
    go_wp2_with (at_builtin; refine wpList_app (w.alloc (.cells #[] 34)) eltEl rfl _ _ (by rfl) w.heap.size (.slice (some ⟨w.heap.size, 0, none⟩) 0 0) [] (by rfl) (by exact h0) (some ad) n cap (bs xs) (by rfl) (hr.alloc _) ((bs_length _).trans HN.out) (bs_ones _) (by simp; omega) (by simp) ?_; intro v w1 ho hmv)
    go_ret
    refine ⟨v, rfl, by simpa using ho, ((Ext.refl w).alloc _).below.trans (hmv.below (by simp) fun g hg => by simp [Value.ownBlock] at hg; omega)⟩
theorem max_le {w : World} {B : Nat} {T : TypeId} {A : Option Addr} {n cap : Nat} {xs : List E} (h : Own w B T (.slice A n cap) (bs xs)) : n = xs.length := by
  have := h.len
  rwa [bs_length] at this
theorem Own.bytes {w : World} {B : Nat} {T : TypeId} {v : Value} {xs : List E} (h : Own w B T v (bs xs)) : ∃ A cap, v = .slice A xs.length cap ∧ Own w B T (.slice A xs.length cap) (bs xs) ∧ Rd w A (bs xs) ∧ xs.length ≤ cap ∧ cap ≤ maxLen := by
  obtain ⟨A, cap, hv, hr, hl, hm, _⟩ := h.slice
  rw [bs_length] at hv hl
  exact ⟨A, cap, hv, by rw [← hv]; exact h, hr, hl, hm⟩
theorem trim_n (A : Option Addr) (n : Nat) (xs : List E) (cap : Nat) (w : World) (hn : xs.length = n) (hr : Rd w A (bs xs)) (hlen : n ≤ 140737488355328) (hcap : n ≤ cap) :
    Calls Try.prog 33 #[.slice A n cap] w fun e w' => ∃ v, e = .returned v ∧ Own w' w.heap.size 34 v (bs (trim xs)) ∧ Ext w w' := by
  have hd := dg_le xs
  rw [hn] at hd
  have HC := Lib.hid (fun w' (e : Ext w w') => clone_n A (dg xs) (trim xs) cap w' (trim_length xs) (by rw [trim, bs_take]; exact (hr.ext e).take _) (by omega))
  have HN := Lib.hid hn
  have hdc : dg xs ≤ cap := by omega
  clear hn
  go_enter Try.func33, Try.ntmps33
  go_wp2_with fail
  refine (degree_n A n xs cap _ HN.out hr (by omega)).mono ?_
  rintro e w' ⟨rfl, rfl⟩
  go_wp2_with fail
  refine (HC.out _ (Ext.refl _)).mono ?_
  rintro e w1 ⟨v, rfl, ho, hx⟩
  go_wp2
  go_ret
  exact ⟨v, rfl, ho, hx⟩
theorem scale1_any (x y c : E) (b : Nat) (w : World) (hc : w.cell? ⟨b, 0, none⟩ = some (.int .u8 c.val)) :
    Calls Try.prog 91 #[.int .u8 x.val, .int .u8 y.val, .pointer (some ⟨b, 0, none⟩)] w fun e w' => e = .returned (.int .u8 (x * c).val) ∧ w = w' := by
  go_enter Try.func91, Try.ntmps91
  go_wp2_with (go_at_call 58; with_reducible refine (times_any _ _ _).mono ?_; rintro e w' ⟨rfl, rfl⟩)
  go_ret
  exact ⟨rfl, rfl⟩
end Go.Proofs.Ytemnlcfabaocbaa
/-
  The walks of layer 2: what two polynomials come to, coefficient by coefficient.
-/
namespace Go.Proofs.Ytemnlcfabaocbaa
open Go.RowKit Gf
set_option maxRecDepth 20000
set_option linter.unusedVariables false
set_option linter.unusedSimpArgs false

theorem plus_zero (x : E) (w : World) :
    Calls Try.prog 57 #[.int .u8 x.val, .int .u8 0] w fun e w' => e = .returned (.int .u8 (x + 0).val) ∧ w = w' := plus_any x 0 w
theorem scale1_zero (x c : E) (b : Nat) (w : World) (hc : w.cell? ⟨b, 0, none⟩ = some (.int .u8 c.val)) :
    Calls Try.prog 91 #[.int .u8 x.val, .int .u8 0, .pointer (some ⟨b, 0, none⟩)] w fun e w' => e = .returned (.int .u8 (x * c).val) ∧ w = w' := scale1_any x 0 c b w hc

def mixPlus (p q : List E) (k : Nat) : S := fun i => if i < k then ser p i + ser q i else ser p i
theorem mixPlus_step (p q : List E) (N k : Nat) (hk : k < N) : (bs (ofS N (mixPlus p q  k))).set k (.int .u8 ((ser p k + ser q k).val : Int)) = bs (ofS N (mixPlus p q  (k + 1))) := by
  have h : (ofS N (mixPlus p q  k)).set k (ser p k + ser q k) = ofS N (mixPlus p q  (k + 1)) := by
    rw [ofS_set]
    apply ofS_congr
    intro i hi
    simp only [mixPlus]
    by_cases h1 : i = k
    · subst h1; rw [if_pos rfl, if_pos (by omega)]
    · rw [if_neg h1]
      by_cases h2 : i < k
      · rw [if_pos h2, if_pos (by omega)]
      · rw [if_neg h2, if_neg (by omega)]
  rw [← h, bs, bs, List.map_set]; rfl
theorem mixPlus_get (p q : List E) (N k : Nat) (hk : k < N) : (bs (ofS N (mixPlus p q  k)))[k]? = some (.int .u8 ((ser p k).val : Int)) := by
  rw [bs_get _ k (by rw [ofS_length]; exact hk), ofS_getElem]
  simp [mixPlus]
set_option maxHeartbeats 2000000 in
theorem combinePlus (A B : Option Addr) (n m N ca cb : Nat) (p q : List E) (w : World) (hn : p.length = n) (hm : q.length = m) (hN : (N = n ∧ m ≤ n) ∨ (N = m ∧ n < m)) (hr : Rd w A (bs p)) (hs : Rd w B (bs q)) (hlen : N ≤ 140737488355328) :
    Calls Try.prog 90 #[.slice A n ca, .slice B m cb, .func (.func 57) #[] #[]] w fun e w' => ∃ v, e = .returned v ∧ Own w' w.heap.size 34 v (bs (trim (ofS N (fun i => ser p i + ser q i)))) ∧ Ext w w' := by
  have hmk := make_elems N (by omega)
  have HN := Lib.hid hn
  have HM := Lib.hid hm
  have hpN : n ≤ N := by omega
  have hmN : m ≤ N := by omega
  have HZ : ∀ cs' : Array Value, cs'.toList = bs p ++ (zrow (.int .u8 0) N).toList.drop n → cs' = (bs (ofS N (mixPlus p q  0))).toArray := by
    intro cs' h
    have e : ofS N (mixPlus p q  0) = p ++ List.replicate (N - n) 0 := by
      rw [← hn, ← ofS_pad p N (by omega)]
      exact ofS_congr fun i _ => by simp [mixPlus]
    rw [e, bs_append, ← Array.toList_inj, h, zrow_list, List.drop_replicate]
    simp [bs, bv, E.val_zero]
  have HZ' := Lib.hid HZ
  clear hn hm HZ
  rcases hN with ⟨rfl, hmn⟩ | ⟨rfl, hmn⟩
  all_goals
    go_enter Try.func90, Try.ntmps90
    go_wp2_with (refine wpList_copy0 (w.alloc (.cells (zrow (.int .u8 0) N) 34)) eltEl rfl (.tmp 16) (.tmp 17) rfl w.heap.size N N 34 _ (Blk.new _ _ _) (by rfl) A _ ca (bs p) (by rfl) (hr.alloc _) ((bs_length _).trans HN.out) hpN (by rw [zrow_size]; exact Nat.le_refl _) (bs_ones _) w.heap.size w ((Ext.refl w).alloc _) (Nat.le_refl _) ?_; intro w1 cs1 hb1 hcs1 hx1)
    have hb1' : Blk w1 w.heap.size 34 (bs (ofS N (mixPlus p q  0))).toArray := by rw [← HZ'.out cs1 hcs1.out]; exact hb1
    clear hb1
    go_loopw [21] (fun i wr => ∃ k : Nat, k ≤ N ∧ i = .int .i64 k ∧ Ext w wr ∧ Blk wr w.heap.size 34 (bs (ofS N (mixPlus p q  k))).toArray) (fun i _ => N - (intOf i).toNat)
    case atStart => exact ⟨0, by omega, rfl, hx1, hb1'⟩
    case round =>
      obtain ⟨k, hk, rfl, hx, hb⟩ := hrel
      clear hb1' hx1
      by_cases hlt : k < N
      · have hc1 : wr.cell? ⟨w.heap.size, k, none⟩ = some (.int .u8 ((ser p k).val : Int)) := (hb.cell k).trans (by rw [List.getElem?_toArray]; exact mixPlus_get p q  N k hlt)
        have hf := hb.frozen k
        have hb2 := hb.set_ k (.int .u8 ((ser p k + ser q k).val : Int))
        rw [List.setIfInBounds_toArray, mixPlus_step p q  N k hlt] at hb2
        have hx2 := hx.new (p := ⟨w.heap.size, k, none⟩) (Nat.le_refl _) (.int .u8 ((ser p k + ser q k).val : Int))
        skip
        have HB := Lib.hid hb2
        clear hb hb2
        rcases Nat.lt_or_ge k q.length with hj | hj
        · have hkm := hj
          rw [HM.out] at hkm
          obtain ⟨bd, rfl, hc2⟩ := (hs.ext hx).byte hj
          rw [← ser_at q k hj] at hc2
          go_wp2_with (go_at_call 57; with_reducible refine (plus_any _ _ _).mono ?_; rintro e w' ⟨rfl, rfl⟩)
          go_roundw
          case rel => exact ⟨k + 1, by omega, by go_num, hx2, HB.out⟩
          case measure => simp [intOf]; omega
        · have hz := Lib.hid (ser_out q k hj)
          have hd := decide_eq_false (Nat.not_lt.2 hj)
          rw [HM.out] at hj hd
          by_cases hcon : N ≤ k
          · exact absurd hcon (by omega)
          first
            | exact absurd hj hcon
            | (go_wp2_with (go_at_call 57; with_reducible refine (plus_zero _ _).mono ?_; rintro e w' ⟨rfl, rfl⟩)
               go_roundw
               case rel => exact ⟨k + 1, by omega, by go_num, by rw [hz.out] at hx2; exact hx2, by have := HB.out; rw [hz.out] at this; exact this⟩
               case measure => simp [intOf]; omega)
      · obtain rfl : k = N := by omega
        have e : ofS k (mixPlus p q  k) = ofS k (fun i => ser p i + ser q i) := ofS_congr fun i hi => by simp only [mixPlus]; rw [if_pos hi]
        rw [e] at hb
        have ho := hb.own (B := w.heap.size) (n := k) (cap := k) (Nat.le_refl _) (Nat.le_refl _) (by simp only [maxLen]; omega) (by simp [bs, ofS_length])
        have hd := dg_le (ofS k (fun i => ser p i + ser q i))
        rw [ofS_length] at hd
        have ho2 := hb.own (B := w.heap.size) (n := dg (ofS k (fun i => ser p i + ser q i))) (cap := k) (Nat.le_refl _) hd (by simp only [maxLen]; omega) (by simp [bs, ofS_length])
        rw [List.toList_toArray, ← bs_take] at ho2
        rw [List.toList_toArray, ← bs_take, List.take_of_length_le (by rw [ofS_length]; exact Nat.le_refl _)] at ho
        have hrd := ho.rd
        have HL := Lib.hid (ofS_length k (fun i => ser p i + ser q i))
        generalize hL : ofS k (fun i => ser p i + ser q i) = L at ho2 hrd hd HL
        have HLL := Lib.hid hL
        clear hL
        clear ho hb e
        go_wp2_with fail
        refine (degree_n _ k L _ _ HL.out hrd (by omega)).mono ?_
        rintro e w' ⟨rfl, rfl⟩
        go_wp2
        go_ret
        exact ⟨_, rfl, by rw [HLL.out]; exact ho2, hx⟩

def mixScale (p q : List E) (c : E) (k : Nat) : S := fun i => if i < k then ser p i * c else ser p i
theorem mixScale_step (p q : List E) (c : E) (N k : Nat) (hk : k < N) : (bs (ofS N (mixScale p q c k))).set k (.int .u8 ((ser p k * c).val : Int)) = bs (ofS N (mixScale p q c (k + 1))) := by
  have h : (ofS N (mixScale p q c k)).set k (ser p k * c) = ofS N (mixScale p q c (k + 1)) := by
    rw [ofS_set]
    apply ofS_congr
    intro i hi
    simp only [mixScale]
    by_cases h1 : i = k
    · subst h1; rw [if_pos rfl, if_pos (by omega)]
    · rw [if_neg h1]
      by_cases h2 : i < k
      · rw [if_pos h2, if_pos (by omega)]
      · rw [if_neg h2, if_neg (by omega)]
  rw [← h, bs, bs, List.map_set]; rfl
theorem mixScale_get (p q : List E) (c : E) (N k : Nat) (hk : k < N) : (bs (ofS N (mixScale p q c k)))[k]? = some (.int .u8 ((ser p k).val : Int)) := by
  rw [bs_get _ k (by rw [ofS_length]; exact hk), ofS_getElem]
  simp [mixScale]
set_option maxHeartbeats 2000000 in
theorem combineScale (A B : Option Addr) (n m N ca cb : Nat) (p q : List E) (c : E) (b : Nat) (w : World) (hn : p.length = n) (hm : q.length = m) (hN : (N = n ∧ m ≤ n) ∨ (N = m ∧ n < m)) (hr : Rd w A (bs p)) (hs : Rd w B (bs q)) (hbc : b < w.heap.size) (hcell : w.cell? ⟨b, 0, none⟩ = some (.int .u8 c.val)) (hlen : N ≤ 140737488355328) :
    Calls Try.prog 90 #[.slice A n ca, .slice B m cb, .func (.func 91) #[] #[.pointer (some ⟨b, 0, none⟩)]] w fun e w' => ∃ v, e = .returned v ∧ Own w' w.heap.size 34 v (bs (trim (ofS N (fun i => ser p i * c)))) ∧ Ext w w' := by
  have hmk := make_elems N (by omega)
  have HN := Lib.hid hn
  have HM := Lib.hid hm
  have hpN : n ≤ N := by omega
  have hmN : m ≤ N := by omega
  have HZ : ∀ cs' : Array Value, cs'.toList = bs p ++ (zrow (.int .u8 0) N).toList.drop n → cs' = (bs (ofS N (mixScale p q c 0))).toArray := by
    intro cs' h
    have e : ofS N (mixScale p q c 0) = p ++ List.replicate (N - n) 0 := by
      rw [← hn, ← ofS_pad p N (by omega)]
      exact ofS_congr fun i _ => by simp [mixScale]
    rw [e, bs_append, ← Array.toList_inj, h, zrow_list, List.drop_replicate]
    simp [bs, bv, E.val_zero]
  have HZ' := Lib.hid HZ
  clear hn hm HZ
  rcases hN with ⟨rfl, hmn⟩ | ⟨rfl, hmn⟩
  all_goals
    go_enter Try.func90, Try.ntmps90
    go_wp2_with (refine wpList_copy0 (w.alloc (.cells (zrow (.int .u8 0) N) 34)) eltEl rfl (.tmp 16) (.tmp 17) rfl w.heap.size N N 34 _ (Blk.new _ _ _) (by rfl) A _ ca (bs p) (by rfl) (hr.alloc _) ((bs_length _).trans HN.out) hpN (by rw [zrow_size]; exact Nat.le_refl _) (bs_ones _) w.heap.size w ((Ext.refl w).alloc _) (Nat.le_refl _) ?_; intro w1 cs1 hb1 hcs1 hx1)
    have hb1' : Blk w1 w.heap.size 34 (bs (ofS N (mixScale p q c 0))).toArray := by rw [← HZ'.out cs1 hcs1.out]; exact hb1
    clear hb1
    go_loopw [21] (fun i wr => ∃ k : Nat, k ≤ N ∧ i = .int .i64 k ∧ Ext w wr ∧ Blk wr w.heap.size 34 (bs (ofS N (mixScale p q c k))).toArray) (fun i _ => N - (intOf i).toNat)
    case atStart => exact ⟨0, by omega, rfl, hx1, hb1'⟩
    case round =>
      obtain ⟨k, hk, rfl, hx, hb⟩ := hrel
      clear hb1' hx1
      by_cases hlt : k < N
      · have hc1 : wr.cell? ⟨w.heap.size, k, none⟩ = some (.int .u8 ((ser p k).val : Int)) := (hb.cell k).trans (by rw [List.getElem?_toArray]; exact mixScale_get p q c N k hlt)
        have hf := hb.frozen k
        have hb2 := hb.set_ k (.int .u8 ((ser p k * c).val : Int))
        rw [List.setIfInBounds_toArray, mixScale_step p q c N k hlt] at hb2
        have hx2 := hx.new (p := ⟨w.heap.size, k, none⟩) (Nat.le_refl _) (.int .u8 ((ser p k * c).val : Int))
        have hcc : wr.cell? ⟨b, 0, none⟩ = some (.int .u8 c.val) := (hx.cell (p := ⟨b, 0, none⟩) hbc).trans hcell
        have HB := Lib.hid hb2
        clear hb hb2
        rcases Nat.lt_or_ge k q.length with hj | hj
        · have hkm := hj
          rw [HM.out] at hkm
          obtain ⟨bd, rfl, hc2⟩ := (hs.ext hx).byte hj
          rw [← ser_at q k hj] at hc2
          go_wp2_with (go_at_call 91; with_reducible refine (scale1_any _ _ c b _ hcc).mono ?_; rintro e w' ⟨rfl, rfl⟩)
          go_roundw
          case rel => exact ⟨k + 1, by omega, by go_num, hx2, HB.out⟩
          case measure => simp [intOf]; omega
        · have hz := Lib.hid (ser_out q k hj)
          have hd := decide_eq_false (Nat.not_lt.2 hj)
          rw [HM.out] at hj hd
          by_cases hcon : N ≤ k
          · exact absurd hcon (by omega)
          first
            | exact absurd hj hcon
            | (go_wp2_with (go_at_call 91; with_reducible refine (scale1_zero _ c b _ hcc).mono ?_; rintro e w' ⟨rfl, rfl⟩)
               go_roundw
               case rel => exact ⟨k + 1, by omega, by go_num, hx2, HB.out⟩
               case measure => simp [intOf]; omega)
      · obtain rfl : k = N := by omega
        have e : ofS k (mixScale p q c k) = ofS k (fun i => ser p i * c) := ofS_congr fun i hi => by simp only [mixScale]; rw [if_pos hi]
        rw [e] at hb
        have ho := hb.own (B := w.heap.size) (n := k) (cap := k) (Nat.le_refl _) (Nat.le_refl _) (by simp only [maxLen]; omega) (by simp [bs, ofS_length])
        have hd := dg_le (ofS k (fun i => ser p i * c))
        rw [ofS_length] at hd
        have ho2 := hb.own (B := w.heap.size) (n := dg (ofS k (fun i => ser p i * c))) (cap := k) (Nat.le_refl _) hd (by simp only [maxLen]; omega) (by simp [bs, ofS_length])
        rw [List.toList_toArray, ← bs_take] at ho2
        rw [List.toList_toArray, ← bs_take, List.take_of_length_le (by rw [ofS_length]; exact Nat.le_refl _)] at ho
        have hrd := ho.rd
        have HL := Lib.hid (ofS_length k (fun i => ser p i * c))
        generalize hL : ofS k (fun i => ser p i * c) = L at ho2 hrd hd HL
        have HLL := Lib.hid hL
        clear hL
        clear ho hb e
        go_wp2_with fail
        refine (degree_n _ k L _ _ HL.out hrd (by omega)).mono ?_
        rintro e w' ⟨rfl, rfl⟩
        go_wp2
        go_ret
        exact ⟨_, rfl, by rw [HLL.out]; exact ho2, hx⟩

theorem polyPlus_n (A B : Option Addr) (n m ca cb : Nat) (p q : List E) (w : World) (hn : p.length = n) (hm : q.length = m) (hr : Rd w A (bs p)) (hs : Rd w B (bs q)) (hn1 : n ≤ 140737488355328) (hm1 : m ≤ 140737488355328) :
    Calls Try.prog 40 #[.slice A n ca, .slice B m cb] w fun e w' => ∃ v, e = .returned v ∧ Own w' w.heap.size 34 v (bs (plusL p q)) ∧ Ext w w' := by
  have h := combinePlus A B n m (max n m) ca cb p q w hn hm (by omega) hr hs (by omega)
  have e : trim (ofS (max n m) (fun i => ser p i + ser q i)) = plusL p q := by rw [plusL, hn, hm]; rfl
  rw [e] at h
  have H := Lib.hid h
  clear h
  go_enter Try.func40, Try.ntmps40
  go_wp2_with fail
  refine H.out.mono ?_
  rintro e w1 ⟨v, rfl, ho, hx⟩
  go_wp2
  go_ret
  exact ⟨v, rfl, ho, hx⟩
theorem polyScale_n (A : Option Addr) (n ca : Nat) (p : List E) (c : E) (w : World) (hn : p.length = n) (hr : Rd w A (bs p)) (hn1 : n ≤ 140737488355328) :
    Calls Try.prog 42 #[.slice A n ca, .int .u8 c.val] w fun e w' => ∃ v, e = .returned v ∧ Own w' w.heap.size 34 v (bs (scaleL p c)) ∧ Ext w w' := by
  have hb := Blk.new w 34 #[.int .u8 (c.val : Int)]
  have h := combineScale A none n 0 n ca 0 p [] c w.heap.size (w.alloc (.cells #[.int .u8 (c.val : Int)] 34)) hn rfl (by omega) (hr.alloc _) (Rd.nil _ _) (by simp) ((hb.cell 0).trans rfl) (by omega)
  have e : trim (ofS n (fun i => ser p i * c)) = scaleL p c := by rw [scaleL, hn]; congr 1; exact ofS_congr fun i _ => E.mul_comm _ _
  rw [e] at h
  have H := Lib.hid h
  clear h hb
  go_enter Try.func42, Try.ntmps42
  go_wp2_with fail
  refine H.out.mono ?_
  rintro e w1 ⟨v, rfl, ho, hx⟩
  go_wp2
  go_ret
  exact ⟨v, rfl, ho.mono (by simp), ((Ext.refl w).alloc _).trans hx⟩
end Go.Proofs.Ytemnlcfabaocbaa
/-
  The walks of layer 2: products, the formal derivative.
-/
namespace Go.Proofs.Ytemnlcfabaocbaa
open Go.RowKit Gf
set_option maxRecDepth 20000
set_option linter.unusedVariables false

theorem ofS_getb (N : Nat) (f : S) (k : Nat) (hk : k < N) : (bs (ofS N f))[k]? = some (.int .u8 ((f k).val : Int)) := by
  rw [bs_get _ k (by rw [ofS_length]; exact hk), ofS_getElem]
def upd (f : S) (k : Nat) (v : E) : S := fun i => if i = k then v else f i
theorem ofS_setb (N : Nat) (f : S) (k : Nat) (v : E) : (bs (ofS N f)).set k (.int .u8 (v.val : Int)) = bs (ofS N (upd f k v)) := by
  have h : (ofS N f).set k v = ofS N (upd f k v) := ofS_set N f k v
  rw [← h, bs, bs, List.map_set]; rfl
theorem bs_ofS_len (N : Nat) (f : S) : (bs (ofS N f)).length = N := by rw [bs_length, ofS_length]
/-- What a block of coefficients is trimmed to. -/
theorem own_trim {w : World} {g N : Nat} {f : S} {B : Nat} (hb : Blk w g 34 (bs (ofS N f)).toArray) (hB : B ≤ g) (hm : N ≤ maxLen) :
    Own w B 34 (.slice (some ⟨g, 0, none⟩) (dg (ofS N f)) N) (bs (trim (ofS N f))) ∧ Rd w (some ⟨g, 0, none⟩) (bs (ofS N f)) ∧ dg (ofS N f) ≤ N := by
  have hd := dg_le (ofS N f)
  rw [ofS_length] at hd
  have hs : (bs (ofS N f)).toArray.size = N := by simp [bs, ofS_length]
  have ho := hb.own (B := B) (n := N) (cap := N) hB (Nat.le_refl _) hm hs
  have ho2 := hb.own (B := B) (n := dg (ofS N f)) (cap := N) hB hd hm hs
  rw [List.toList_toArray, ← bs_take] at ho ho2
  rw [List.take_of_length_le (by rw [ofS_length]; exact Nat.le_refl _)] at ho
  exact ⟨ho2, ho.rd, hd⟩

/-- The product of the first i coefficients of p with q, and of the next one with the first j of q. -/
def partS (p q : List E) (i : Nat) : S := S.mul (ser (p.take i)) (ser q)
def partT (p q : List E) (i j : Nat) : S := fun t => partS p q i t + (if i ≤ t ∧ t < i + j then ser p i * ser q (t - i) else 0)
theorem partS_zero (p q : List E) : partS p q 0 = S.zero := S.zero_mul _
theorem partS_all (p q : List E) : partS p q p.length = S.mul (ser p) (ser q) := by rw [partS, List.take_length]
theorem partT_zero (p q : List E) (i : Nat) : partT p q i 0 = partS p q i := funext fun t => by
  rw [partT, if_neg (by omega), E.add_zero]
theorem ser_take_succ (p : List E) (i : Nat) : ser (p.take (i + 1)) = S.add (ser (p.take i)) (S.mono (ser p i) i) := funext fun t => by
  simp only [S.add, S.mono, ser_take]
  by_cases h1 : t < i
  · rw [if_pos (by omega), if_pos h1, if_neg (by omega), E.add_zero]
  · by_cases h2 : t = i
    · subst h2; rw [if_pos (by omega), if_neg (by omega), if_pos rfl, E.zero_add]
    · rw [if_neg (by omega), if_neg h1, if_neg h2, E.add_zero]
theorem partS_succ (p q : List E) (i : Nat) : partS p q (i + 1) = S.add (partS p q i) (S.smul (ser p i) (S.shN i (ser q))) := by
  rw [partS, ser_take_succ, S.add_mul, S.mono_mul]; rfl
theorem partT_all (p q : List E) (i : Nat) : partT p q i q.length = partS p q (i + 1) := funext fun t => by
  rw [partS_succ, partT]
  simp only [S.add, S.smul, S.shN]
  congr 1
  by_cases h : i ≤ t
  · by_cases h2 : t < i + q.length
    · rw [if_pos ⟨h, h2⟩, if_neg (by omega)]
    · rw [if_neg (by omega), if_neg (by omega), ser_out q (t - i) (by omega), E.mul_zero]
  · rw [if_neg (by omega), if_pos (by omega), E.mul_zero]
theorem partS_skip (p q : List E) (i : Nat) (h : ser p i = 0) : partS p q (i + 1) = partS p q i := by
  rw [partS_succ, h, S.zero_smul, S.add_zero]
theorem partT_step (p q : List E) (N i j : Nat) : upd (partT p q i j) (i + j) (partT p q i j (i + j) + ser p i * ser q j) = partT p q i (j + 1) := funext fun t => by
  rw [upd]
  by_cases h : t = i + j
  · subst h
    rw [if_pos rfl, partT, if_neg (by omega), E.add_zero, partT, if_pos (by omega), show i + j - i = j by omega]
  · rw [if_neg h, partT, partT]
    congr 1
    by_cases h1 : i ≤ t ∧ t < i + j
    · rw [if_pos h1, if_pos (by omega)]
    · rw [if_neg h1, if_neg (by omega)]
theorem zeros_ofS (N : Nat) : zrow (.int .u8 0) N = (bs (ofS N S.zero)).toArray := by
  rw [← Array.toList_inj, zrow_list, List.toList_toArray]
  apply List.ext_getElem?
  intro j
  by_cases h : j < N
  · rw [ofS_getb N _ j h, List.getElem?_replicate, if_pos h]; rfl
  · rw [List.getElem?_eq_none (by simp; omega), List.getElem?_eq_none (by rw [bs_ofS_len]; omega)]
set_option maxHeartbeats 2000000 in
theorem polyTimes_n (A B : Option Addr) (n m ca cb : Nat) (p q : List E) (w : World) (hn : p.length = n) (hm : q.length = m) (hr : Rd w A (bs p)) (hs : Rd w B (bs q)) (hlen : n + m ≤ 281474976710656) :
    Calls Try.prog 41 #[.slice A n ca, .slice B m cb] w fun e w' => ∃ v, e = .returned v ∧ Own w' w.heap.size 34 v (bs (timesL p q)) ∧ Ext w w' := by
  have hmk := make_elems (n + m) hlen
  rw [zeros_ofS, Int.natCast_add] at hmk
  have HN := Lib.hid hn
  have HM := Lib.hid hm
  have HT := Lib.hid (show trim (ofS (n + m) (S.mul (ser p) (ser q))) = timesL p q by rw [timesL, hn, hm])
  have HA := Lib.hid (show partS p q n = S.mul (ser p) (ser q) by rw [← hn]; exact partS_all p q)
  have H0 := Lib.hid (partS_zero p q)
  clear hn hm
  go_enter Try.func41, Try.ntmps41
  go_wp2_with fail
  go_loopw [18] (fun i wr => ∃ k : Nat, k ≤ n ∧ i = .int .i64 k ∧ Ext w wr ∧ Blk wr w.heap.size 34 (bs (ofS (n + m) (partS p q k))).toArray) (fun i _ => n - (intOf i).toNat)
  case atStart => exact ⟨0, by omega, rfl, (Ext.refl _).alloc _, by rw [H0.out]; exact Blk.new _ _ _⟩
  case round =>
    obtain ⟨i, hi, rfl, hx, hb⟩ := hrel
    by_cases hlt : i < n
    · have hip : i < p.length := by have := HN.out; omega
      obtain ⟨ad, rfl, hc1⟩ := (hr.ext hx).byte hip
      rw [← ser_at p i hip] at hc1
      have HB := Lib.hid hb
      clear hb
      by_cases h0 : ser p i = 0
      · have hd := decide_eq_true h0
        have hsk := partS_skip p q i h0
        have HB' := Lib.hid (show Blk wr w.heap.size 34 (bs (ofS (n + m) (partS p q (i + 1)))).toArray by rw [hsk]; exact HB.out)
        clear h0 hsk
        go_wp2_with (go_at_call 85; with_reducible refine (isZero_any _ _).mono ?_; rintro e w' ⟨rfl, rfl⟩)
        go_roundw
        case rel => exact ⟨i + 1, by omega, by go_num, hx, HB'.out⟩
        case measure => simp [intOf]; omega
      · have hd := decide_eq_false h0
        clear h0
        have HB' := Lib.hid (show Blk wr w.heap.size 34 (bs (ofS (n + m) (partT p q i 0))).toArray by rw [partT_zero]; exact HB.out)
        have HP := Lib.hid (show partT p q i m = partS p q (i + 1) by rw [← HM.out]; exact partT_all p q i)
        obtain ⟨wo, hwo⟩ : ∃ wo : World, wo = wr := ⟨_, rfl⟩
        go_wp2_with (go_at_call 85; with_reducible refine (isZero_any _ _).mono ?_; rintro e w' ⟨rfl, rfl⟩)
        clear HB
        go_loopw [27] (fun jj wr => ∃ j : Nat, j ≤ m ∧ jj = .int .i64 j ∧ Ext w wr ∧ Blk wr w.heap.size 34 (bs (ofS (n + m) (partT p q i j))).toArray) (fun jj _ => m - (intOf jj).toNat)
        case atStart => exact ⟨0, by omega, rfl, hx, HB'.out⟩
        case round =>
          obtain ⟨j, hj, rfl, hx2, hb2⟩ := hrel
          clear HB' hwo hc1 hx
          by_cases hlt2 : j < m
          · have hjq : j < q.length := by have := HM.out; omega
            obtain ⟨bd, rfl, hc2⟩ := (hs.ext hx2).byte hjq
            rw [← ser_at q j hjq] at hc2
            have hc3 : wr.cell? ⟨w.heap.size, i + j, none⟩ = some (.int .u8 ((partT p q i j (i + j)).val : Int)) := (hb2.cell (i + j)).trans (by rw [List.getElem?_toArray]; exact ofS_getb _ _ _ (by omega))
            have hf := hb2.frozen (i + j)
            have hb3 := hb2.set_ (i + j) (.int .u8 ((partT p q i j (i + j) + ser p i * ser q j).val : Int))
            rw [List.setIfInBounds_toArray, ofS_setb, partT_step p q n i j] at hb3
            have HB3 := Lib.hid hb3
            have hx3 := hx2.new (p := ⟨w.heap.size, i + j, none⟩) (Nat.le_refl _) (.int .u8 ((partT p q i j (i + j) + ser p i * ser q j).val : Int))
            clear hb2 hb3
            have hij : (i : Int) + (j : Int) < (n : Int) + (m : Int) := by omega
            have hij1 : i + j < n + m := by omega
            have hij2 : (i : Int) + (j : Int) < ((n + m : Nat) : Int) := by omega
            have hij0 : (0 : Int) ≤ (i : Int) + (j : Int) := by omega
            go_wp2_with fail
            have hw1 : IntKind.i64.wrap ((i : Int) + (j : Int)) = (i : Int) + (j : Int) := IntWalk.i64_in _ (by omega)
            have hw3 : ((i : Int) + (j : Int)).toNat = i + j := by omega
            go_region_with (first | (go_at_call 58; with_reducible refine (times_any _ _ _).mono ?_; rintro e w' ⟨rfl, rfl⟩) | (go_at_call 57; with_reducible refine (plus_any _ _ _).mono ?_; rintro e w' ⟨rfl, rfl⟩))
            all_goals
              clear hw1 hw3
              go_wp2
              go_roundw
              case rel => exact ⟨j + 1, by omega, by go_num, hx3.drew, HB3.out.drew⟩
              case measure => simp [intOf]; omega
          · obtain rfl : j = m := by omega
            have HB2 := Lib.hid (show Blk wr w.heap.size 34 (bs (ofS (n + j) (partS p q (i + 1)))).toArray by rw [← HP.out]; exact hb2)
            clear hb2
            go_wp2
            go_roundw
            case rel => exact ⟨i + 1, by omega, by go_num, hx2, HB2.out⟩
            case measure => simp [intOf]; omega
    · obtain rfl : i = n := by omega
      rw [HA.out] at hb
      obtain ⟨ho, hrd, hd⟩ := own_trim (B := w.heap.size) hb (Nat.le_refl _) (by simp only [maxLen]; omega)
      have HL := Lib.hid (ofS_length (i + m) (S.mul (ser p) (ser q)))
      generalize hL : ofS (i + m) (S.mul (ser p) (ser q)) = L at ho hrd hd HL
      have HLL := Lib.hid hL
      clear hb hL
      go_wp2_with fail
      refine (degree_n _ (i + m) L _ _ HL.out hrd (by omega)).mono ?_
      rintro e w' ⟨rfl, rfl⟩
      go_wp2
      go_ret
      exact ⟨_, rfl, by rw [← HT.out, HLL.out]; exact ho, hx⟩
theorem Own.take {w : World} {B : Nat} {T : TypeId} {A : Option Addr} {n cap : Nat} {xs : List Value} (h : Own w B T (.slice A n cap) xs) (m : Nat) (hm : m ≤ n) : Own w B T (.slice A m cap) (xs.take m) := by
  have hn := h.len
  rcases h.form with ⟨hv, hx⟩ | ⟨g, c, hv, _⟩
  · injection hv with h1 h2 h3
    subst h1; subst h3; subst hx
    obtain rfl : m = 0 := by omega
    exact Own.nil _ _ _
  · injection hv with h1 h2 h3
    subst h1
    obtain ⟨hB, cs, hb, hs, _, hle, hmx, ht⟩ := h.blk
    have := hb.own (B := B) (n := m) (cap := cap) hB (by omega) hmx hs
    have e : cs.toList.take m = xs.take m := by
      rw [← ht, List.take_take, Nat.min_eq_left (by omega)]
    rwa [e] at this
def oddTo (f : S) (k : Nat) : S := fun i => if i < k ∧ i % 2 = 1 then 0 else f i
theorem oddTo_zero (f : S) : oddTo f 0 = f := funext fun i => by rw [oddTo, if_neg (by omega)]
theorem oddTo_odd (f : S) (k : Nat) (h : k % 2 = 1) : upd (oddTo f k) k 0 = oddTo f (k + 1) := funext fun i => by
  rw [upd, oddTo, oddTo]
  by_cases h1 : i = k
  · subst h1; rw [if_pos rfl, if_pos (by omega)]
  · rw [if_neg h1]
    by_cases h2 : i < k ∧ i % 2 = 1
    · rw [if_pos h2, if_pos (by omega)]
    · rw [if_neg h2, if_neg (by omega)]
theorem oddTo_even (f : S) (k : Nat) (h : k % 2 ≠ 1) : oddTo f k = oddTo f (k + 1) := funext fun i => by
  rw [oddTo, oddTo]
  by_cases h2 : i < k ∧ i % 2 = 1
  · rw [if_pos h2, if_pos (by omega)]
  · rw [if_neg h2, if_neg (by omega)]
theorem derive_all (p : List E) (N : Nat) (h : p.length = N + 1) : trim (ofS N (oddTo (ser (p.drop 1)) N)) = deriveL p := by
  rw [deriveL, h, Nat.add_sub_cancel]
  congr 1
  apply ofS_congr
  intro i hi
  simp only [oddTo, deriveS]
  have e : ser (p.drop 1) i = ser p (i + 1) := by simp only [ser, List.getElem?_drop, Nat.add_comm 1 i]
  by_cases h2 : i % 2 = 1
  · rw [if_pos ⟨hi, h2⟩, if_neg (by omega)]
  · rw [if_neg (by omega), if_pos (by omega), e]
set_option maxHeartbeats 2000000 in
theorem polyDerive_n (A : Option Addr) (n cap : Nat) (p : List E) (w : World) (hn : p.length = n) (hr : Rd w A (bs p)) (hcap : n ≤ cap) (hlen : n ≤ 140737488355328) (hmc : cap ≤ maxLen) :
    Calls Try.prog 43 #[.slice A n cap] w fun e w' => ∃ v, e = .returned v ∧ Own w' w.heap.size 34 v (bs (deriveL p)) ∧ Ext w w' := by
  unfold maxLen at hmc
  rcases Nat.eq_zero_or_pos n with h0 | h0
  · subst h0
    obtain rfl : p = [] := List.eq_nil_of_length_eq_zero hn
    go_enter Try.func43, Try.ntmps43
    go_wp2
    go_ret
    exact ⟨_, rfl, Own.nil _ _ _, Ext.refl _⟩
  obtain ⟨N, rfl⟩ : ∃ N, n = N + 1 := ⟨n - 1, by omega⟩
  have HT := Lib.hid (derive_all p N hn)
  have hd1 : (p.drop 1).length = N := by rw [List.length_drop]; omega
  have hrc := hr.cut (k := 1) (cap := cap) (by rw [bs_length]; omega) (by rw [bs_length]; omega)
  rw [← bs_drop] at hrc
  have hN1 : ((((N + 1 : Nat) : Int)) == 0) = false := by rw [beq_eq_false_iff_ne]; omega
  have hN2 : ((N : Int) + 1 == 0) = false := by rw [beq_eq_false_iff_ne]; omega
  obtain ⟨A', hA', HK⟩ : ∃ A', A' = (if cap = 1 then A else Option.map (fun x => (⟨x.block, x.off + 1, none⟩ : Addr)) A) ∧ ∀ w', Ext w w' →
      Calls Try.prog 87 #[.slice A' N (cap - 1)] w' fun e w'' => ∃ v, e = .returned v ∧ Own w'' w'.heap.size 34 v (bs (p.drop 1)) ∧ Ext w' w'' :=
    ⟨_, rfl, fun w' e => clone_n _ N (p.drop 1) (cap - 1) w' hd1 (by
      have := hrc.ext e
      simpa [Addr.add] using this) (by omega)⟩
  have h1c : 1 ≤ cap := by omega
  have hdl := Lib.hid (ofS_ser (p.drop 1))
  rw [hd1] at hdl
  have HD := Lib.hid hd1
  have HK' := Lib.hid HK
  clear hn hr hrc hd1 HK
  by_cases hc1 : cap = 1
  · subst hc1
    rw [if_pos rfl] at hA'
    subst hA'
    obtain rfl : N = 0 := by omega
    have hdg : dg ([] : List E) = 0 := rfl
    have HE := Lib.hid (show deriveL p = [] by rw [← HT.out]; rfl)
    go_enter Try.func43, Try.ntmps43
    go_wp2_with fail
    refine (HK'.out _ (Ext.refl _)).mono ?_
    rintro e w1 ⟨v, rfl, ho, hx⟩
    have hd0 : p.drop 1 = [] := List.eq_nil_of_length_eq_zero HD.out
    rw [hd0] at ho
    obtain ⟨A1, c1, rfl, ho1, hr1, -, -⟩ := ho.bytes
    clear ho hd0
    simp only [List.length_nil] at ho1 ⊢
    go_wp2_with fail
    go_loop [13] (fun i => i = .int .i64 0) (fun _ => 0)
    case atStart => rfl
    case round =>
      subst hrel
      go_wp2_with fail
      refine (degree_n A1 0 [] _ _ rfl hr1 (by omega)).mono ?_
      rintro e w' ⟨rfl, rfl⟩
      go_wp2
      go_ret
      exact ⟨_, rfl, by rw [HE.out]; exact ho1, hx⟩
  · rw [if_neg hc1] at hA'
    subst hA'
    go_enter Try.func43, Try.ntmps43
    go_wp2_with fail
    refine (HK'.out _ (Ext.refl _)).mono ?_
    rintro e w1 ⟨v, rfl, ho, hx⟩
    rw [← hdl.out, ← oddTo_zero (ser (p.drop 1))] at ho
    obtain ⟨A1, c1, rfl, ho1, -, hlc, hmc1⟩ := ho.bytes
    rw [ofS_length] at ho1 hlc
    rw [ofS_length]
    generalize ser (p.drop 1) = f at HT ho1
    simp only [maxLen] at hmc1
    clear ho hdl HK' HD
    go_wp2_with fail
    go_loopw [13] (fun i wr => ∃ k : Nat, k ≤ N ∧ i = .int .i64 k ∧ Ext w wr ∧ Own wr w.heap.size 34 (.slice A1 N c1) (bs (ofS N (oddTo f k)))) (fun i _ => N - (intOf i).toNat)
    case atStart => exact ⟨0, by omega, rfl, hx, ho1⟩
    case round =>
      obtain ⟨k, hk, rfl, hx2, ho2⟩ := hrel
      clear hx ho1
      by_cases hlt : k < N
      · obtain ⟨g, c', hv, hg, -, -, -⟩ := ho2.some_ (by intro e; have := congrArg List.length e; rw [bs_ofS_len] at this; simp at this; omega)
        injection hv with hA1 hA2 hA3
        clear hA2 hA3
        subst hA1
        have hc2 := ho2.cell (ofS_getb N (oddTo f k) k hlt)
        have hf := ho2.frozen k
        by_cases hodd : k % 2 = 1
        · have hkm : ((k : Int) % 2 == 1) = true := by rw [beq_iff_eq]; omega
          have h3 := ho2.set k (.int .u8 ((0 : E).val : Int))
          rw [ofS_setb, oddTo_odd f k hodd] at h3
          have H3 := Lib.hid h3
          have hx3 := hx2.new (p := ⟨g, k, none⟩) hg (.int .u8 0)
          clear h3 ho2
          go_wp2
          go_roundw
          case rel => exact ⟨k + 1, by omega, by go_num, hx3, H3.out⟩
          case measure => simp [intOf]; omega
        · have hkm : ((k : Int) % 2 == 1) = false := by rw [beq_eq_false_iff_ne]; omega
          rw [oddTo_even f k hodd] at ho2
          have H3 := Lib.hid ho2
          clear ho2 hc2
          go_wp2
          go_roundw
          case rel => exact ⟨k + 1, by omega, by go_num, hx2, H3.out⟩
          case measure => simp [intOf]; omega
      · have hkN : k = N := by omega
        rw [hkN] at ho2
        clear hkN
        have hrd := ho2.rd
        have hd := dg_le (ofS N (oddTo f N))
        rw [ofS_length] at hd
        have ho3 := ho2.take (dg (ofS N (oddTo f N))) hd
        rw [← bs_take] at ho3
        have HL := Lib.hid (ofS_length N (oddTo f N))
        generalize hL : ofS N (oddTo f N) = L at ho3 hrd hd HL HT
        have hdc : dg L ≤ c1 := by omega
        clear ho2 hL
        go_wp2_with fail
        refine (degree_n A1 N L _ _ HL.out hrd (by omega)).mono ?_
        rintro e w' ⟨rfl, rfl⟩
        go_wp2
        go_ret
        exact ⟨_, rfl, by rw [← HT.out]; exact ho3, hx2⟩
end Go.Proofs.Ytemnlcfabaocbaa
/-
  slices.Backward over bytes: its closure stops, and what it hands out. (After the worked proof of slices.All.)
-/
namespace Go.Proofs.Ytemnlcfabaocbaa
open Go.RowKit Go.Shelf Gf
set_option maxRecDepth 100000
set_option linter.unusedVariables false
attribute [local go_sem] Oper.semAt_some

/-- What has come when k rounds are over: the last k indices, falling, each with a value that fits. -/
def Back (len : Nat) (ok : Nat → E → Prop) (k : Nat) (ys : List (Nat × E)) : Prop := ys.length = k ∧ ∀ j, j < k → ∃ z, ys[j]? = some (len - 1 - j, z) ∧ ok (len - 1 - j) z
theorem Back.nil (len : Nat) (ok : Nat → E → Prop) : Back len ok 0 [] := ⟨rfl, fun j h => absurd h (by omega)⟩
theorem Back.snoc {len : Nat} {ok : Nat → E → Prop} {k m : Nat} {ys : List (Nat × E)} {z : E} (h : Back len ok k ys) (e : len - 1 - k = m) (ho : ok m z) : Back len ok (k + 1) (ys ++ [(m, z)]) := by
  subst e
  refine ⟨by simp [h.1], fun j hj => ?_⟩
  by_cases e : j < k
  · rw [List.getElem?_append_left (by rw [h.1]; exact e)]; exact h.2 j e
  · obtain rfl : j = k := by omega
    exact ⟨z, by rw [List.getElem?_append_right (by rw [h.1]; exact Nat.le_refl _), h.1, Nat.sub_self]; rfl, ho⟩

abbrev Item (len : Nat) := {x : Nat × E // x.1 < len}
def plain {len : Nat} (ys : List (Item len)) : List (Nat × E) := ys.map (·.1)
theorem plain_snoc {len : Nat} (ys : List (Item len)) (y : Item len) : plain (ys ++ [y]) = plain ys ++ [y.1] := by simp [plain]
theorem plain_length {len : Nat} (ys : List (Item len)) : (plain ys).length = ys.length := by simp [plain]
abbrev encs {len : Nat} (x : Item len) : Array Value := #[Value.int .i64 (x.1.1 : Int), Value.int .u8 (x.1.2.val : Int)]
/-- What the iterator looks at: the box with the slice, the slice's cells. -/
structure Seen (Bs len cap : Nat) (A : Option Addr) (ok : Nat → E → Prop) (W : World) : Prop where
  box : W.cell? ⟨Bs, 0, none⟩ = some (.slice A len cap)
  row : ∀ k, k < len → ∃ ad z, A = some ad ∧ ok k z ∧ W.cell? (ad.add k) = some (.int .u8 (z.val : Int))

set_option maxHeartbeats 2000000 in
theorem back1_in (F : Fence) (n : Nat) (h7 : F.fn 118) (hro : F.round = none) (hn : 1 ≤ n) (l Bs len cap : Nat) (A : Option Addr) (ok : Nat → E → Prop) (hlen : len ≤ maxLen)
    (J Jx : List (Item len) → World → Prop)
    (hY : ∀ pre x W, J pre W → pre.length < len → YieldAt F (n - 1) Try.prog l (encs x) W fun e W' =>
      (e = .returned (.bool true) ∧ J (pre ++ [x]) W' ∧ (Seen Bs len cap A ok W → Seen Bs len cap A ok W')) ∨ (e = .returned (.bool false) ∧ Jx (pre ++ [x]) W'))
    (W : World) (hQ0 : Seen Bs len cap A ok W) (h0 : J [] W) :
    CallsIn F n Try.prog 118 #[.func (.yield l) #[] #[], .pointer (some ⟨Bs, 0, none⟩)] W fun e W' => (∃ v, e = .returned v) ∧
      ((∃ ys, Back len ok len (plain ys) ∧ J ys W') ∨ (∃ pre, (∃ k, k ≤ len ∧ Back len ok k (plain pre)) ∧ Jx pre W')) := by
  refine callsIn_of_wp Try.func118 rfl h7 ?_ hro
  simp only [Try.ntmps118, List.size_toArray, List.length_cons, List.length_nil, Nat.reduceAdd, Nat.reduceSub, Array.replicate_succ, Array.replicate_zero, List.push_toArray, List.append_toArray, List.nil_append, List.cons_append]
  have hbx := hQ0.box
  have hm := hlen
  simp only [maxLen] at hm
  gi_wp2
  gi_loopw [3] (fun i wr => ∃ (m k : Nat) (ys : List (Item len)), m + k = len ∧ i = .int .i64 ((m : Int) - 1) ∧ Back len ok k (plain ys) ∧ J ys wr ∧ Seen Bs len cap A ok wr)
    (fun i _ => (intOf i + 1).toNat)
  case atStart => exact ⟨len, 0, [], by omega, rfl, Back.nil _ _, h0, hQ0⟩
  case round =>
    obtain ⟨m, k, ys, hmk, rfl, hB, hJs, hS⟩ := hrel
    have hbx' := hS.box
    by_cases hlt : 0 < m
    · obtain ⟨m, rfl⟩ : ∃ m', m = m' + 1 := ⟨m - 1, by omega⟩
      have e1 : (((m + 1 : Nat) : Int) - 1) = (m : Int) := by omega
      have hml : m < len := by omega
      rw [e1]
      obtain ⟨ad, z, rfl, hok, hc⟩ := hS.row m hml
      obtain ⟨fn, tmps, assign, body, hy, hR⟩ := hY _ ⟨(m, z), hml⟩ wr hJs (by rw [← plain_length, hB.1]; omega)
      have hzl := z.lt
      gi_wp2
      refine hR.mono ?_
      rintro e W3 (⟨rfl, hJ3, hk3⟩ | ⟨rfl, hJx3⟩)
      · have hw : IntKind.i64.wrap ((m : Int) - 1) = (m : Int) - 1 := IntWalk.i64_in _ (by omega)
        gi_wp2
        go_roundw
        case rel => exact ⟨m, k + 1, _, by omega, by simp, (by rw [plain_snoc]; exact hB.snoc (by omega) hok), hJ3, hk3 hS⟩
        case measure => simp [intOf]
      · gi_wp2
        refine bodyPost_ret (results_none rfl _ _ _) rfl ?_
        exact ⟨⟨_, rfl⟩, .inr ⟨_, ⟨k + 1, by omega, by rw [plain_snoc]; exact hB.snoc (by omega) hok⟩, hJx3⟩⟩
    · obtain rfl : m = 0 := by omega
      obtain rfl : k = len := by omega
      have e1 : (((0 : Nat) : Int) - 1) = -1 := rfl
      rw [e1]
      gi_wp2
      go_end0
      exact ⟨⟨_, rfl⟩, .inl ⟨_, hB, hJs⟩⟩

set_option maxHeartbeats 1000000 in
/-- slices.Backward(s): the slice value is boxed; the function value captures the box. -/
theorem back_in (F : Fence) (n : Nat) (h5 : F.fn 88) (hro : F.round = none) (a : Option Addr) (len cap : Nat) (w : World) :
    CallsIn F n Try.prog 88 #[.slice a len cap] w fun e w' => e = .returned (.func (.func 118) #[] #[.pointer (some ⟨w.heap.size, 0, none⟩)]) ∧ w' = w.alloc (.cells #[.slice a len cap] 26) := by
  refine callsIn_of_wp Try.func88 rfl h5 ?_ hro
  simp only [Try.ntmps88, List.size_toArray, List.length_cons, List.length_nil, Nat.reduceAdd, Nat.reduceSub, Array.replicate_succ, Array.replicate_zero, List.push_toArray, List.append_toArray, List.nil_append, List.cons_append]
  gi_wp2
  go_ret
  exact ⟨rfl, rfl⟩

/-- What the iterator hands out: all, falling; or the first k of them. -/
theorem back_stops (F : Fence) (n : Nat) (h7 : F.fn 118) (hro : F.round = none) (hn : 1 ≤ n) (Bs len cap : Nat) (A : Option Addr) (ok : Nat → E → Prop) (hlen : len ≤ maxLen) (w : World)
    (hQ : ∀ W, Below w.heap.size w W → Seen Bs len cap A ok W) :
    SeqStopsK F n Try.prog 118 #[.pointer (some ⟨Bs, 0, none⟩)] encs (fun A' B' => Seen Bs len cap A ok A' → Seen Bs len cap A ok B') (fun ys : List (Item len) => Back len ok len (plain ys))
      (fun pre => ∃ k, k ≤ len ∧ Back len ok k (plain pre)) len w := fun l J Jx W hW _ _ hY h0 =>
  back1_in F n h7 hro hn l Bs len cap A ok hlen J Jx hY W (hQ W hW) h0

theorem Seen.put {Bs len cap : Nat} {A : Option Addr} {ok : Nat → E → Prop} {W : World} {l : Nat} {o : Obj} (o' : Obj) (hl : W.heap[l]? = some o) (ho : o.isCells = false) (h : Seen Bs len cap A ok W) : Seen Bs len cap A ok (W.putObj l o') := by
  have hk : ∀ {p : Addr} {v : Value}, W.cell? p = some v → (W.putObj l o').cell? p = some v := fun h => cell_kept h (grownBy_putObj' W l o') (fun r e => by cases e; exact ⟨_, hl, ho⟩)
  exact ⟨hk h.box, fun k hk' => by obtain ⟨ad, z, e, ho, hc⟩ := h.row k hk'; exact ⟨ad, z, e, ho, hk hc⟩⟩
theorem Seen.setCell {Bs len cap : Nat} {A : Option Addr} {ok : Nat → E → Prop} {W : World} {p : Addr} (hb : Bs ≠ p.block) (hA : 0 < len → ∀ ad, A = some ad → ad.block ≠ p.block) (v : Value) (h : Seen Bs len cap A ok W) : Seen Bs len cap A ok (W.setCell p v) := by
  refine ⟨(World.cell?_setCell_other W p _ v (fun e => hb (by rw [e]))).trans h.box, fun k hk => ?_⟩
  obtain ⟨ad, z, rfl, ho, hc⟩ := h.row k hk
  exact ⟨ad, z, rfl, ho, (World.cell?_setCell_other W p _ v (fun e => hA (by omega) ad rfl (by rw [e, block_of_add]))).trans hc⟩
theorem Seen.drew {Bs len cap : Nat} {A : Option Addr} {ok : Nat → E → Prop} {W : World} (h : Seen Bs len cap A ok W) : Seen Bs len cap A ok W.drew := ⟨h.box, h.row⟩
end Go.Proofs.Ytemnlcfabaocbaa
/-
  The walks of layer 2: a polynomial's value.
-/
namespace Go.Proofs.Ytemnlcfabaocbaa
open Go.RowKit Go.Shelf Gf
set_option maxRecDepth 100000
set_option linter.unusedVariables false
attribute [local go_sem] Oper.semAt_some

def horner (x : E) (ys : List (Nat × E)) : E := ys.foldl (fun v y => v * x + y.2) 0
theorem horner_snoc (x : E) (ys : List (Nat × E)) (y : Nat × E) : horner x (ys ++ [y]) = horner x ys * x + y.2 := by simp [horner]
theorem horner_back (p : List E) (x : E) {k : Nat} {ys : List (Nat × E)} (hk : k ≤ p.length) (h : Back p.length (fun i z => p[i]? = some z) k ys) : horner x ys = evL (p.drop (p.length - k)) x := by
  induction k generalizing ys with
  | zero =>
    have : ys = [] := List.length_eq_zero_iff.1 h.1
    subst this
    rw [Nat.sub_zero, List.drop_length]; rfl
  | succ k ih =>
    obtain ⟨z, hz, ho⟩ := h.2 k (by omega)
    have hl := h.1
    have e : ys = ys.take k ++ [(p.length - 1 - k, z)] := by
      have h2 : k < ys.length := by omega
      have h3 := List.take_succ_eq_append_getElem h2
      rw [List.take_of_length_le (by omega)] at h3
      have h4 : ys[k] = (p.length - 1 - k, z) := by
        rw [List.getElem?_eq_getElem h2] at hz
        exact Option.some.inj hz
      rw [h4] at h3
      exact h3
    have ht : Back p.length (fun i z => p[i]? = some z) k (ys.take k) := by
      refine ⟨by rw [List.length_take]; omega, fun j hj => ?_⟩
      obtain ⟨z', hz', ho'⟩ := h.2 j (by omega)
      exact ⟨z', by rw [List.getElem?_take_of_lt hj]; exact hz', ho'⟩
    rw [e, horner_snoc, ih (by omega) ht]
    have hd : p.length - (k + 1) < p.length := by omega
    have hd2 : p.length - (k + 1) + 1 = p.length - k := by omega
    have hd3 : p.length - 1 - k = p.length - (k + 1) := by omega
    rw [evL_drop p x _ hd, hd2]
    rw [hd3, List.getElem?_eq_getElem hd] at ho
    rw [Option.some.inj ho, E.mul_comm, E.add_comm]

set_option maxHeartbeats 4000000 in
theorem polyAt_n (A : Option Addr) (n cap : Nat) (p : List E) (x : E) (w : World) (hn : p.length = n) (hr : Rd w A (bs p)) (hlen : n ≤ maxLen) :
    Calls Try.prog 35 #[.slice A n cap, .int .u8 (x.val : Int)] w fun e w' => e = .returned (.int .u8 ((evL p x).val : Int)) ∧ Ext w w' := by
  obtain ⟨N, hN⟩ : ∃ N : Nat, 3 ≤ N := ⟨3, by decide⟩
  have h1 : 1 ≤ N := by omega
  have h3 : 1 ≤ N - 1 - 1 := by omega
  refine (callsIn_wide (n := N)).1 ?_
  obtain ⟨F, hF⟩ : ∃ F : Fence, F = Fence.wide := ⟨_, rfl⟩
  have hro : F.round = none := by rw [hF]; rfl
  have hfn : ∀ f, F.fn f := fun f => by rw [hF]; trivial
  have hci : ∀ {f : FuncId} {args : Array Value} {w : World} {R : Ending → World → Prop} (n l : Nat), Calls Try.prog f args w R → CallsIn (F.inRound l) n Try.prog f args w R := fun n l h => CallsIn.inRound l (by rw [hF]; exact callsIn_wide.2 h)
  rw [← hF]
  clear hF
  refine callsIn_of_wp_marks Try.func35 rfl (hfn _) ?_ hro
  simp only [Try.ntmps35, List.size_toArray, List.length_cons, List.length_nil, Nat.reduceAdd, Nat.reduceSub, Array.replicate_succ, Array.replicate_zero, List.push_toArray, List.append_toArray, List.nil_append, List.cons_append]
  have hx := x.lt
  gi_wp2_with (gi_at_call 88; refine (back_in F (N - 1) (hfn _) hro _ _ _ _).mono ?_; rintro e w' ⟨rfl, rfl⟩)
  have bX := Boxed.new w 34 (.int .u8 (x.val : Int))
  have bV := Boxed.new (w.alloc (.cells #[.int .u8 (x.val : Int)] 34)) 34 (.int .u8 0)
  have bN := Boxed.new ((w.alloc (.cells #[.int .u8 (x.val : Int)] 34)).alloc (.cells #[.int .u8 0] 34)) 26 (.slice A n cap)
  rw [World.size_alloc, World.size_alloc] at bN
  rw [World.size_alloc] at bV
  have hB0 : Ext w (((w.alloc (.cells #[.int .u8 (x.val : Int)] 34)).alloc (.cells #[.int .u8 0] 34)).alloc (.cells #[.slice A n cap] 26)) := (((Ext.refl w).alloc _).alloc _).alloc _
  have hA : ∀ k, k < n → ∃ ad, A = some ad ∧ ad.block < w.heap.size := fun k hk => hr.lt (by rw [bs_length]; omega)
  have hseen : ∀ W, Ext w W → W.cell? ⟨w.heap.size + 1 + 1, 0, none⟩ = some (.slice A n cap) → Seen (w.heap.size + 1 + 1) n cap A (fun i z => p[i]? = some z) W := fun W hW hbox => ⟨hbox, fun k hk => by
    have hkp : k < p.length := by omega
    obtain ⟨ad, rfl, hc⟩ := (hr.ext hW).byte hkp
    exact ⟨ad, p[k], rfl, List.getElem?_eq_getElem hkp, hc⟩⟩
  refine wpIn_rangeFunc_ownG hro h1 (gf := 118) (lb := #[.pointer (some ⟨w.heap.size + 1 + 1, 0, none⟩)]) rfl (hfn _) (enters_of Try.func118 (by kernel_rfl) rfl)
    (back_stops F (N - 1) (hfn _) hro (by omega) (w.heap.size + 1 + 1) n cap A (fun i z => p[i]? = some z) hlen _ (fun W hW => hseen W (hB0.trans (hW.mono (by simp))) ((hW.cell (p := ⟨w.heap.size + 1 + 1, 0, none⟩) (by simp)).trans bN.cell)))
    (fun h k hq => k (h hq)) (fun W l o o' _ hl ho _ hq => hq.put o' hl ho) (Below.refl _ _) ?hps
    (fun pre W => ((W.cell? ⟨w.heap.size + 1, 0, none⟩ = some (.int .u8 ((horner x (plain pre)).val : Int)) ∧ W.frozen? ⟨w.heap.size + 1, 0, none⟩ = false) ∧ W.cell? ⟨w.heap.size, 0, none⟩ = some (.int .u8 (x.val : Int))) ∧ Below w.heap.size w W)
    (fun _ _ _ => False)
    (OwnFrom.and (Own.from (fun s A B row hs hg hr => ⟨⟨cell_kept hs.1.1 hg hr, (frozen_kept hs.1.1 hg hr).trans hs.1.2⟩, cell_kept hs.2 hg hr⟩) _) (ownFrom_below (Nat.le_refl _) (by simp; omega)))
    (fun _ _ _ _ _ hs _ _ => hs)
    ⟨⟨⟨(bV.alloc _).cell, (bV.alloc _).frozen⟩, ((bX.alloc _).alloc _).cell⟩, hB0⟩
    (fun y => { tmps := #[.slice A n cap, .int .u8 (x.val : Int), undef, .pointer (some ⟨w.heap.size, 0, none⟩), .int .u8 0, .pointer (some ⟨w.heap.size + 1, 0, none⟩), undef, .int .u8 (y.1.2.val : Int), .slice A n cap, .func (.func 118) #[] #[.pointer (some ⟨w.heap.size + 1 + 1, 0, none⟩)], .int .i64 (y.1.1 : Int), .int .u8 (y.1.2.val : Int), undef, undef, undef, undef, undef, undef], defers := [] }) ?assign ?body ?done ?stop
  case hps => exact fun _ => rfl
  case assign =>
    intro l y W K hK
    gi_wp2
    exact hK
  case body =>
    rintro l pre y W ⟨⟨⟨hc, hf⟩, hcx⟩, hB⟩ _
    have hy := y.1.2.lt
    gi_wp2_with (first | (gi_at_call 58; with_reducible refine (hci _ l (times_any _ _ _)).mono ?_; rintro e w' ⟨rfl, rfl⟩) | (gi_at_call 57; with_reducible refine (hci _ l (plus_any _ _ _)).mono ?_; rintro e w' ⟨rfl, rfl⟩))
    exact ⟨(KeepsOthers.setCell _ _ _).from _, fun hq => hq.setCell (p := ⟨w.heap.size + 1, 0, none⟩) (by simp) (fun h0 ad e => by obtain ⟨ad', e', hb⟩ := hA 0 h0; rw [e] at e'; obtain rfl := Option.some.inj e'; simp; omega) _,
      ⟨⟨by rw [plain_snoc, horner_snoc]; exact World.cell?_setCell_same' _ _ _ (by rw [hc]; rfl), by rw [World.frozen?_setCell]; exact hf⟩, (World.cell?_setCell_other _ _ _ _ (by simp)).trans hcx⟩, hB.setCell (p := ⟨w.heap.size + 1, 0, none⟩) (by simp) _⟩
  case done =>
    rintro D ys W hD hys ⟨⟨⟨hc, _⟩, _⟩, hB⟩ hK
    gi_wp2
    have hv : horner x (plain ys) = evL p x := by
      subst hn
      have := horner_back p x (Nat.le_refl _) hys
      rw [Nat.sub_self, List.drop_zero] at this
      exact this
    refine ⟨by simp, .inl ⟨_, _, rfl, run_takeDeferred hK, ?_⟩⟩
    refine ⟨_, results_tmp rfl _ _ _, ?_, hB.trans (belowK_b (w := w) (Nat.le_refl _) W D _ _ (by simp at hD; omega) hK rfl rfl)⟩
    rw [← hv]; rfl
  case stop =>
    rintro D c pre W _ _ h _
    exact h.elim
end Go.Proofs.Ytemnlcfabaocbaa
/-
  What the division's rounds come to, in plain terms.
-/
namespace Go.Proofs.Ytemnlcfabaocbaa
open Gf

theorem Back.split {len : Nat} {ok : Nat → E → Prop} {k : Nat} {ys : List (Nat × E)} (h : Back len ok (k + 1) ys) : ∃ z ys', ys = ys' ++ [(len - 1 - k, z)] ∧ Back len ok k ys' ∧ ok (len - 1 - k) z := by
  obtain ⟨z, hz, ho⟩ := h.2 k (by omega)
  have hl := h.1
  have h2 : k < ys.length := by omega
  have h3 := List.take_succ_eq_append_getElem h2
  rw [List.take_of_length_le (by omega)] at h3
  have h4 : ys[k] = (len - 1 - k, z) := by
    rw [List.getElem?_eq_getElem h2] at hz
    exact Option.some.inj hz
  rw [h4] at h3
  refine ⟨z, ys.take k, h3, ⟨by rw [List.length_take]; omega, fun j hj => ?_⟩, ho⟩
  obtain ⟨z', hz', ho'⟩ := h.2 j (by omega)
  exact ⟨z', by rw [List.getElem?_take_of_lt hj]; exact hz', ho'⟩

/-- f with the first i coefficients of c q added from a on. -/
def divT (f : S) (q : List E) (c : E) (a i : Nat) : S := fun t => f t + (if a ≤ t ∧ t < a + i then c * ser q (t - a) else 0)
theorem divT_zero (f : S) (q : List E) (c : E) (a : Nat) : divT f q c a 0 = f := funext fun t => by
  rw [divT, if_neg (by omega), E.add_zero]
theorem divT_step (f : S) (q : List E) (c : E) (a i : Nat) : upd (divT f q c a i) (a + i) (divT f q c a i (a + i) + c * ser q i) = divT f q c a (i + 1) := funext fun t => by
  rw [upd]
  by_cases h : t = a + i
  · subst h
    rw [if_pos rfl, divT, if_neg (by omega), E.add_zero, divT, if_pos (by omega), show a + i - a = i by omega]
  · rw [if_neg h, divT, divT]
    congr 1
    by_cases h1 : a ≤ t ∧ t < a + i
    · rw [if_pos h1, if_pos (by omega)]
    · rw [if_neg h1, if_neg (by omega)]
theorem divT_all {q : List E} {d : Nat} (hq : S.Dlt (ser q) (d + 1)) (f : S) (c : E) (a : Nat) : divT f q c a (d + 1) = S.add f (S.smul c (S.shN a (ser q))) := funext fun t => by
  simp only [divT, S.add, S.smul, S.shN]
  congr 1
  by_cases h : a ≤ t
  · by_cases h2 : t < a + (d + 1)
    · rw [if_pos ⟨h, h2⟩, if_neg (by omega)]
    · rw [if_neg (by omega), if_neg (by omega), hq (t - a) (by omega), E.mul_zero]
  · rw [if_neg (by omega), if_pos (by omega), E.mul_zero]
def dstep (q : List E) (d : Nat) (lead : E) (st : S × S) (a : Nat) : S × S := (divT st.1 q (st.1 (a + d) * lead) a (d + 1), upd st.2 a (st.1 (a + d) * lead))
def dfold (q : List E) (d : Nat) (lead : E) (st : S × S) (ys : List (Nat × E)) : S × S := ys.foldl (fun st y => dstep q d lead st y.1) st
theorem dfold_snoc (q : List E) (d : Nat) (lead : E) (st : S × S) (ys : List (Nat × E)) (y : Nat × E) : dfold q d lead st (ys ++ [y]) = dstep q d lead (dfold q d lead st ys) y.1 := by simp [dfold]
theorem upd_mono (f : S) (a : Nat) (c : E) (h : f a = 0) : upd f a c = S.add f (S.mono c a) := funext fun t => by
  simp only [upd, S.add, S.mono]
  by_cases e : t = a
  · subst e; rw [if_pos rfl, if_pos rfl, h, E.zero_add]
  · rw [if_neg e, if_neg e, E.add_zero]
theorem dfold_ok {ns d : Nat} {ok : Nat → E → Prop} {q : List E} {lead : E} {f0 : S} (hq : S.Dlt (ser q) (d + 1)) (hl : lead * ser q d = 1) (hf : S.Dlt f0 (d + ns)) :
    ∀ (k : Nat) (ys : List (Nat × E)), k ≤ ns → Back ns ok k ys →
      S.add (dfold q d lead (f0, S.zero) ys).1 (S.mul (dfold q d lead (f0, S.zero) ys).2 (ser q)) = f0 ∧ S.Dlt (dfold q d lead (f0, S.zero) ys).1 (d + (ns - k)) ∧
      (∀ i, i < ns - k → (dfold q d lead (f0, S.zero) ys).2 i = 0) ∧ S.Dlt (dfold q d lead (f0, S.zero) ys).2 ns
  | 0, ys, _, h => by
    obtain rfl : ys = [] := List.length_eq_zero_iff.1 h.1
    exact ⟨by show S.add f0 (S.mul S.zero (ser q)) = f0; rw [S.zero_mul, S.add_zero], hf, fun _ _ => rfl, S.dlt_zero _⟩
  | k + 1, ys, hk, h => by
    obtain ⟨z, ys', rfl, hb, _⟩ := h.split
    obtain ⟨h1, h2, h3, h4⟩ := dfold_ok hq hl hf k ys' (by omega) hb
    rw [dfold_snoc]
    generalize dfold q d lead (f0, S.zero) ys' = st at *
    obtain ⟨a, ha⟩ : ∃ a, a = ns - 1 - k := ⟨_, rfl⟩
    have ha1 : a < ns - k := by omega
    have hz := h3 a ha1
    show S.add (dstep q d lead st (ns - 1 - k)).1 _ = _ ∧ _
    rw [← ha]
    simp only [dstep]
    generalize hc : st.1 (a + d) * lead = c
    rw [divT_all hq, upd_mono _ _ _ hz]
    refine ⟨?_, ?_, ?_, ?_⟩
    · rw [S.add_mul, S.mono_mul, S.add_assoc, S.add_comm (S.mul st.2 (ser q)), ← S.add_assoc (S.smul c (S.shN a (ser q))), S.add_self, S.zero_add, h1]
    · intro t ht
      simp only [S.add, S.smul, S.shN]
      by_cases e : t = a + d
      · subst e
        rw [if_neg (by omega), show a + d - a = d by omega, ← hc, E.mul_assoc, hl, E.mul_one, E.add_self]
      · rw [h2 t (by omega), if_neg (by omega), hq (t - a) (by omega), E.mul_zero, E.add_zero]
    · intro i hi
      simp only [S.add, S.mono]
      rw [h3 i (by omega), if_neg (by omega), E.add_zero]
    · intro i hi
      simp only [S.add, S.mono]
      rw [h4 i hi, if_neg (by omega), E.add_zero]
end Go.Proofs.Ytemnlcfabaocbaa
/-
  A region that draws its order, in a round of a range over a function as well: its operations leave the world alone; the last one, that waits for all others, may store.
-/
namespace Go.Proofs.Ytemnlcfabaocbaa
open Go

section
variable {F : Fence} {n : Nat} {P : Program} {ops : Array Oper} {md : Region.Mode} {C : World → Prop}

def noDefer (ops : Array Oper) : Bool := ops.all fun o => match o.op with | .defer _ => false | _ => true
theorem noDefer_spec (h : noDefer ops = true) {i : Nat} {o : Oper} (hi : ops[i]? = some o) : ∀ c, o.op ≠ .defer c := by
  intro c e
  have := Array.all_eq_true_iff_forall_mem.1 h o (Array.mem_of_getElem? hi)
  simp [e] at this

theorem loudOp {o : Oper} {a : Act} {K : Act → Prop} {K' : Act → World → Prop} {Q' : Exit → Act → World → Prop} {w : World} (hnd : ∀ c, o.op ≠ .defer c) (hw : C w) (h : ∀ a w', C w' → K a → K' a w')
    (ha : o.askedIn F P a C) (hh : o.quietIn F n P a C K) : o.wpIn F n P a w K' Q' := by
  obtain ⟨v, h1, h2⟩ := hh
  have h3 := h1 w hw
  refine ⟨ha w hw, ?_⟩
  rw [Oper.semAt_plain F _ _ hnd]
  unfold Oper.quietAtIn at h3
  cases hr : (execOp a.eval o).run P w with
  | halt x w' => rw [hr] at h3; exact h3.elim
  | ok x w' =>
    rw [hr] at h3
    cases x with
    | value u => obtain ⟨e1, e2⟩ := h3; rw [e1, e2]; exact h _ _ hw h2
    | skip => obtain ⟨e1, e2⟩ := h3; rw [e1, Oper.uponIn_skip, ← e2]; exact h _ _ hw h2
    | enter f args =>
      obtain ⟨e1, hd, hc⟩ := h3
      rw [e1]
      exact ⟨hd, hc.mono fun e w'' ⟨he, hw''⟩ => by subst he; exact h _ _ hw'' h2⟩
    | _ => exact h3.elim

theorem loudAt {i : Nat} {a : Act} {K : Act → Prop} {K' : Act → World → Prop} {Q' : Exit → Act → World → Prop} {w : World} (hnd : noDefer ops = true) (hC : C w) (h : ∀ a w', C w' → K a → K' a w')
    (hh : qOpIn F n P ops C i K a) : wpOpIn F n P ops Q' i K' a w := by
  unfold qOpIn at hh
  unfold wpOpIn
  cases ho : ops[i]? with
  | none => rw [ho] at hh; exact h _ _ hC hh
  | some o =>
    rw [ho] at hh
    obtain ⟨ha, hh⟩ := hh
    by_cases hw : Region.wanted o (yielded ops a.tmps) = true
    · simp only [hw, if_true] at hh ⊢
      exact loudOp (noDefer_spec hnd ho) hC h ha hh
    · simp only [hw] at hh ⊢
      exact ⟨ha w hC, h _ _ hC hh⟩

theorem loudAny {Q : Act → Prop} {Q' : Exit → Act → World → Prop} (hnd : noDefer ops = true) (hQ : ∀ a w, C w → Q a → Q' .normal a w) : ∀ (fuel : Nat) (listed : Array Bool) (a : Act) (w : World), C w →
    wpAnyQIn F n P md ops C Q fuel listed a → wpAnyIn F n P md ops Q' fuel listed a w
  | 0, _, _, _, hw, h => ⟨h.1, hQ _ _ hw h.2⟩
  | fuel + 1, _, _, _, hw, h => ⟨fun h0 => hQ _ _ hw (h.1 h0), fun i hi => loudAt hnd hw (fun a' w' hw' => loudAny hnd hQ fuel _ a' w' hw') (h.2 i hi)⟩

/-- The quiet region, in whatever frame. -/
theorem region_quiet {id : Nat} {Q : Exit → Act → World → Prop} {a : Act} {w : World} {l : List Oper} (hm : P.follows .mixedOrders = true) (hB : Region.lexB .any l.toArray = true) (hnd : noDefer l.toArray = true)
    (h : wpQuietIn F n P l.toArray (fun w' => ∃ n, w' = w.drewN n) (fun a' => ∀ w', (∃ n, w' = w.drewN n) → Q .normal a' w') l a) : (Code.region id l.toArray true).wpIn F n P Q a w := by
  simp only [Region.lexB, Bool.and_eq_true] at hB
  refine wpIn_region_any hm (loudAny (C := fun w' => ∃ n, w' = w.drewN n) (Q := fun a' => ∀ w', (∃ n, w' = w.drewN n) → Q .normal a' w') hnd (fun _ w' hw' h => h w' hw') _ _ _ _ ⟨1, rfl⟩ ?_)
  exact wpAnyQIn_lex (md := .any) hB.1 l 0 (Array.replicate l.toArray.size false) a (by simp) (by simpa using hB.2) h

/-! ### A store at the end -/

def mute (s : Oper) : Oper := { s with op := .move (.const undef) }
def muted : List Oper → List Oper
  | [] => []
  | [s] => [mute s]
  | o :: p :: l => o :: muted (p :: l)
theorem muted_snoc (l : List Oper) (s : Oper) : muted (l ++ [s]) = l ++ [mute s] := by
  induction l with
  | nil => rfl
  | cons o l ih =>
    cases l with
    | nil => rfl
    | cons p l => exact congrArg (o :: ·) ih

/-- The last operation bears no guard, lays nothing into a temporary, waits for all others; every edge goes back. -/
def closes (l : List Oper) : Bool := match l.getLast? with
  | none => false
  | some s => s.dst.isNone && s.guard.isNone && (List.range (l.length - 1)).all (fun i => s.after.any fun e => Region.binds .any e && e.on == i) &&
      (List.range l.length).all (fun i => match l[i]? with | some o => o.after.all (fun e => decide (e.on < i)) | none => true)

variable {l : List Oper} {s : Oper}
theorem getElem_mute (i : Nat) : i ≠ l.length → (l ++ [mute s]).toArray[i]? = (l ++ [s]).toArray[i]? := by
  intro h
  simp only [List.getElem?_toArray]
  rcases Nat.lt_or_ge i l.length with h1 | h1
  · rw [List.getElem?_append_left h1, List.getElem?_append_left h1]
  · rw [List.getElem?_eq_none (by simp; omega), List.getElem?_eq_none (by simp; omega)]
theorem getElem_last (s : Oper) : (l ++ [s]).toArray[l.length]? = some s := by simp
theorem ready_mute (listed : Array Bool) : Region.ready md (l ++ [mute s]).toArray listed = Region.ready md (l ++ [s]).toArray listed := by
  unfold Region.ready
  rw [show (l ++ [mute s]).toArray.size = (l ++ [s]).toArray.size by simp]
  refine List.filter_congr fun i _ => ?_
  by_cases h : i = l.length
  · rw [h, getElem_last, getElem_last]; rfl
  · rw [getElem_mute i h]
theorem yielded_mute (t : Array Value) : yielded (l ++ [mute s]).toArray t = yielded (l ++ [s]).toArray t := by
  funext j
  unfold yielded
  by_cases h : j = l.length
  · rw [h, getElem_last, getElem_last]; rfl
  · rw [getElem_mute j h]

theorem endAny {Qa : Act → Prop} {Q : Exit → Act → World → Prop} (hnd : noDefer (l ++ [s]).toArray = true) (hd : s.dst = none) (hg : s.guard = none)
    (hall : ∀ i < l.length, ∃ e ∈ s.after, Region.binds .any e = true ∧ e.on = i) (hback : ∀ (i : Nat) (o : Oper), (l ++ [s]).toArray[i]? = some o → ∀ e ∈ o.after, e.on < i)
    (hQ : ∀ a w, C w → Qa a → s.wpIn F n P a w (fun a w => Q .normal a w) Q) : ∀ (fuel : Nat) (listed : Array Bool) (a : Act) (w : World), C w → listed.size = l.length + 1 → listed.getD l.length true = false →
    wpAnyQIn F n P .any (l ++ [mute s]).toArray C Qa fuel listed a → wpAnyIn F n P .any (l ++ [s]).toArray Q fuel listed a w := by
  have some_ready : ∀ listed : Array Bool, listed.size = l.length + 1 → listed.getD l.length true = false → Region.ready .any (l ++ [s]).toArray listed ≠ [] := by
    intro listed hz hl hr
    have key : ∀ i, i ≤ l.length → listed.getD i true = true := by
      intro i
      induction i using Nat.strongRecOn with
      | ind i ih =>
        intro hi
        by_cases hc : listed.getD i true = true
        · exact hc
        · exfalso
          have hil : i < (l ++ [s]).toArray.size := by simp; omega
          have : i ∈ Region.ready .any (l ++ [s]).toArray listed := by
            refine mem_ready.2 ⟨by simpa using hc, _, Array.getElem?_eq_getElem hil, fun e he _ => ?_⟩
            have hlt := hback i _ (Array.getElem?_eq_getElem hil) e he
            have := ih e.on hlt (by omega)
            have hb : e.on < listed.size := by omega
            simpa [Array.getD, hb] using this
          rw [hr] at this
          cases this
    rw [key _ (Nat.le_refl _)] at hl
    cases hl
  have last_ready : ∀ listed : Array Bool, listed.size = l.length + 1 → l.length ∈ Region.ready .any (l ++ [s]).toArray listed → Region.ready .any (l ++ [s]).toArray (listed.setIfInBounds l.length true) = [] := by
    intro listed hz hr
    obtain ⟨_, o, ho, hall'⟩ := mem_ready.1 hr
    rw [getElem_last] at ho
    injection ho with ho
    subst ho
    refine List.eq_nil_iff_forall_not_mem.2 fun i hi => ?_
    obtain ⟨h1, o, ho, _⟩ := mem_ready.1 hi
    have hlt : i < l.length + 1 := by have := (Array.getElem?_eq_some_iff.1 ho).1; simpa using this
    have : (listed.setIfInBounds l.length true).getD i true = true := by
      by_cases h : i = l.length
      · subst h
        simp [Array.getD, hz]
      · obtain ⟨e, he, hb, hon⟩ := hall i (by omega)
        have := hall' e he hb
        rw [hon] at this
        have hb : i < listed.size := by omega
        have hne : l.length ≠ i := fun e => h e.symm
        simp [Array.getD, hb, hne] at this ⊢
        exact this
    rw [this] at h1
    cases h1
  intro fuel
  induction fuel with
  | zero =>
    intro listed a w hw hz hl h
    exact absurd (by have := h.1; rwa [ready_mute] at this) (some_ready listed hz hl)
  | succ fuel ih =>
    intro listed a w hw hz hl h
    refine ⟨fun h0 => absurd h0 (some_ready listed hz hl), fun i hi => ?_⟩
    have hq := h.2 i (by rw [ready_mute]; exact hi)
    by_cases him : i = l.length
    · subst him
      have he := last_ready listed hz hi
      unfold qOpIn at hq
      rw [getElem_last] at hq
      unfold wpOpIn
      rw [getElem_last]
      have hwm : Region.wanted (mute s) (yielded (l ++ [mute s]).toArray a.tmps) = true := by simp [Region.wanted, mute, hg]
      have hws : Region.wanted s (yielded (l ++ [s]).toArray a.tmps) = true := by simp [Region.wanted, hg]
      simp only [hwm, hws, if_true] at hq ⊢
      obtain ⟨_, v, _, hq⟩ := hq
      have hp : a.put (mute s).dst v = a := by simp [mute, hd, Act.put]
      rw [hp] at hq
      have hqa : Qa a := by
        cases fuel with
        | zero => exact hq.2
        | succ f => exact hq.1 (by rw [ready_mute]; exact he)
      refine Oper.wpIn_mono (fun a' w' h' => ?_) (hQ a w hw hqa)
      cases fuel with
      | zero => exact ⟨he, h'⟩
      | succ f => exact ⟨fun _ => h', fun j hj => by rw [he] at hj; cases hj⟩
    · have hq' : qOpIn F n P (l ++ [s]).toArray C i (wpAnyQIn F n P .any (l ++ [mute s]).toArray C Qa fuel (listed.setIfInBounds i true)) a := by
        unfold qOpIn at hq ⊢
        rw [getElem_mute i him, yielded_mute] at hq
        exact hq
      have hne : i ≠ l.length := him
      exact loudAt hnd hw (fun a' w' hw' h' => ih _ a' w' hw' (by simpa using hz) (by
        simp [Array.getD, hz, hne] at hl ⊢
        exact hl) h') hq'

theorem quiet_snoc {ops : Array Oper} {Q : Act → Prop} {s : Oper} (hg : s.guard = none) (hd : s.dst = none) : ∀ (l : List Oper) (a : Act), wpQuietIn F n P ops C Q l a → wpQuietIn F n P ops C Q (l ++ [mute s]) a
  | [], a, h => by
    refine ⟨BigFrame.askedIn_plain (fun _ h => by simp [mute] at h), ?_⟩
    have hwm : Region.wanted (mute s) (yielded ops a.tmps) = true := by simp [Region.wanted, mute, hg]
    rw [if_pos hwm]
    refine BigFrame.quietIn_move (x := .const undef) rfl ?_
    have hp : ∀ v, a.put (mute s).dst v = a := fun v => by simp [mute, hd, Act.put]
    rw [hp]
    exact h
  | o :: l, a, h => by
    refine ⟨h.1, ?_⟩
    have h2 := h.2
    by_cases hw : Region.wanted o (yielded ops a.tmps) = true
    · simp only [hw, if_true] at h2 ⊢
      exact Oper.quietIn_mono (fun a' => quiet_snoc hg hd l a') h2
    · simp only [hw] at h2 ⊢
      exact quiet_snoc hg hd l _ h2

/-- The quiet region with a store at its end, in whatever frame. -/
theorem region_store {id : Nat} {Q : Exit → Act → World → Prop} {a : Act} {w : World} {L : List Oper} (hm : P.follows .mixedOrders = true) (hc : closes L = true) (hB : Region.lexB .any (muted L).toArray = true) (hnd : noDefer L.toArray = true)
    (h : wpQuietIn F n P (muted L).toArray (fun w' => ∃ n, w' = w.drewN n) (fun a' => ∀ w', (∃ n, w' = w.drewN n) → ∀ s, L.getLast? = some s → s.wpIn F n P a' w' (fun a w => Q .normal a w) Q) L.dropLast a) : (Code.region id L.toArray true).wpIn F n P Q a w := by
  obtain ⟨s, hs⟩ : ∃ s, L.getLast? = some s := by
    cases e : L.getLast? with
    | none => simp [closes, e] at hc
    | some s => exact ⟨s, rfl⟩
  obtain ⟨l, rfl⟩ : ∃ l, L = l ++ [s] := ⟨L.dropLast, (List.getLast?_eq_some_iff.1 hs).elim fun y hy => by rw [hy]; simp⟩
  simp only [closes, hs, Bool.and_eq_true, List.all_eq_true, List.mem_range] at hc
  obtain ⟨⟨⟨hd, hg⟩, hall⟩, hback⟩ := hc
  have hd : s.dst = none := by simpa using hd
  have hg : s.guard = none := by simpa using hg
  simp only [Region.lexB, Bool.and_eq_true] at hB
  rw [muted_snoc] at hB h
  simp only [List.dropLast_concat] at h
  refine wpIn_region_any hm (endAny (C := fun w' => ∃ n, w' = w.drewN n) (Qa := fun a' => ∀ w', (∃ n, w' = w.drewN n) → ∀ s', (l ++ [s]).getLast? = some s' → s'.wpIn F n P a' w' (fun a w => Q .normal a w) Q) hnd hd hg ?_ ?_
    (fun a w hw h => h w hw s hs) _ _ _ _ ⟨1, rfl⟩ (by simp) (by simp [Array.getD]) ?_)
  · intro i hi
    have := hall i (by simpa using hi)
    obtain ⟨e, he, hb⟩ := Array.any_eq_true'.1 this
    simp only [Bool.and_eq_true, beq_iff_eq] at hb
    exact ⟨e, he, hb.1, hb.2⟩
  · intro i o ho e he
    have hlt : i < (l ++ [s]).length := by have := (Array.getElem?_eq_some_iff.1 ho).1; simpa using this
    have := hback i hlt
    rw [List.getElem?_toArray] at ho
    rw [ho] at this
    simp only [Array.all_eq_true_iff_forall_mem, decide_eq_true_eq] at this
    exact this e he
  · have := wpAnyQIn_lex (F := F) (n := n) (C := fun w' => ∃ n, w' = w.drewN n) (md := .any) hB.1 (l ++ [mute s]) 0 (Array.replicate (l ++ [mute s]).toArray.size false) a (by simp) (by simpa using hB.2) (quiet_snoc hg hd l a h)
    simpa using this
end
end Go.Proofs.Ytemnlcfabaocbaa
