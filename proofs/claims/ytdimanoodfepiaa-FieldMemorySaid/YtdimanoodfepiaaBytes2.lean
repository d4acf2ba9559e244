/-
  The walks of the laws' own helpers of chapter 1: what was lent, two rows brought to one length.
-/
import Derived.Test.YtdimanoodfepiaaBytes
import Derived.BigGuardPart
namespace Go.Proofs.Ytdimanoodfepiaa
open Go.RowKit Gf
set_option maxRecDepth 20000
set_option linter.unusedVariables false

theorem neEq (x : Int) : (x != x) = false := by simp
set_option maxHeartbeats 1000000 in
theorem returned_yes (A B : Option Addr) (xs : List E) (ca cb : Nat) (w : World) (hr : Rd w A (bs (xs ++ marks 64))) (hs : Rd w B (bs xs)) (hlen : xs.length ≤ 140737488355264) :
    Calls Try.prog 28 #[.slice A (xs.length + 64) ca, .slice B xs.length cb] w fun e w' => e = .returned (.bool true) ∧ Ext w w' := by
  go_enter Try.func28, Try.ntmps28
  go_wp2_with fail
  go_loopw [5] (fun i wr => ∃ k : Nat, k ≤ xs.length + 64 ∧ i = .int .i64 k ∧ Ext w wr) (fun i _ => xs.length + 64 - (intOf i).toNat)
  case atStart => exact ⟨0, by omega, rfl, Ext.refl _⟩
  case round =>
    obtain ⟨k, hk, rfl, hbel⟩ := hrel
    by_cases hlt : k < xs.length + 64
    · have hkl : k < (xs ++ marks 64).length := by simp [marks_length]; omega
      obtain ⟨ad, rfl, hc1⟩ := (hr.ext hbel).byte hkl
      have hl0 : (0 : Int) ≤ (k : Int) := by omega
      have hl1 : (k : Int) < (xs.length : Int) + 64 := by omega
      by_cases hx : k < xs.length
      · obtain ⟨bd, rfl, hc2⟩ := (hs.ext hbel).byte hx
        rw [List.getElem_append_left hx] at hc1
        have hl2 : (k : Int) < (xs.length : Int) := by omega
        have hl3 : decide (xs.length ≤ k) = false := by simp; omega
        go_wp2_with fail
        go_quiet (fail)
        go_wp2
        go_roundw
        case rel => exact ⟨k + 1, by omega, by go_num, hbel.drewN _⟩
        case measure => simp [intOf]; omega
      · have hm : (xs ++ marks 64)[k] = mark (k - xs.length) := by
          rw [List.getElem_append_right (by omega)]
          simp [marks]
        rw [hm, mark_val] at hc1
        have hl2 : (xs.length : Int) ≤ (k : Int) := by omega
        have hl3 : decide (k < xs.length) = false := by simp; omega
        have hcast : ((201 + (k - xs.length) % 7 : Nat) : Int) = 201 + ((k : Int) - (xs.length : Int)) % 7 := by omega
        rw [hcast] at hc1
        have hx' : xs.length ≤ k := by omega
        clear hm hcast hx
        go_wp2_with fail
        go_quiet (fail)
        go_wp2
        go_roundw
        case rel => exact ⟨k + 1, by omega, by go_num, hbel.drewN _⟩
        case measure => simp [intOf]; omega
    · obtain rfl : k = xs.length + 64 := by omega
      go_wp2
      go_ret
      exact ⟨rfl, hbel⟩
set_option maxHeartbeats 1000000 in
theorem even_any (A B : Option Addr) (xs ys : List E) (ca cb : Nat) (w : World) (hr : Rd w A (bs xs)) (hs : Rd w B (bs ys)) (hca : xs.length ≤ ca) (hcb : ys.length ≤ cb) (hlx : xs.length ≤ 140737488355328) (hly : ys.length ≤ 140737488355328) (hma : ca ≤ maxLen) (hmb : cb ≤ maxLen) :
    Calls Try.prog 18 #[.slice A xs.length ca, .slice B ys.length cb] w fun e w' => ∃ va vb, e = .returned (.tuple #[va, vb]) ∧
      Own w' w.heap.size 5 va (bs (xs.take ys.length)) ∧ Own w' w.heap.size 5 vb (bs (ys.take xs.length)) ∧ Ext w w' := by
  unfold maxLen at hma hmb
  have HA : ∀ n, (bs (xs.take n)).length = (xs.take n).length := fun n => bs_length _
  have HR : ∀ n, Rd w A (bs (xs.take n)) := fun n => by rw [bs_take]; exact hr.take n
  have HS : ∀ n, Rd w B (bs (ys.take n)) := fun n => by rw [bs_take]; exact hs.take n
  by_cases hxy : xs.length ≤ ys.length
  · have e1 : (bs (xs.take ys.length)).length = xs.length := by rw [bs_length, List.length_take]; omega
    have e2 : (bs (ys.take xs.length)).length = xs.length := by rw [bs_length, List.length_take]; omega
    have hcc : xs.length ≤ cb := by omega
    have H1 := Lib.hid e1
    have H2 := Lib.hid e2
    have HR' := Lib.hid HR
    have HS' := Lib.hid HS
    clear e1 e2 HA HR HS hr hs
    go_enter Try.func18, Try.ntmps18
    go_wp2_with fail
    go_region_law (first
      | (refine step_app w.drew eltU8 rfl _ _ (by rfl) w.heap.size (.slice none 0 0) [] (by rfl) (Own.nil _ _ _) A xs.length ca (bs (xs.take ys.length)) (by rfl) (HR'.out _) H1.out (bs_ones _) (by simp; omega) (Nat.le_refl _) ?_; intro va wa hoa hma'; have hea : Ext w wa := (Ext.refl w).drew.trans (hma'.below (Nat.le_refl _) (fun g hg => by simp [Value.ownBlock] at hg)); clear hma')
      | (refine step_app w.drew eltU8 rfl _ _ (by rfl) w.heap.size (.slice none 0 0) [] (by rfl) (Own.nil _ _ _) B xs.length cb (bs (ys.take xs.length)) (by rfl) (HS'.out _) H2.out (bs_ones _) (by simp; omega) (Nat.le_refl _) ?_; intro vb wb hob hmb'; have heb : Ext w wb := (Ext.refl w).drew.trans (hmb'.below (Nat.le_refl _) (fun g hg => by simp [Value.ownBlock] at hg)); clear hmb')
      | (refine step_app wa eltU8 rfl _ _ (by rfl) w.heap.size (.slice none 0 0) [] (by rfl) (Own.nil _ _ _) B xs.length cb (bs (ys.take xs.length)) (by rfl) ((HS'.out _).ext hea) H2.out (bs_ones _) (by simp; omega) hea.le ?_; intro vb wb hob hmb'; have heb : Ext wa wb := hmb'.below (Nat.le_refl _) (fun g hg => by simp [Value.ownBlock] at hg); clear hmb')
      | (refine step_app wb eltU8 rfl _ _ (by rfl) w.heap.size (.slice none 0 0) [] (by rfl) (Own.nil _ _ _) A xs.length ca (bs (xs.take ys.length)) (by rfl) ((HR'.out _).ext heb) H1.out (bs_ones _) (by simp; omega) heb.le ?_; intro va wa hoa hma'; have hea : Ext wb wa := hma'.below (Nat.le_refl _) (fun g hg => by simp [Value.ownBlock] at hg); clear hma'))
    all_goals
      go_wp2
      go_ret2
      first
        | exact ⟨va, vb, rfl, hoa.ext heb, hob, hea.trans heb⟩
        | exact ⟨va, vb, rfl, hoa, hob.ext hea, heb.trans hea⟩
  · have e1 : (bs (xs.take ys.length)).length = ys.length := by rw [bs_length, List.length_take]; omega
    have e2 : (bs (ys.take xs.length)).length = ys.length := by rw [bs_length, List.length_take]; omega
    have hcc : ys.length ≤ ca := by omega
    have H1 := Lib.hid e1
    have H2 := Lib.hid e2
    have HR' := Lib.hid HR
    have HS' := Lib.hid HS
    clear e1 e2 HA HR HS hr hs
    go_enter Try.func18, Try.ntmps18
    go_wp2_with fail
    go_region_law (first
      | (refine step_app w.drew eltU8 rfl _ _ (by rfl) w.heap.size (.slice none 0 0) [] (by rfl) (Own.nil _ _ _) A ys.length ca (bs (xs.take ys.length)) (by rfl) (HR'.out _) H1.out (bs_ones _) (by simp; omega) (Nat.le_refl _) ?_; intro va wa hoa hma'; have hea : Ext w wa := (Ext.refl w).drew.trans (hma'.below (Nat.le_refl _) (fun g hg => by simp [Value.ownBlock] at hg)); clear hma')
      | (refine step_app w.drew eltU8 rfl _ _ (by rfl) w.heap.size (.slice none 0 0) [] (by rfl) (Own.nil _ _ _) B ys.length cb (bs (ys.take xs.length)) (by rfl) (HS'.out _) H2.out (bs_ones _) (by simp; omega) (Nat.le_refl _) ?_; intro vb wb hob hmb'; have heb : Ext w wb := (Ext.refl w).drew.trans (hmb'.below (Nat.le_refl _) (fun g hg => by simp [Value.ownBlock] at hg)); clear hmb')
      | (refine step_app wa eltU8 rfl _ _ (by rfl) w.heap.size (.slice none 0 0) [] (by rfl) (Own.nil _ _ _) B ys.length cb (bs (ys.take xs.length)) (by rfl) ((HS'.out _).ext hea) H2.out (bs_ones _) (by simp; omega) hea.le ?_; intro vb wb hob hmb'; have heb : Ext wa wb := hmb'.below (Nat.le_refl _) (fun g hg => by simp [Value.ownBlock] at hg); clear hmb')
      | (refine step_app wb eltU8 rfl _ _ (by rfl) w.heap.size (.slice none 0 0) [] (by rfl) (Own.nil _ _ _) A ys.length ca (bs (xs.take ys.length)) (by rfl) ((HR'.out _).ext heb) H1.out (bs_ones _) (by simp; omega) heb.le ?_; intro va wa hoa hma'; have hea : Ext wb wa := hma'.below (Nat.le_refl _) (fun g hg => by simp [Value.ownBlock] at hg); clear hma'))
    all_goals
      go_wp2
      go_ret2
      first
        | exact ⟨va, vb, rfl, hoa.ext heb, hob, hea.trans heb⟩
        | exact ⟨va, vb, rfl, hoa, hob.ext hea, heb.trans hea⟩

theorem Own.bytes {w : World} {B : Nat} {T : TypeId} {v : Value} {xs : List E} (h : Own w B T v (bs xs)) : ∃ A cap, v = .slice A xs.length cap ∧ Own w B T (.slice A xs.length cap) (bs xs) ∧ Rd w A (bs xs) ∧ xs.length ≤ cap ∧ cap ≤ maxLen := by
  obtain ⟨A, cap, hv, hr, hl, hm, _⟩ := h.slice
  rw [bs_length] at hv hl
  exact ⟨A, cap, hv, by rw [← hv]; exact h, hr, hl, hm⟩
theorem scale_n (A : Option Addr) (n : Nat) (xs : List E) (cap : Nat) (c : E) (w : World) (hn : xs.length = n) (hr : Rd w A (bs xs)) (hlen : n ≤ 140737488355328) :
    Calls Try.prog 21 #[.slice A n cap, .int .u8 c.val] w fun e w' => ∃ v, e = .returned v ∧ Own w' w.heap.size 5 v (bs (xs.map (· * c))) ∧ Ext w w' := by
  subst hn; exact scale_any A xs cap c w hr hlen
theorem refScale_n (A : Option Addr) (n : Nat) (xs : List E) (cap : Nat) (c : E) (w : World) (hn : xs.length = n) (hr : Rd w A (bs xs)) (hlen : n ≤ 140737488355328) :
    Calls Try.prog 19 #[.slice A n cap, .int .i64 c.val] w fun e w' => ∃ v, e = .returned v ∧ Own w' w.heap.size 5 v (bs (xs.map (· * c))) ∧ Ext w w' := by
  subst hn; exact refScale_any A xs cap c w hr hlen
theorem sum_n (A B : Option Addr) (n m : Nat) (xs ys : List E) (ca cb : Nat) (w : World) (hn : xs.length = n) (hm : ys.length = m) (hr : Rd w A (bs xs)) (hs : Rd w B (bs ys)) (he : m = n) (hlen : n ≤ 140737488355328) :
    Calls Try.prog 22 #[.slice A n ca, .slice B m cb] w fun e w' => ∃ v, e = .returned (.tuple #[v, .int .i64 0]) ∧ Own w' w.heap.size 5 v (bs (addL xs ys)) ∧ Ext w w' := by
  subst hn; subst hm; exact sum_any A B xs ys ca cb w hr hs he hlen
theorem refSum_n (A B : Option Addr) (n m : Nat) (xs ys : List E) (ca cb : Nat) (w : World) (hn : xs.length = n) (hm : ys.length = m) (hr : Rd w A (bs xs)) (hs : Rd w B (bs ys)) (he : m = n) (hlen : n ≤ 140737488355328) :
    Calls Try.prog 20 #[.slice A n ca, .slice B m cb] w fun e w' => ∃ v, e = .returned (.tuple #[v, .int .i64 0]) ∧ Own w' w.heap.size 5 v (bs (addL xs ys)) ∧ Ext w w' := by
  subst hn; subst hm; exact refSum_any A B xs ys ca cb w hr hs he hlen
theorem dot_n (A B : Option Addr) (n m : Nat) (xs ys : List E) (ca cb : Nat) (w : World) (hn : xs.length = n) (hm : ys.length = m) (hr : Rd w A (bs xs)) (hs : Rd w B (bs ys)) (he : m = n) (hlen : n ≤ 140737488355328) :
    Calls Try.prog 27 #[.slice A n ca, .slice B m cb] w fun e w' => e = .returned (.tuple #[.int .u8 (dot xs ys).val, .int .i64 0]) ∧ Ext w w' := by
  subst hn; subst hm; exact dot_any A B xs ys ca cb w hr hs he hlen
theorem refDot_n (A B : Option Addr) (n m : Nat) (xs ys : List E) (ca cb : Nat) (w : World) (hn : xs.length = n) (hm : ys.length = m) (hr : Rd w A (bs xs)) (hs : Rd w B (bs ys)) (he : m = n) (hlen : n ≤ 140737488355328) :
    Calls Try.prog 26 #[.slice A n ca, .slice B m cb] w fun e w' => e = .returned (.tuple #[.int .i64 (dot xs ys).val, .int .i64 0]) ∧ Ext w w' := by
  subst hn; subst hm; exact refDot_any A B xs ys ca cb w hr hs he hlen
theorem same_n (A B : Option Addr) (n m : Nat) (xs : List E) (ca cb : Nat) (w : World) (hn : xs.length = n) (hm : xs.length = m) (hr : Rd w A (bs xs)) (hs : Rd w B (bs xs)) (hlen : n ≤ 9000000000000000000) :
    Calls Try.prog 23 #[.slice A n ca, .slice B m cb] w fun e w' => e = .returned (.bool true) ∧ Ext w w' := by
  subst hm; subst hn; exact same_yes A B xs ca cb w hr hs hlen
theorem even_len (A B : Option Addr) (xs ys : List E) (ca cb : Nat) (w : World) (hr : Rd w A (bs xs)) (hs : Rd w B (bs ys)) (hca : xs.length ≤ ca) (hcb : ys.length ≤ cb) (hlx : xs.length ≤ 140737488355328) (hly : ys.length ≤ 140737488355328) (hma : ca ≤ maxLen) (hmb : cb ≤ maxLen) :
    Calls Try.prog 18 #[.slice A xs.length ca, .slice B ys.length cb] w fun e w' => ∃ (Ap Aq : Option Addr) (cp cq : Nat) (p q : List E), e = .returned (.tuple #[.slice Ap p.length cp, .slice Aq p.length cq]) ∧
      Hid (q.length = p.length) ∧ p.length ≤ xs.length ∧ p.length ≤ cp ∧ p.length ≤ cq ∧ cp ≤ maxLen ∧ cq ≤ maxLen ∧ Hid (p = xs.take ys.length) ∧ Hid (q = ys.take xs.length) ∧
      Rd w' Ap (bs p) ∧ Rd w' Aq (bs q) ∧ Ext w w' := by
  refine (even_any A B xs ys ca cb w hr hs hca hcb hlx hly hma hmb).mono ?_
  rintro e w' ⟨va, vb, rfl, hoa, hob, hx⟩
  obtain ⟨Ap, cp, rfl, _, hra, hlp, hmp⟩ := hoa.bytes
  obtain ⟨Aq, cq, rfl, _, hrb, hlq, hmq⟩ := hob.bytes
  have hl : (ys.take xs.length).length = (xs.take ys.length).length := by simp; omega
  exact ⟨Ap, Aq, cp, cq, _, _, by rw [hl], hl, by simp; omega, hlp, by rw [← hl]; exact hlq, hmp, hmq, rfl, rfl, hra, hrb, hx⟩

end Go.Proofs.Ytdimanoodfepiaa
