/-
  The walks of the document's answer for chapter 5: the table of all products, inverses by it, values by it.
-/
import Derived.Test.YtemnlcfabaocbaaMend1
import Derived.Test.YtemnlcfabaocbaaRef5
import Derived.Test.YtemnlcfabaocbaaRowsL
namespace Go.Proofs.Ytemnlcfabaocbaa
open Go.RowKit Gf
set_option maxRecDepth 20000
set_option linter.unusedVariables false

theorem infoRowU8 : (Try.prog.info? 24).map (fun i => (i.zero, i.size, i.bytes)) = some (some (.slice none 0 0), 1, 24) := by kernel_rfl
theorem eltRowU8 : Elt Try.prog 77 24 (.slice none 0 0) 24 := ⟨by kernel_rfl, info_parts infoRowU8, rfl, by decide⟩
def mulRow (a : Nat) : List E := (List.range 256).map fun b => E.of a * E.of b
theorem mulRow_length (a : Nat) : (mulRow a).length = 256 := by simp [mulRow]
theorem mulRow_get (a b : Nat) (h : b < (mulRow a).length) : (mulRow a)[b] = E.of a * E.of b := by simp [mulRow]
/-- The table of all products. -/
structure Tab (w : World) (gt : Nat) : Prop where
  row : ∀ a : E, ∃ g, w.cell? ⟨gt, a.val, none⟩ = some (.slice (some ⟨g, 0, none⟩) 256 256) ∧ ∀ b : E, w.cell? ⟨g, b.val, none⟩ = some (.int .u8 ((a * b).val : Int))
theorem Tab.ext {w w' : World} {gt : Nat} (h : Tab w gt) (hx : Ext w w') : Tab w' gt := ⟨fun a => by
  obtain ⟨g, h1, h2⟩ := h.row a
  exact ⟨g, (hx.cell (World.block_lt_of_cell? _ _ h1)).trans h1, fun b => (hx.cell (World.block_lt_of_cell? _ _ (h2 b))).trans (h2 b)⟩⟩
structure Tabling (w wr : World) (k : Nat) (v : Value) : Prop where
  ext : Ext w wr
  ex : ∃ V : List Value, V.length = k ∧ Own wr w.heap.size 24 v V ∧ ∀ (a : Nat) (u : Value), V[a]? = some u → ∃ g, u = .slice (some ⟨g, 0, none⟩) 256 256 ∧ Own wr w.heap.size 5 u (bs (mulRow a))
theorem Tabling.tab {w wr : World} {g c : Nat} (h : Tabling w wr 256 (.slice (some ⟨g, 0, none⟩) 256 c)) : Tab wr g := ⟨fun a => by
  obtain ⟨V, hl, ho, hr⟩ := h.ex
  have ha : a.val < V.length := by rw [hl]; exact a.lt
  obtain ⟨r, hu, hor⟩ := hr a.val V[a.val] (List.getElem?_eq_getElem ha)
  refine ⟨r, ?_, fun b => ?_⟩
  · have := ho.cell (List.getElem?_eq_getElem ha)
    rw [hu] at this
    exact this
  · rw [hu] at hor
    have hb : b.val < (mulRow a.val).length := by rw [mulRow_length]; exact b.lt
    have := hor.cell (bs_get (mulRow a.val) b.val hb)
    rw [mulRow_get, E.of_val, E.of_val] at this
    exact this⟩
set_option maxHeartbeats 2000000 in
theorem table_n (w : World) :
    Calls Try.prog 104 #[] w fun e w' => ∃ gt ct, e = .returned (.slice (some ⟨gt, 0, none⟩) 256 ct) ∧ Tab w' gt ∧ Ext w w' := by
  have hmk : ∀ w, (Instr.makeSlice 24 (.int .i64 256) (.int .i64 256)).run Try.prog w = .ok (.slice (some ⟨w.heap.size, 0, none⟩) 256 256) (w.alloc (.cells (zrow (.int .u8 0) 256) 5)) := fun w => make_bytes 256 (by omega) w
  have hz := Lib.hid (zrow_size (.int .u8 0) 256)
  go_enter Try.func104, Try.ntmps104
  go_wp2_with fail
  go_loopw [1, 2] (fun t a wr => ∃ (k : Nat) (v : Value), v = t ∧ k ≤ 256 ∧ a = .int .i64 k ∧ Tabling w wr k v) (fun _ a _ => 256 - (intOf a).toNat)
  case atStart => exact ⟨0, _, rfl, by omega, rfl, Ext.refl _, [], rfl, Own.nil _ _ _, fun a u h => by simp at h⟩
  case round =>
    obtain ⟨W1, rfl⟩ : ∃ W, W = wr := ⟨_, rfl⟩
    obtain ⟨k, v, rfl, hk, rfl, hT⟩ := hrel
    by_cases hlt : k < 256
    · have HT := Lib.hid hT
      have hd256 : decide ((k : Int) < 256) = true := decide_eq_true (by omega)
      clear hT
      go_wp2_with fail
      have H0 := Lib.hid (And.intro ((Ext.refl W1).alloc (.cells (zrow (.int .u8 0) 256) 5)) (Filling.start (mulRow k) (Blk.new W1 5 (zrow (.int .u8 0) 256)) hz.out))
      go_loopw [4] (fun b w2 => ∃ j : Nat, j ≤ 256 ∧ b = .int .i64 j ∧ Ext W1 w2 ∧ Filling w2 W1.heap.size 256 5 (mulRow k) j) (fun b _ => 256 - (intOf b).toNat)
      case atStart => exact ⟨0, by omega, rfl, H0.out.1, H0.out.2⟩
      case round =>
        obtain ⟨j, hj, rfl, hx, hf⟩ := hrel
        clear H0
        by_cases hlt2 : j < 256
        · have f1 := hf.frozen j
          obtain ⟨u1, hu1⟩ := hf.some_ hlt2
          have h6 := hf.step (by rw [mulRow_length]; exact hlt2) hlt2
          rw [mulRow_get, bv] at h6
          have h7 := hx.new (p := ⟨W1.heap.size, j, none⟩) (Nat.le_refl _) (.int .u8 ((E.of k * E.of j).val : Int))
          have HH := Lib.hid (And.intro h7 h6)
          have HC := Lib.hid (refMul_lit k j (E.of k) (E.of j) (by rw [E.val_of hlt]) (by rw [E.val_of hlt2]) wr)
          have hel := (E.of k * E.of j).lt
          clear h6 h7 hx hf
          go_wp2_with (go_at_call 86; with_reducible refine HC.out.mono ?_; rintro e w' ⟨rfl, rfl⟩)
          go_roundw
          case rel => exact ⟨j + 1, by omega, by go_num, HH.out.1, HH.out.2⟩
          case measure => simp [intOf]; omega
        · obtain rfl : j = 256 := by omega
          have hrow := hf.done (B := W1.heap.size) (mulRow_length k) (Nat.le_refl _) (by simp only [maxLen]; omega)
          obtain ⟨V, hl, ho, hr⟩ := HT.out.ex
          have hoV := ho.ext hx
          have hle : w.heap.size ≤ wr.heap.size := (HT.out.ext.trans hx).le
          have hbd : (V.length + 1) * 24 ≤ 140737488355328 := by rw [hl]; omega
          have HALL := Lib.hid (And.intro hrow (And.intro hl (And.intro hoV (And.intro hr hx))))
          clear hrow hl ho hr hoV hx hf
          go_wp2_with (at_builtin; refine wpList_push2 wr eltRowU8 rfl _ _ (by rfl) w.heap.size v _ (by rfl) (by exact HALL.out.2.2.1) (.slice (some ⟨W1.heap.size, 0, none⟩) 256 256) wr.heap.size rfl (by rfl) rfl hbd hle ?_)
          intro v2 w2 k1 k2 k3 k4
          have HT2 : Hid (Tabling w w2 (k + 1) v2) := Lib.hid (by
            have hle1 : w.heap.size ≤ W1.heap.size := HT.out.ext.le
            have hV1 := HALL.out.2.2.1.alloc (.cells #[.slice (some ⟨W1.heap.size, 0, none⟩) 256 256] 24)
            refine ⟨(HT.out.ext.trans HALL.out.2.2.2.2).below.trans k3, V ++ [.slice (some ⟨W1.heap.size, 0, none⟩) 256 256], by rw [List.length_append, HALL.out.2.1]; rfl, k1, fun a u ha => ?_⟩
            rcases Nat.lt_or_ge a V.length with h1 | h1
            · rw [List.getElem?_append_left h1] at ha
              obtain ⟨g, hu, hog⟩ := HALL.out.2.2.2.1 a u ha
              have h2 := (hog.ext HALL.out.2.2.2.2).alloc (.cells #[.slice (some ⟨W1.heap.size, 0, none⟩) 256 256] 24)
              exact ⟨g, hu, h2.kept k2.grown (h2.types hV1 (by decide))⟩
            · rw [List.getElem?_append_right h1] at ha
              have ha0 : a - V.length = 0 := by
                rcases Nat.eq_zero_or_pos (a - V.length) with h | h
                · exact h
                · rw [List.getElem?_eq_none (by simp; omega)] at ha; cases ha
              rw [ha0] at ha
              simp at ha
              subst ha
              have hak : a = k := by have := HALL.out.2.1; omega
              rw [hak]
              have h2 := (HALL.out.1).alloc (.cells #[.slice (some ⟨W1.heap.size, 0, none⟩) 256 256] 24)
              exact ⟨_, rfl, (h2.kept k2.grown (h2.types hV1 (by decide))).mono hle1⟩)
          clear k1 k2 k3 k4 HALL hle hbd
          go_wp2_with fail
          go_roundw
          case rel => exact ⟨k + 1, v2, rfl, by omega, by go_num, HT2.out⟩
          case measure => simp [intOf]; omega
    · obtain rfl : k = 256 := by omega
      obtain ⟨V, hl, ho, hr⟩ := hT.ex
      obtain ⟨g, c, rfl⟩ := own_some ho (by omega)
      rw [hl] at hT ⊢
      have HT := Lib.hid hT
      clear hT hl ho hr
      go_wp2
      go_ret
      exact ⟨g, c, rfl, HT.out.tab, HT.out.ext⟩
theorem Tab.at_ {w : World} {gt : Nat} (h : Tab w gt) (a b : E) : ∃ g, w.cell? ⟨gt, a.val, none⟩ = some (.slice (some ⟨g, 0, none⟩) 256 256) ∧ w.cell? ⟨g, b.val, none⟩ = some (.int .u8 ((a * b).val : Int)) := by
  obtain ⟨g, h1, h2⟩ := h.row a
  exact ⟨g, h1, h2 b⟩
theorem inverse_n (gt ct : Nat) (x : E) (hx : x ≠ 0) (w : World) (ht : Tab w gt) :
    Calls Try.prog 128 #[.slice (some ⟨gt, 0, none⟩) 256 ct, .int .u8 x.val] w fun e w' => e = .returned (.int .u8 (E.inv x).val) ∧ w = w' := by
  have hf := Lib.hid (fun c => inv_found (x := x) hx c)
  have ht0 : E.inv x ≠ 0 := E.inv_ne_zero hx
  have hxl := x.lt
  clear hx
  generalize E.inv x = t at hf ht0 ⊢
  have htl := t.lt
  have ht1 : 1 ≤ t.val := by
    rcases Nat.eq_zero_or_pos t.val with h | h
    · exact absurd (E.ext h) ht0
    · exact h
  clear ht0
  obtain ⟨g, hc1, hc2⟩ := ht.row x
  have HC2 := Lib.hid hc2
  clear hc2
  go_enter Try.func128, Try.ntmps128
  go_wp2
  go_loop [5] (fun i => ∃ k : Nat, 1 ≤ k ∧ k ≤ t.val ∧ i = .int .i64 k) (fun i => 256 - (intOf i).toNat)
  case atStart => exact ⟨1, Nat.le_refl _, ht1, rfl⟩
  case round =>
    obtain ⟨k, hk1, hk, rfl⟩ := hrel
    have hk256 : k < 256 := by omega
    have hof : (E.of k).val = k := E.val_of hk256
    have hcell := HC2.out (E.of k)
    rw [hof] at hcell
    have hpl := (x * E.of k).lt
    by_cases hkt : k = t.val
    · have he : (((x * E.of k).val : Int) == 1) = true := (eqE _ 1).trans (decide_eq_true ((hf.out (E.of k)).2 (by rw [hkt, E.of_val])))
      have HKT := Lib.hid hkt
      clear hof hkt
      go_wp2
      go_ret
      exact ⟨ret_int (by rw [HKT.out]), rfl⟩
    · have he : (((x * E.of k).val : Int) == 1) = false := (eqE _ 1).trans (decide_eq_false (fun h => hkt (by have := (hf.out (E.of k)).1 h; rw [← this, hof])))
      clear hof
      go_wp2
      go_round
      case rel => exact ⟨k + 1, by omega, by omega, by go_num⟩
      case measure => simp [intOf]; omega
theorem at5_n (gt ct : Nat) (A : Option Addr) (n : Nat) (p : List E) (cap : Nat) (x : E) (w : World) (ht : Tab w gt) (hn : p.length = n) (hr : Rd w A (bs p)) (hlen : n ≤ 140737488355328) :
    Calls Try.prog 121 #[.slice (some ⟨gt, 0, none⟩) 256 ct, .slice A n cap, .int .u8 x.val] w fun e w' => e = .returned (.int .u8 (evL p x).val) ∧ w = w' := by
  have HN := Lib.hid hn
  have HT := Lib.hid ht
  clear hn ht
  have hxl := x.lt
  go_enter Try.func121, Try.ntmps121
  go_wp2_with fail
  go_loop [7, 8, 9] (fun s pw i => ∃ k : Nat, k ≤ n ∧ i = .int .i64 k ∧ s = .int .u8 (evL (p.take k) x).val ∧ pw = .int .u8 (E.pow x k).val) (fun _ _ i => n - (intOf i).toNat)
  case atStart => exact ⟨0, by omega, rfl, rfl, rfl⟩
  case round =>
    obtain ⟨k, hk, rfl, rfl, rfl⟩ := hrel
    by_cases hlt : k < n
    · have hkp : k < p.length := by have := HN.out; omega
      obtain ⟨ad, rfl, hc⟩ := hr.byte hkp
      have HE := Lib.hid (evL_take p x k hkp)
      have hpl := (E.pow x k).lt
      have hcl := (p[k]).lt
      have hb := bits_u8_xor (evL (p.take k) x) (p[k] * E.pow x k)
      obtain ⟨g1, hg1, hg2⟩ := HT.out.at_ p[k] (E.pow x k)
      obtain ⟨g3, hg3, hg4⟩ := HT.out.at_ (E.pow x k) x
      go_wp2
      go_round
      case rel => exact ⟨k + 1, by omega, by go_num, by rw [HE.out], by rw [E.pow_succ]⟩
      case measure => simp [intOf]; omega
    · obtain rfl : k = n := by omega
      have hp : p.take k = p := List.take_of_length_le (by rw [HN.out]; exact Nat.le_refl _)
      rw [hp]
      go_wp2
      go_ret
      exact ⟨rfl, rfl⟩
end Go.Proofs.Ytemnlcfabaocbaa
