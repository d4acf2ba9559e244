/-
  Texts of mine, merged: Code0 Code1 Code2 Code3 Code4 Code5 Code6 NearP Enc Hurt0 Hurt1 Hurt2 OpenU3 PushF Fam2 Span.
-/
import Derived.Test.YtdoeelfcihdmbaaG1
import Derived.Test.YtdoeelfcihdmbaaG2
import Derived.Laws.IdiomStrings
/-
  Layer 4 for the laws of chapter 5: matrices of zeros, the identity, the weights of a code.
-/
namespace Go.Proofs.Ytdoeelfcihdmbaa
open Go.RowKit Gf
set_option maxRecDepth 20000
set_option linter.unusedVariables false

/-- Rows in blocks of their own, one behind the other, and the list of them ahead. -/
structure Grid (W0 wr : World) (N m : Nat) (R : Nat → List E) : Prop where
  ext : Ext W0 wr
  list : Own wr W0.heap.size 26 (.slice (some ⟨W0.heap.size, 0, none⟩) N N) (rowsV (W0.heap.size + 1) m N)
  rows : ∀ i, i < N → Own wr W0.heap.size 63 (.slice (some ⟨W0.heap.size + 1 + i, 0, none⟩) m m) (bs (R i))
theorem Grid.beyond {W0 wr w2 : World} {N m : Nat} {R : Nat → List E} (h : Grid W0 wr N m R) (hx : Ext wr w2) : Grid W0 w2 N m R := ⟨h.ext.trans hx, h.list.ext hx, fun i hi => (h.rows i hi).ext hx⟩
theorem Grid.congr {W0 wr : World} {N m : Nat} {R R' : Nat → List E} (h : Grid W0 wr N m R) (e : ∀ i, i < N → R i = R' i) : Grid W0 wr N m R' := ⟨h.ext, h.list, fun i hi => by rw [← e i hi]; exact h.rows i hi⟩
theorem Grid.put {W0 wr : World} {N m : Nat} {R : Nat → List E} (h : Grid W0 wr N m R) {i : Nat} (hi : i < N) (c : Nat) (x : E) :
    Grid W0 (wr.setCell ⟨W0.heap.size + 1 + i, c, none⟩ (.int .u8 (x.val : Int))) N m (updR R i ((R i).set c x)) := by
  refine ⟨h.ext.new (p := ⟨W0.heap.size + 1 + i, c, none⟩) (by show W0.heap.size ≤ W0.heap.size + 1 + i; omega) _, h.list.far (p := ⟨W0.heap.size + 1 + i, c, none⟩) (by simp only [Value.ownBlock, ne_eq, Option.some.injEq]; omega) _, fun i' hi' => ?_⟩
  by_cases e : i' = i
  · subst e
    have := (h.rows i' hi').set c (.int .u8 (x.val : Int))
    rw [updR_same]
    rwa [show (bs (R i')).set c (.int .u8 (x.val : Int)) = bs ((R i').set c x) from by rw [bs, bs, List.map_set]; rfl] at this
  · rw [updR_other _ _ _ e]
    exact (h.rows i' hi').far (p := ⟨W0.heap.size + 1 + i, c, none⟩) (by simp only [Value.ownBlock, ne_eq, Option.some.injEq]; omega) (.int .u8 (x.val : Int))
set_option maxHeartbeats 1000000 in
theorem zeros_n (N m : Nat) (w : World) (hN : N ≤ 255) (hm : m ≤ 255) :
    Calls Try.prog 179 #[.int .i64 (N : Int), .int .i64 (m : Int)] w fun e w' => e = .returned (.slice (some ⟨w.heap.size, 0, none⟩) N N) ∧ Grid w w' N m (fun _ => List.replicate m 0) ∧ w'.heap.size = w.heap.size + 1 + N := by
  have hmk : ∀ w, (Instr.makeSlice 117 (.int .i64 (N : Int)) (.int .i64 (N : Int))).run Try.prog w = .ok (.slice (some ⟨w.heap.size, 0, none⟩) N N) (w.alloc (.cells (zrow (.slice none 0 0) N) 26)) := fun w => run_make_elt eltRowEl _ _ N (by omega) w
  have hmk2 : ∀ w, (Instr.makeSlice 26 (.int .i64 (m : Int)) (.int .i64 (m : Int))).run Try.prog w = .ok (.slice (some ⟨w.heap.size, 0, none⟩) m m) (w.alloc (.cells (zrow (.int .u8 0) m) 63)) := fun w => run_make_elt eltEl _ _ m (by omega) w
  have hl0 : Own (w.alloc (.cells (zrow (.slice none 0 0) N) 26)) w.heap.size 26 (.slice (some ⟨w.heap.size, 0, none⟩) N N) (half (rowsV (w.heap.size + 1) m N) (.slice none 0 0) 0) := by
    have h1 := (Blk.new w 26 (zrow (.slice none 0 0) N)).own (B := w.heap.size) (n := N) (cap := N) (Nat.le_refl _) (Nat.le_refl _) (by simp only [maxLen]; omega) (zrow_size _ _)
    rw [zrow_list, List.take_of_length_le (by simp)] at h1
    rw [half_zero, rowsV_length]; exact h1
  have H0 := Lib.hid (And.intro ((Ext.refl w).alloc (.cells (zrow (.slice none 0 0) N) 26)) hl0)
  clear hl0
  go_enter Try.func179, Try.ntmps179
  go_wp2_with fail
  go_loopw [11] (fun i wr => ∃ k : Nat, k ≤ N ∧ i = .int .i64 k ∧ Ext w wr ∧ wr.heap.size = w.heap.size + 1 + k ∧ Own wr w.heap.size 26 (.slice (some ⟨w.heap.size, 0, none⟩) N N) (half (rowsV (w.heap.size + 1) m N) (.slice none 0 0) k) ∧ ∀ i', i' < k → Own wr w.heap.size 63 (.slice (some ⟨w.heap.size + 1 + i', 0, none⟩) m m) (bs (List.replicate m 0))) (fun i _ => N - (intOf i).toNat)
  case atStart => exact ⟨0, by omega, rfl, H0.out.1, by simp, H0.out.2, fun i' h => by omega⟩
  case round =>
    clear H0
    obtain ⟨W, rfl⟩ : ∃ W, W = wr := ⟨_, rfl⟩
    obtain ⟨i, hi, rfl, hx, hsz, hol, hor⟩ := hrel
    by_cases hlt : i < N
    · have hxa : Ext W (W.alloc (.cells (zrow (.int .u8 0) m) 63)) := (Ext.refl W).alloc _
      have hol1 := hol.ext hxa
      have f1 := hol1.frozen i
      have hrl : i < (rowsV (w.heap.size + 1) m N).length := by rw [rowsV_length]; exact hlt
      obtain ⟨u1, c1⟩ : ∃ u, (W.alloc (.cells (zrow (.int .u8 0) m) 63)).cell? ⟨w.heap.size, i, none⟩ = some u := ⟨_, hol1.cell (List.getElem?_eq_getElem (show i < (half (rowsV (w.heap.size + 1) m N) (.slice none 0 0) i).length by rw [half_length _ _ _ (by omega)]; exact hrl))⟩
      have hrow := (Blk.new W 63 (zrow (.int .u8 0) m)).own (B := w.heap.size) (n := m) (cap := m) (by rw [hsz]; omega) (Nat.le_refl _) (by simp only [maxLen]; omega) (zrow_size _ _)
      rw [zrow_list, List.take_of_length_le (by simp), hsz] at hrow
      have hz : (List.replicate m (.int .u8 0) : List Value) = bs (List.replicate m 0) := by rw [bs, List.map_replicate]; rfl
      rw [hz] at hrow
      have hrow2 := hrow.far (p := ⟨w.heap.size, i, none⟩) (by simp only [Value.ownBlock, ne_eq, Option.some.injEq]; omega) (.slice (some ⟨w.heap.size + 1 + i, 0, none⟩) m m)
      have hol2 := hol1.set i (.slice (some ⟨w.heap.size + 1 + i, 0, none⟩) m m)
      have e := half_step (rowsV (w.heap.size + 1) m N) (.slice none 0 0) i hrl
      have e2 := rowsV_get (w.heap.size + 1) m N i hlt
      rw [List.getElem?_eq_getElem hrl] at e2
      rw [Option.some.inj e2] at e
      rw [e] at hol2
      have hx2 := (hx.trans hxa).new (p := ⟨w.heap.size, i, none⟩) (Nat.le_refl _) (.slice (some ⟨w.heap.size + 1 + i, 0, none⟩) m m)
      have hor2 : ∀ i', i' < i + 1 → Own ((W.alloc (.cells (zrow (.int .u8 0) m) 63)).setCell ⟨w.heap.size, i, none⟩ (.slice (some ⟨w.heap.size + 1 + i, 0, none⟩) m m)) w.heap.size 63 (.slice (some ⟨w.heap.size + 1 + i', 0, none⟩) m m) (bs (List.replicate m 0)) := fun i' hi' => by
        rcases (show i' < i ∨ i' = i by omega) with h | rfl
        · exact ((hor i' h).ext hxa).far (p := ⟨w.heap.size, i, none⟩) (by simp only [Value.ownBlock, ne_eq, Option.some.injEq]; omega) _
        · exact hrow2
      have HS := Lib.hid (And.intro hx2 (And.intro hol2 hor2))
      have HSZ := Lib.hid hsz
      have hiN : (i : Int) < (N : Int) := by omega
      clear hx hsz hol hor hxa hol1 hrow hrow2 hol2 e e2 hx2 hor2 hz
      go_wp2_with fail
      rw [HSZ.out]
      go_roundw
      case rel => exact ⟨i + 1, by omega, by go_num, HS.out.1, by simp [HSZ.out]; omega, HS.out.2.1, HS.out.2.2⟩
      case measure => simp [intOf]; omega
    · obtain rfl : N = i := by omega
      have hfull : half (rowsV (w.heap.size + 1) m N) (.slice none 0 0) N = rowsV (w.heap.size + 1) m N := by
        have := half_done (rowsV (w.heap.size + 1) m N) (.slice none 0 0)
        rwa [rowsV_length] at this
      rw [hfull] at hol
      have HS := Lib.hid (And.intro (Grid.mk (R := fun _ => List.replicate m 0) hx hol hor) hsz)
      clear hx hol hor hsz hfull
      go_wp2
      go_ret
      exact ⟨rfl, HS.out.1, HS.out.2⟩
/-- The row of the identity. -/
def unitR (m i : Nat) : List E := (List.replicate m 0).set i 1
set_option maxHeartbeats 1000000 in
theorem identity_n (N : Nat) (w : World) (hN : N ≤ 255) :
    Calls Try.prog 146 #[.int .i64 (N : Int), .int .u8 1] w fun e w' => e = .returned (.tuple #[.slice (some ⟨w.heap.size, 0, none⟩) N N, .int .i64 0]) ∧ Grid w w' N N (unitR N) ∧ w'.heap.size = w.heap.size + 1 + N := by
  have d1 : decide ((N : Int) < 0) = false := decide_eq_false (by omega)
  have d2 : decide (255 < (N : Int)) = false := decide_eq_false (by omega)
  go_enter Try.func146, Try.ntmps146
  go_wp2_with fail
  refine (zeros_n N N _ hN hN).mono ?_
  rintro e w1 ⟨rfl, hg, hsz⟩
  have HG := Lib.hid hg
  have HSZ := Lib.hid hsz
  clear hg hsz
  go_wp2_with fail
  go_loopw [17] (fun i wr => ∃ k : Nat, k ≤ N ∧ i = .int .i64 k ∧ Grid w wr N N (fun i' => if i' < k then unitR N i' else List.replicate N 0) ∧ wr.heap.size = w.heap.size + 1 + N) (fun i _ => N - (intOf i).toNat)
  case atStart => exact ⟨0, by omega, rfl, by simpa using HG.out, HSZ.out⟩
  case round =>
    clear HG HSZ
    obtain ⟨W, rfl⟩ : ∃ W, W = wr := ⟨_, rfl⟩
    obtain ⟨i, hi, rfl, hg, hsz⟩ := hrel
    by_cases hlt : i < N
    · have c1 := hg.list.cell (rowsV_get (w.heap.size + 1) N N i hlt)
      have hr := hg.rows i hlt
      rw [if_neg (Nat.lt_irrefl _)] at hr
      have f1 := hr.frozen i
      obtain ⟨u1, c2⟩ : ∃ u, W.cell? ⟨w.heap.size + 1 + i, i, none⟩ = some u := ⟨_, hr.cell (j := i) (List.getElem?_eq_getElem (by rw [bs_length, List.length_replicate]; exact hlt))⟩
      have hp := hg.put hlt i 1
      have HP := Lib.hid (hp.congr (R' := fun i' => if i' < i + 1 then unitR N i' else List.replicate N 0) fun i' _ => by
        by_cases e : i' = i
        · subst e; rw [updR_same, if_neg (Nat.lt_irrefl _), if_pos (Nat.lt_succ_self _)]; rfl
        · rw [updR_other _ _ _ e]
          by_cases e2 : i' < i
          · rw [if_pos e2, if_pos (by omega)]
          · rw [if_neg e2, if_neg (by omega)])
      have HSZ := Lib.hid hsz
      have hiN : (i : Int) < (N : Int) := by omega
      clear hp hr hg hsz
      go_wp2_with fail
      go_roundw
      case rel => exact ⟨i + 1, by omega, by go_num, HP.out, by rw [← HSZ.out]; simp⟩
      case measure => simp [intOf]; omega
    · obtain rfl : N = i := by omega
      have HG := Lib.hid (And.intro (hg.congr (R' := unitR N) fun i' h => by rw [if_pos h]) hsz)
      clear hg hsz
      go_wp2
      go_ret2
      exact ⟨rfl, HG.out.1, HG.out.2⟩
end Go.Proofs.Ytdoeelfcihdmbaa
/-
  Layer 4 for the laws of chapter 5: the weights of a code.
-/
namespace Go.Proofs.Ytdoeelfcihdmbaa
open Go.RowKit Gf
set_option maxRecDepth 20000
set_option linter.unusedVariables false

/-- The points of the data. -/
def ptsK (k : Nat) : List E := ptsL (List.range k)
theorem ptsK_length (k : Nat) : (ptsK k).length = k := by rw [ptsK, pts_length, List.length_range]
theorem ptsK_get {k i : Nat} (h : i < (ptsK k).length) : (ptsK k)[i] = E.of i := by simp [ptsK, ptsL]
theorem ptsK_getD {k i : Nat} (h : i < k) : (ptsK k).getD i 0 = E.of i := by
  rw [List.getD_eq_getElem?_getD, List.getElem?_eq_getElem (by rw [ptsK_length]; exact h), ptsK_get]; rfl
theorem ptsK_nodup {k : Nat} (h : k ≤ 256) : (ptsK k).Nodup := pts_nodup List.nodup_range fun i hi => by have := List.mem_range.1 hi; omega
theorem ptsK_not {k x : Nat} (h : k ≤ x) (hx : x < 256) : E.of x ∉ ptsK k := fun hm => by
  obtain ⟨i, hi, e⟩ := List.mem_map.1 hm
  have hi := List.mem_range.1 hi
  have := of_inj (by omega) hx e
  omega
theorem ptsK_take {k t : Nat} (h : t < k) : (ptsK k).take (t + 1) = (ptsK k).take t ++ [E.of t] := by
  rw [take_snoc' _ t (by rw [ptsK_length]; exact h), ptsK_get]
set_option maxHeartbeats 2000000 in
theorem cweights_n (k x : Nat) (w : World) (hk : k ≤ x) (hx : x < 256) :
    Calls Try.prog 147 #[.int .i64 (k : Int), .int .i64 (x : Int)] w fun e w' => ∃ v, e = .returned v ∧ Own w' w.heap.size 63 v (bs (wrow (ptsK k) k x)) ∧ Ext w w' := by
  have hmk : ∀ w, (Instr.makeSlice 26 (.int .i64 (k : Int)) (.int .i64 (k : Int))).run Try.prog w = .ok (.slice (some ⟨w.heap.size, 0, none⟩) k k) (w.alloc (.cells (zrow (.int .u8 0) k) 63)) := fun w => run_make_elt eltEl _ _ k (by omega) w
  go_enter Try.func147, Try.ntmps147
  go_wp2_with fail
  go_loop [5, 12] (fun a i => ∃ t : Nat, t ≤ k ∧ i = .int .i64 t ∧ a = .int .u8 ((pr ((ptsK k).take t) (E.of x)).val : Int)) (fun _ i => k - (intOf i).toNat)
  case atStart => exact ⟨0, by omega, rfl, rfl⟩
  case round =>
    obtain ⟨t, ht, rfl, rfl⟩ := hrel
    by_cases hlt : t < k
    · obtain ⟨al, hal⟩ : ∃ c, c = pr ((ptsK k).take t) (E.of x) := ⟨_, rfl⟩
      have HNX : Hid (pr ((ptsK k).take (t + 1)) (E.of x) = al * (E.of x + E.of t)) := Lib.hid (by rw [ptsK_take hlt, pr_snoc, ← hal])
      rw [← hal]
      have hxr := xorE (a := x) (b := t) (by omega) (by omega)
      have hxi := bits_i64_xor x t (by omega) (by omega)
      rw [hxr] at hxi
      have HXI := Lib.hid hxi
      have hsl := (E.of x + E.of t).lt
      have hcl := al.lt
      clear hal hxr hxi
      go_wp2_with (go_at_call 68; with_reducible refine (times_lit _ _ al (E.of x + E.of t) rfl (by rw [HXI.out]; omega) _).mono ?_; rintro e w' ⟨rfl, rfl⟩)
      go_round
      case rel => exact ⟨t + 1, by omega, by go_num, by rw [HNX.out]⟩
      case measure => simp [intOf]; omega
    · obtain rfl : k = t := by omega
      rw [List.take_of_length_le (by rw [ptsK_length]; exact Nat.le_refl _)]
      obtain ⟨al, hal⟩ : ∃ c, c = pr (ptsK k) (E.of x) := ⟨_, rfl⟩
      rw [← hal]
      have HAL := Lib.hid hal
      clear hal
      have hlal := al.lt
      go_wp2_with fail
      have H0 := Lib.hid (And.intro ((Ext.refl w).alloc (.cells (zrow (.int .u8 0) k) 63)) (Filling.start (wrow (ptsK k) k x) (Blk.new w 63 (zrow (.int .u8 0) k)) (zrow_size _ _)))
      go_loopw [25] (fun i wr => ∃ j : Nat, j ≤ k ∧ i = .int .i64 j ∧ Ext w wr ∧ Filling wr w.heap.size k 63 (wrow (ptsK k) k x) j) (fun i _ => k - (intOf i).toNat)
      case atStart => exact ⟨0, by omega, rfl, H0.out.1, H0.out.2⟩
      case round =>
        clear H0
        obtain ⟨W, rfl⟩ : ∃ W, W = wr := ⟨_, rfl⟩
        obtain ⟨j, hj, rfl, hxw, hf⟩ := hrel
        by_cases hlt2 : j < k
        · have HX := Lib.hid hxw
          have HF := Lib.hid hf
          have hxr := xorE (a := x) (b := j) (by omega) (by omega)
          have hxi := bits_i64_xor x j (by omega) (by omega)
          rw [hxr] at hxi
          have HXI := Lib.hid hxi
          have hsl := (E.of x + E.of j).lt
          obtain ⟨q0, hq0⟩ : ∃ q, q = E.of x + E.of j := ⟨_, rfl⟩
          clear hxw hf hxr hxi
          go_wp2_with fail
          go_loop [9, 33] (fun u i => ∃ t : Nat, t ≤ k ∧ i = .int .i64 t ∧ u = .int .u8 (((E.of x + E.of j) * pr (less ((ptsK k).take t) (E.of j)) (E.of j)).val : Int)) (fun _ i => k - (intOf i).toNat)
          case atStart =>
            refine ⟨0, by omega, rfl, ?_⟩
            rw [HXI.out, show pr (less ((ptsK k).take 0) (E.of j)) (E.of j) = 1 from rfl, E.mul_one]
            congr 1
            omega
          case round =>
            obtain ⟨t, ht, rfl, rfl⟩ := hrel
            obtain ⟨un, hun⟩ : ∃ c, c = (E.of x + E.of j) * pr (less ((ptsK k).take t) (E.of j)) (E.of j) := ⟨_, rfl⟩
            rw [← hun]
            by_cases hlt3 : t < k
            · have htp : t < (ptsK k).length := by rw [ptsK_length]; exact hlt3
              have hul := un.lt
              by_cases he : t = j
              · have g1 : ((t : Int) != (j : Int)) = false := by rw [bne_eq_false_iff_eq]; omega
                have HNX : Hid (un = (E.of x + E.of j) * pr (less ((ptsK k).take (t + 1)) (E.of j)) (E.of j)) := Lib.hid (by rw [less_no htp (by rw [ptsK_get, he]), hun])
                clear hun he
                go_wp2_with fail
                go_round
                case rel => exact ⟨t + 1, by omega, by go_num, by rw [← HNX.out]⟩
                case measure => simp [intOf]; omega
              · have g1 : ((t : Int) != (j : Int)) = true := by rw [bne_iff_ne]; omega
                have HNX : Hid (un * (E.of t + E.of j) = (E.of x + E.of j) * pr (less ((ptsK k).take (t + 1)) (E.of j)) (E.of j)) := Lib.hid (by
                  rw [less_yes htp (by rw [ptsK_get]; intro h; exact he (of_inj (by omega) (by omega) h)), pr_snoc, ptsK_get, hun, E.mul_assoc, E.add_comm (E.of j) (E.of t)])
                have hxr := xorE (a := t) (b := j) (by omega) (by omega)
                have hxi := bits_i64_xor t j (by omega) (by omega)
                rw [hxr] at hxi
                have HXT := Lib.hid hxi
                have hsl2 := (E.of t + E.of j).lt
                clear hxr hxi hun he
                go_wp2_with (go_at_call 68; with_reducible refine (times_lit _ _ un (E.of t + E.of j) rfl (by rw [HXT.out]; omega) _).mono ?_; rintro e w' ⟨rfl, rfl⟩)
                go_round
                case rel => exact ⟨t + 1, by omega, by go_num, by rw [HNX.out]⟩
                case measure => simp [intOf]; omega
            · obtain rfl : k = t := by omega
              rw [List.take_of_length_le (by rw [ptsK_length]; exact Nat.le_refl _)] at hun
              have hxn : E.of x ∉ ptsK k := ptsK_not hk hx
              have hjp : j < (ptsK k).length := by rw [ptsK_length]; exact hlt2
              have hwo := wgt_off (ptsK_nodup (by omega)) hxn hjp
              rw [ptsK_getD hlt2, ← hun, ← HAL.out] at hwo
              have hnz : un ≠ 0 := by
                rw [hun]
                intro h
                rcases E.mul_eq_zero.1 h with h | h
                · exact hxn (by rw [E.add_eq_zero.1 h, ← ptsK_get hjp]; exact List.getElem_mem hjp)
                · exact pr_ne (not_less _ _) h
              have HC := Lib.hid (fun w' => over_any al un hnz w')
              have f1 := HF.out.frozen j
              obtain ⟨u1, c1⟩ := HF.out.some_ hlt2
              have hst := HF.out.step (by rw [wrow_length]; exact hlt2) hlt2
              rw [wrow_get, ← hwo, bv] at hst
              have HP := Lib.hid (And.intro (HX.out.new (p := ⟨w.heap.size, j, none⟩) (Nat.le_refl _) (.int .u8 ((al * E.inv un).val : Int))) hst)
              have hjk : (j : Int) < (k : Int) := by omega
              clear hun hnz hwo hst hxn HF HX
              go_wp2_with (go_at_call 129; with_reducible refine (HC.out _).mono ?_; rintro e w' ⟨rfl, rfl⟩)
              go_roundw
              case rel => exact ⟨j + 1, by omega, by go_num, HP.out.1, HP.out.2⟩
              case measure => simp [intOf]; omega
        · obtain rfl : k = j := by omega
          have HO := Lib.hid (And.intro (hf.done (B := w.heap.size) (wrow_length _ _ _) (Nat.le_refl _) (by simp only [maxLen]; omega)) hxw)
          clear hf hxw
          go_wp2_with fail
          go_ret
          exact ⟨_, rfl, HO.out.1, HO.out.2⟩
end Go.Proofs.Ytdoeelfcihdmbaa
/-
  Layer 4 for the laws of chapter 5: a code.
-/
namespace Go.Proofs.Ytdoeelfcihdmbaa
open Go.RowKit Gf
set_option maxRecDepth 20000
set_option linter.unusedVariables false

/-- The code's matrix. -/
def codeR (k n : Nat) : List (List E) := (List.range n).map fun i => wrow (ptsK k) k i
theorem codeR_length (k n : Nat) : (codeR k n).length = n := by simp [codeR]
theorem codeR_get {k n i : Nat} (h : i < n) : (codeR k n)[i]? = some (wrow (ptsK k) k i) := by simp [codeR, h]
theorem unit_wrow {k i : Nat} (hi : i < k) (hk : k ≤ 256) : unitR k i = wrow (ptsK k) k i := by
  apply List.ext_getElem?
  intro j
  by_cases hj : j < k
  · rw [List.getElem?_eq_getElem (l := wrow (ptsK k) k i) (by rw [wrow_length]; exact hj), wrow_get, ← ptsK_getD hi, wgt_own (ptsK_nodup hk) (by rw [ptsK_length]; exact hi) (by rw [ptsK_length]; exact hj), unitR, List.getElem?_set]
    by_cases e : i = j
    · subst e; simp [hi]
    · rw [if_neg e, if_neg (fun h => e h.symm)]; simp [hj]
  · rw [List.getElem?_eq_none (by simp [unitR]; omega), List.getElem?_eq_none (by rw [wrow_length]; omega)]
/-- Where a code lies. -/
structure CodeAt (w : World) (g k n : Nat) : Prop where
  ex : ∃ A c, Blk w g 202 #[.int .i64 (k : Int), .int .i64 (n : Int), .slice A n c] ∧ RdRows w A (codeR k n)
theorem CodeAt.ext {w w' : World} {g k n : Nat} (h : CodeAt w g k n) (hx : Ext w w') : CodeAt w' g k n := by
  obtain ⟨A, c, h1, h2⟩ := h.ex
  exact ⟨A, c, h1.below hx h1.lt, h2.ext hx⟩
/-- The rows while they are made. -/
structure Coding (w wr : World) (k x : Nat) (v : Value) (V : List Value) : Prop where
  ext : Ext w wr
  len : V.length = x
  list : Own wr w.heap.size 26 v V
  rows : ∀ (i : Nat) (u : Value), V[i]? = some u → Own wr w.heap.size 63 u (bs (wrow (ptsK k) k i))
theorem Coding.rd {w wr : World} {k x : Nat} {v : Value} {V : List Value} (h : Coding w wr k x v V) : ∃ A c, v = .slice A x c ∧ RdRows wr A (codeR k x) := by
  obtain ⟨A, c, rfl, h1, h2, h3, -⟩ := h.list.slice
  rw [h.len]
  refine ⟨A, c, rfl, V, by rw [h.len, codeR_length], h1, fun i r hi => ?_⟩
  have hlt : i < V.length := by rw [h.len, ← codeR_length k x]; exact (List.getElem?_eq_some_iff.1 hi).1
  have h4 := h.rows i V[i] (List.getElem?_eq_getElem hlt)
  rw [codeR_get (by rw [← h.len]; exact hlt)] at hi
  cases hi
  obtain ⟨A', c', hv, k1, k2, k3, -⟩ := h4.slice
  rw [bs_length] at hv k2
  exact ⟨A', c', by rw [List.getElem?_eq_getElem hlt, hv], k1, k2, k3⟩
set_option maxHeartbeats 2000000 in
theorem new_n (k m : Nat) (w : World) (hm : 1 ≤ m) (hmk : m ≤ k) (hk : k + m ≤ 255) :
    Calls Try.prog 92 #[.int .i64 (k : Int), .int .i64 (m : Int)] w fun e w' => ∃ g, e = .returned (.tuple #[.pointer (some ⟨g, 0, none⟩), .int .i64 0]) ∧ CodeAt w' g k (k + m) ∧ Ext w w' := by
  have d1 : decide ((m : Int) < 1) = false := decide_eq_false (by omega)
  have d2 : decide ((k : Int) < (m : Int)) = false := decide_eq_false (by omega)
  have d3 : decide (254 < (k : Int)) = false := decide_eq_false (by omega)
  have d4 : decide (255 - (k : Int) < (m : Int)) = false := decide_eq_false (by omega)
  go_enter Try.func92, Try.ntmps92
  go_wp2_with fail
  refine (identity_n k _ (by omega)).mono ?_
  rintro e w1 ⟨rfl, hg, -⟩
  have H0 : Hid (Coding w w1 k k (.slice (some ⟨w.heap.size, 0, none⟩) k k) (rowsV (w.heap.size + 1) k k)) := Lib.hid ⟨hg.ext, rowsV_length _ _ _, hg.list, fun i u hu => by
    have hi : i < k := by
      have := (List.getElem?_eq_some_iff.1 hu).1
      rwa [rowsV_length] at this
    rw [rowsV_get _ _ _ _ hi] at hu
    cases hu
    rw [← unit_wrow hi (by omega)]
    exact hg.rows i hi⟩
  clear hg d1 d2 d3 d4
  go_wp2_with fail
  go_loopw [6, 8] (fun v i wr => ∃ (x : Nat) (v' : Value) (V : List Value), v' = v ∧ k ≤ x ∧ x ≤ k + m ∧ i = .int .i64 x ∧ Coding w wr k x v' V) (fun _ i _ => k + m - (intOf i).toNat)
  case atStart => exact ⟨k, _, _, rfl, by omega, by omega, rfl, H0.out⟩
  case round =>
    clear H0
    obtain ⟨W, rfl⟩ : ∃ W, W = wr := ⟨_, rfl⟩
    obtain ⟨x, v, V, rfl, hx1, hx2, rfl, hC⟩ := hrel
    by_cases hlt : x < k + m
    · have d5 : decide ((x : Int) < (k : Int) + (m : Int)) = true := decide_eq_true (by omega)
      have HC := Lib.hid hC
      obtain ⟨Av, nv, cv, rfl⟩ : ∃ A n c, v = Value.slice A n c := by obtain ⟨A, c, h⟩ := hC.list.anySlice; exact ⟨_, _, _, h⟩
      clear hC
      go_wp2_with fail
      refine (cweights_n k x W hx1 (by omega)).mono ?_
      rintro e w2 ⟨u, rfl, ho, hxu⟩
      obtain ⟨A1, n1, c1, rfl⟩ : ∃ A n c, u = Value.slice A n c := by obtain ⟨A, c, h⟩ := ho.anySlice; exact ⟨_, _, _, h⟩
      have hV1 := HC.out.list.ext hxu
      have hle1 : w.heap.size ≤ w2.heap.size := (HC.out.ext.trans hxu).le
      have hbd2 : (V.length + 1) * 24 ≤ 140737488355328 := by rw [HC.out.len]; omega
      have HO := Lib.hid ho
      have HX := Lib.hid hxu
      clear ho hxu
      go_wp2_with (at_builtin; refine wpList_push2 w2 eltRowEl rfl _ _ (by rfl) w.heap.size (.slice Av nv cv) _ (by rfl) (by exact hV1) (.slice A1 n1 c1) w2.heap.size rfl (by rfl) rfl hbd2 hle1 ?_)
      intro v2 w3 k1 k2 k3 k4
      have HP : Hid (Coding w w3 k (x + 1) v2 (V ++ [.slice A1 n1 c1])) := Lib.hid (by
        have hV1' := hV1.alloc (.cells #[.slice A1 n1 c1] 26)
        have hu1 := HO.out.alloc (.cells #[.slice A1 n1 c1] 26)
        refine ⟨(HC.out.ext.trans HX.out).below.trans k3, by simp [HC.out.len], k1, fun i u hu => ?_⟩
        rcases Nat.lt_trichotomy i V.length with h1 | h1 | h1
        · rw [List.getElem?_append_left h1] at hu
          have := ((HC.out.rows i u hu).ext HX.out).alloc (.cells #[.slice A1 n1 c1] 26)
          exact this.kept k2.grown (this.types hV1' (by decide))
        · subst h1
          rw [List.getElem?_append_right (Nat.le_refl _)] at hu
          simp at hu
          subst hu
          rw [HC.out.len]
          exact (hu1.kept k2.grown (hu1.types hV1' (by decide))).mono HC.out.ext.le
        · rw [List.getElem?_eq_none (by simp; omega)] at hu; cases hu)
      clear k1 k2 k3 k4 hV1 hle1 hbd2
      go_wp2_with fail
      go_roundw
      case rel => exact ⟨x + 1, v2, _, rfl, by omega, by omega, by go_num, HP.out⟩
      case measure => simp [intOf]; omega
    · obtain rfl : x = k + m := by omega
      obtain ⟨A, c, rfl, hr⟩ := hC.rd
      have d5 : decide (((k + m : Nat) : Int) < (k : Int) + (m : Int)) = false := decide_eq_false (by omega)
      have HE := Lib.hid (And.intro hr hC.ext)
      clear hr hC
      go_wp2_with fail
      go_ret2
      exact ⟨_, rfl, ⟨A, c, by rw [Int.natCast_add]; exact Blk.new _ _ _, HE.out.1.ext ((Ext.refl _).alloc _)⟩, HE.out.2.alloc _⟩
end Go.Proofs.Ytdoeelfcihdmbaa
/-
  Layer 4 for the laws of chapter 5: a row and so many times another one.
-/
namespace Go.Proofs.Ytdoeelfcihdmbaa
open Go.RowKit Gf
set_option maxRecDepth 20000
set_option linter.unusedVariables false

/-- What is known while a row is added on. -/
structure Adding (w wr : World) (B g L : Nat) (l : List E) : Prop where
  touch : Touch (fun b => b = g) w wr
  own : Own wr B 5 (.slice (some ⟨g, 0, none⟩) L L) (bs l)
theorem Adding.set {w wr : World} {B g L : Nat} {l : List E} (h : Adding w wr B g L l) (j : Nat) (x : E) : Adding w (wr.setCell ⟨g, j, none⟩ (.int .u8 (x.val : Int))) B g L (l.set j x) :=
  ⟨h.touch.trans (touch_set wr ⟨g, j, none⟩ _ rfl), by
    have := h.own.set j (.int .u8 (x.val : Int))
    rwa [show (bs l).set j (.int .u8 (x.val : Int)) = bs (l.set j x) from by rw [bs, bs, List.map_set]; rfl] at this⟩
theorem Adding.ext {w wr w2 : World} {B g L : Nat} {l : List E} (h : Adding w wr B g L l) (hx : Ext wr w2) : Adding w w2 B g L l := ⟨h.touch.ext hx, h.own.ext hx⟩
/-- The table of products while it is made. -/
structure Tabled (wr : World) (gt : Nat) (c : E) (j : Nat) : Prop where
  blk : ∃ cs, Blk wr gt 256 cs ∧ cs.size = 256 ∧ ∀ b, b < j → cs[b]? = some (.int .u8 ((c * E.of b).val : Int))
theorem Tabled.ext {w w' : World} {gt j : Nat} {c : E} (h : Tabled w gt c j) (hx : Ext w w') : Tabled w' gt c j := by
  obtain ⟨cs, h1, h2⟩ := h.blk
  exact ⟨cs, h1.below hx h1.lt, h2⟩
theorem Tabled.far {w : World} {gt j : Nat} {c : E} (h : Tabled w gt c j) {p : Addr} (hp : gt ≠ p.block) (u : Value) : Tabled (w.setCell p u) gt c j := by
  obtain ⟨cs, h1, h2⟩ := h.blk
  exact ⟨cs, h1.far hp u, h2⟩
theorem Tabled.step {w : World} {gt j : Nat} {c : E} (h : Tabled w gt c j) (hj : j < 256) : Tabled (w.setCell ⟨gt, j, none⟩ (.int .u8 ((c * E.of j).val : Int))) gt c (j + 1) := by
  obtain ⟨cs, h1, h2, h3⟩ := h.blk
  refine ⟨_, h1.set_ j _, by simpa using h2, fun b hb => ?_⟩
  rw [Array.getElem?_setIfInBounds]
  by_cases e : j = b
  · subst e; rw [if_pos rfl, if_pos (by omega)]
  · rw [if_neg e]; exact h3 b (by omega)
theorem Tabled.some_ {w : World} {gt j : Nat} {c : E} (h : Tabled w gt c j) {i : Nat} (hi : i < 256) : w.frozen? ⟨gt, i, none⟩ = false ∧ ∃ u, w.cell? ⟨gt, i, none⟩ = some u := by
  obtain ⟨cs, h1, h2, h3⟩ := h.blk
  exact ⟨h1.frozen i, cs[i], by rw [h1.cell i]; exact Array.getElem?_eq_getElem (by omega)⟩
theorem Tabled.cell {w : World} {gt : Nat} {c : E} (h : Tabled w gt c 256) (y : E) : w.cell? ⟨gt, y.val, none⟩ = some (.int .u8 ((c * y).val : Int)) := by
  obtain ⟨cs, h1, h2, h3⟩ := h.blk
  rw [h1.cell, h3 y.val y.lt, E.of_val]
theorem zero256 : (Try.zeroCells256).size = 256 := by kernel_rfl
theorem Tabled.start (w : World) (c : E) : Tabled (w.alloc (.cells Try.zeroCells256 256)) w.heap.size c 0 := ⟨_, Blk.new _ _ _, zero256, fun b h => by omega⟩
def AddOut (w : World) (B g L : Nat) (l : List E) (e : Ending) (w' : World) : Prop := e = .returned (.tuple #[]) ∧ Adding w w' B g L l
set_option maxHeartbeats 4000000 in
theorem add_n (g L B cr : Nat) (A : Option Addr) (xs ys : List E) (c : E) (w : World) (hx : xs.length = L) (hy : ys.length = L) (ho : Own w B 5 (.slice (some ⟨g, 0, none⟩) L L) (bs xs)) (hr : Rd w A (bs ys)) (hA : ∀ ad, A = some ad → ad.block ≠ g) (hL : L ≤ 1000000000000) :
    Calls Try.prog 190 #[.slice (some ⟨g, 0, none⟩) L L, .slice A L cr, .int .u8 (c.val : Int)] w (AddOut w B g L (elimR c xs ys)) := by
  have HX := Lib.hid hx
  have HY := Lib.hid hy
  have hll : (elimR c xs ys).length = xs.length := elimR_length (by rw [hx, hy])
  have HLL := Lib.hid hll
  have H0 := Lib.hid (Adding.mk (w := w) (Touch.refl w) ho)
  have HA := Lib.hid hA
  have HR := Lib.hid hr
  have hmo : Try.prog.follows Departure.mixedOrders = true := by kernel_rfl
  have hwd : Fence.wide.depth = none := rfl
  have hwf : ∀ f, Fence.wide.fn f := fun _ => trivial
  have hcl := c.lt
  clear hx hy hll ho hA hr
  by_cases h0 : c = 0
  · subst h0
    have g0 : (((0 : E).val : Int) == 0) = true := rfl
    go_enter Try.func190, Try.ntmps190
    go_wp2_with fail
    refine bodyPost_end (results_none rfl _ _ _) rfl ?_
    refine ⟨rfl, ?_⟩
    rw [elimR_zero (by rw [HX.out, HY.out])]
    exact H0.out
  have g0 : ((c.val : Int) == 0) = false := by
    rw [beq_eq_false_iff_ne]
    intro h
    exact h0 (E.ext (by show c.val = 0; omega))
  have HST : Hid (Adding w w B g L (mixL (elimR c xs ys) xs 0)) := Lib.hid (by rw [mixL_zero]; exact H0.out)
  clear H0
  by_cases h1 : c = 1
  · subst h1
    have g1 : (((1 : E).val : Int) == 1) = true := rfl
    clear h0
    go_enter Try.func190, Try.ntmps190
    go_wp2_with fail
    go_loopw [49] (fun i wr => ∃ j : Nat, j ≤ L ∧ i = .int .i64 j ∧ Adding w wr B g L (mixL (elimR 1 xs ys) xs j)) (fun i _ => L - (intOf i).toNat)
    case atStart => exact ⟨0, by omega, rfl, HST.out⟩
    case round =>
      clear HST
      obtain ⟨W, rfl⟩ : ∃ W, W = wr := ⟨_, rfl⟩
      obtain ⟨j, hj, rfl, had⟩ := hrel
      by_cases hlt : j < L
      · have hjx : j < xs.length := by rw [HX.out]; exact hlt
        have hjy : j < ys.length := by rw [HY.out]; exact hlt
        obtain ⟨ad, rfl, hc1⟩ := (HR.out.touch had.touch (fun ad h => HA.out ad h)).byte hjy
        have hc2 := had.own.cell (bs_get _ j (by rw [mixL_length HLL.out]; exact hjx))
        rw [mixL_get HLL.out hjx] at hc2
        have f1 := had.own.frozen j
        have hst := had.set j (xs[j] + ys[j])
        have e1 : xs[j] + ys[j] = (elimR 1 xs ys)[j]'(by rw [HLL.out]; exact hjx) := by rw [elimR_get (by rw [HX.out, HY.out]) hjx, E.one_mul]
        rw [e1, mixL_set HLL.out hjx, ← e1] at hst
        have hxo := bits_u8_xor xs[j] ys[j]
        have hl1 := (xs[j]).lt
        have hl2 := (ys[j]).lt
        have HP := Lib.hid hst
        clear had hst e1
        go_wp2_with fail
        go_roundw
        case rel => exact ⟨j + 1, by omega, by go_num, HP.out⟩
        case measure => simp [intOf]; omega
      · obtain rfl : L = j := by omega
        have HP : Hid (Adding w W B g L (elimR 1 xs ys)) := Lib.hid (by
          have := mixL_all HLL.out
          rw [HX.out] at this
          rw [← this]; exact had)
        clear had
        go_wp2_with fail
        refine bodyPost_end (results_none rfl _ _ _) rfl ?_
        exact ⟨rfl, HP.out⟩
  have g1 : ((c.val : Int) == 1) = false := by
    rw [beq_eq_false_iff_ne]
    intro h
    exact h1 (E.ext (by show c.val = 1; omega))
  clear h0 h1
  rcases (show L < 256 ∨ 256 ≤ L by omega) with h2 | h2
  · have d2 : decide ((L : Int) < 256) = true := decide_eq_true (by omega)
    go_enter Try.func190, Try.ntmps190
    go_wp2_with fail
    go_loopw [68] (fun i wr => ∃ j : Nat, j ≤ L ∧ i = .int .i64 j ∧ Adding w wr B g L (mixL (elimR c xs ys) xs j)) (fun i _ => L - (intOf i).toNat)
    case atStart => exact ⟨0, by omega, rfl, HST.out⟩
    case round =>
      clear HST
      obtain ⟨W, rfl⟩ : ∃ W, W = wr := ⟨_, rfl⟩
      obtain ⟨j, hj, rfl, had⟩ := hrel
      by_cases hlt : j < L
      · have hjx : j < xs.length := by rw [HX.out]; exact hlt
        have hjy : j < ys.length := by rw [HY.out]; exact hlt
        obtain ⟨ad, rfl, hc1⟩ := (HR.out.touch had.touch (fun ad h => HA.out ad h)).byte hjy
        have hc2 := had.own.cell (bs_get _ j (by rw [mixL_length HLL.out]; exact hjx))
        rw [mixL_get HLL.out hjx] at hc2
        have e1 : Hid (xs[j] + c * ys[j] = (elimR c xs ys)[j]'(by rw [HLL.out]; exact hjx)) := Lib.hid (by rw [elimR_get (by rw [HX.out, HY.out]) hjx])
        obtain ⟨yv, hyv⟩ : ∃ y, y = ys[j] := ⟨_, rfl⟩
        obtain ⟨xv, hxv⟩ : ∃ y, y = xs[j] := ⟨_, rfl⟩
        rw [← hyv] at hc1 e1
        rw [← hxv] at hc2 e1
        have hxo := bits_u8_xor xv (c * yv)
        have hl1 := xv.lt
        have hl2 := yv.lt
        have hl3 := (c * yv).lt
        have HAD := Lib.hid had
        have HL1 : Hid (L = xs.length) := Lib.hid HX.out.symm
        have hjL : (j : Int) < (L : Int) := by omega
        clear had hyv hxv
        go_wp2_with fail
        refine region_store_plain hmo (by kernel_rfl) (by kernel_rfl) (by kernel_rfl) ?_
        dsimp only [muted, mute, List.dropLast]
        repeat (gi_big_quiet_step ((gi_at_call 68; with_reducible refine (callsIn_wide.2 (times_any _ _ _)).mono ?_; rintro e w' ⟨rfl, rfl⟩; exact ⟨rfl, _, rfl⟩)))
        refine wpQuietIn_nil ?_
        rintro _ ⟨nq, rfl⟩ s hs'
        simp only [List.getLast?_cons_cons, List.getLast?_singleton, Option.some.injEq] at hs'
        subst hs'
        obtain ⟨W2, hW2⟩ : ∃ W2, W2 = W.drewN nq := ⟨_, rfl⟩
        have had2 : Adding w W2 B g L (mixL (elimR c xs ys) xs j) := by rw [hW2]; exact HAD.out.ext ((Ext.refl W).drewN nq)
        rw [← hW2]
        clear hW2 hc1 hc2 hxo
        have hc2 := had2.own.cell (bs_get _ j (by rw [mixL_length HLL.out]; exact hjx))
        have f1 := had2.own.frozen j
        have hst := had2.set j (xv + c * yv)
        rw [e1.out, mixL_set HLL.out hjx, ← e1.out] at hst
        have HP := Lib.hid hst
        clear had2 hst e1 HAD
        go_simp
        go_wp2_with fail
        go_roundw
        case rel => exact ⟨j + 1, by omega, by go_num, HP.out⟩
        case measure => simp [intOf]; omega
      · obtain rfl : L = j := by omega
        have HP : Hid (Adding w W B g L (elimR c xs ys)) := Lib.hid (by
          have := mixL_all HLL.out
          rw [HX.out] at this
          rw [← this]; exact had)
        clear had
        go_wp2_with fail
        refine bodyPost_end (results_none rfl _ _ _) rfl ?_
        exact ⟨rfl, HP.out⟩
  · have d2 : decide ((L : Int) < 256) = false := decide_eq_false (by omega)
    go_enter Try.func190, Try.ntmps190
    go_wp2_with fail
    have hgw : g < w.heap.size := (HST.out.own.lt g rfl).2
    have hne : g ≠ w.heap.size := by omega
    have H1 := Lib.hid (And.intro (HST.out.ext ((Ext.refl w).alloc (.cells Try.zeroCells256 256))) (Tabled.start w c))
    clear HST
    go_loopw [14] (fun i wr => ∃ j : Nat, j ≤ 256 ∧ i = .int .i64 j ∧ Adding w wr B g L (mixL (elimR c xs ys) xs 0) ∧ Tabled wr w.heap.size c j) (fun i _ => 256 - (intOf i).toNat)
    case atStart => exact ⟨0, by omega, rfl, H1.out.1, H1.out.2⟩
    case round =>
      clear H1
      obtain ⟨W, rfl⟩ : ∃ W, W = wr := ⟨_, rfl⟩
      obtain ⟨j, hj, rfl, had, htb⟩ := hrel
      by_cases hlt : j < 256
      · have hd256 : decide ((j : Int) < 256) = true := decide_eq_true (by omega)
        obtain ⟨f1, u1, c1⟩ := htb.some_ hlt
        have hst := htb.step hlt
        have had2 : Adding w (W.setCell ⟨w.heap.size, j, none⟩ (.int .u8 ((c * E.of j).val : Int))) B g L (mixL (elimR c xs ys) xs 0) :=
          ⟨⟨had.touch.os, had.touch.tape, had.touch.output, by simpa using had.touch.size, fun k hk hn => (Below.heap_setCell W ⟨w.heap.size, j, none⟩ _ k (by show k ≠ w.heap.size; omega)).trans (had.touch.block k hk hn)⟩, had.own.far (p := ⟨w.heap.size, j, none⟩) (by simp only [Value.ownBlock, ne_eq, Option.some.injEq]; exact hne) _⟩
        have HP := Lib.hid (And.intro had2 hst)
        have HC := Lib.hid (times_lit c.val j c (E.of j) rfl (by rw [E.val_of hlt]))
        have hel := (c * E.of j).lt
        clear had htb hst had2
        go_wp2_with (go_at_call 68; with_reducible refine (HC.out _).mono ?_; rintro e w' ⟨rfl, rfl⟩)
        go_roundw
        case rel => exact ⟨j + 1, by omega, by go_num, HP.out.1, HP.out.2⟩
        case measure => simp [intOf]; omega
      · obtain rfl : j = 256 := by omega
        have HS := Lib.hid (And.intro had htb)
        clear had htb
        go_wp2_with fail
        go_loopw [26] (fun i wr => ∃ j : Nat, j ≤ L ∧ i = .int .i64 j ∧ Adding w wr B g L (mixL (elimR c xs ys) xs j) ∧ Tabled wr w.heap.size c 256) (fun i _ => L - (intOf i).toNat)
        case atStart => exact ⟨0, by omega, rfl, HS.out.1, HS.out.2⟩
        case round =>
          clear HS
          obtain ⟨W2, rfl⟩ : ∃ W, W = wr := ⟨_, rfl⟩
          obtain ⟨j, hj, rfl, had, htb⟩ := hrel
          by_cases hlt : j < L
          · have hjx : j < xs.length := by rw [HX.out]; exact hlt
            have hjy : j < ys.length := by rw [HY.out]; exact hlt
            obtain ⟨ad, rfl, hc1⟩ := (HR.out.touch had.touch (fun ad h => HA.out ad h)).byte hjy
            have hc2 := had.own.cell (bs_get _ j (by rw [mixL_length HLL.out]; exact hjx))
            rw [mixL_get HLL.out hjx] at hc2
            have e1 : Hid (xs[j] + c * ys[j] = (elimR c xs ys)[j]'(by rw [HLL.out]; exact hjx)) := Lib.hid (by rw [elimR_get (by rw [HX.out, HY.out]) hjx])
            obtain ⟨yv, hyv⟩ : ∃ y, y = ys[j] := ⟨_, rfl⟩
            obtain ⟨xv, hxv⟩ : ∃ y, y = xs[j] := ⟨_, rfl⟩
            rw [← hyv] at hc1 e1
            rw [← hxv] at hc2 e1
            have hc3 := htb.cell yv
            have hxo := bits_u8_xor xv (c * yv)
            have hl1 := xv.lt
            have hl2 := yv.lt
            have hl3 := (c * yv).lt
            have hl4 : (yv.val : Int) < 256 := by omega
            have HAD := Lib.hid (And.intro had htb)
            have hjL : (j : Int) < (L : Int) := by omega
            clear had hyv hxv htb
            go_wp2_with fail
            refine region_store_plain hmo (by kernel_rfl) (by kernel_rfl) (by kernel_rfl) ?_
            dsimp only [muted, mute, List.dropLast]
            repeat (gi_big_quiet_step (fail))
            refine wpQuietIn_nil ?_
            rintro _ ⟨nq, rfl⟩ s hs'
            simp only [List.getLast?_cons_cons, List.getLast?_singleton, Option.some.injEq] at hs'
            subst hs'
            obtain ⟨W3, hW3⟩ : ∃ W', W' = W2.drewN nq := ⟨_, rfl⟩
            have had2 : Adding w W3 B g L (mixL (elimR c xs ys) xs j) := by rw [hW3]; exact HAD.out.1.ext ((Ext.refl W2).drewN nq)
            have htb2 : Tabled W3 w.heap.size c 256 := by rw [hW3]; exact HAD.out.2.ext ((Ext.refl W2).drewN nq)
            rw [← hW3]
            clear hW3 hc1 hc2 hc3 hxo
            have hc2 := had2.own.cell (bs_get _ j (by rw [mixL_length HLL.out]; exact hjx))
            have f1 := had2.own.frozen j
            have hst := had2.set j (xv + c * yv)
            rw [e1.out, mixL_set HLL.out hjx, ← e1.out] at hst
            have HP := Lib.hid (And.intro hst (htb2.far (p := ⟨g, j, none⟩) (fun h => hne h.symm) (.int .u8 ((xv + c * yv).val : Int))))
            clear had2 htb2 hst e1 HAD
            go_simp
            go_wp2_with fail
            go_roundw
            case rel => ((repeat apply Exists.intro); exact ⟨⟨j + 1, by omega, by go_num, HP.out.1, HP.out.2⟩, rfl⟩)
            case measure => simp [intOf]; omega
          · obtain rfl : L = j := by omega
            have HP : Hid (Adding w W2 B g L (elimR c xs ys)) := Lib.hid (by
              have := mixL_all HLL.out
              rw [HX.out] at this
              rw [← this]; exact had)
            clear had htb
            go_wp2_with fail
            refine bodyPost_end (results_none rfl _ _ _) rfl ?_
            exact ⟨rfl, HP.out⟩
end Go.Proofs.Ytdoeelfcihdmbaa
/-
  Layer 4 for the laws of chapter 5: a matrix times rows of bytes.
-/
namespace Go.Proofs.Ytdoeelfcihdmbaa
open Go.RowKit Gf
set_option maxRecDepth 20000
set_option linter.unusedVariables false

section
variable {P : Program} {C : World → Prop} {L : Nat → Nat} {Q : Act → World → Prop}
theorem mix_callLast {k : Nat} {o : Oper} {rest : List Oper} {a : Act} {w : World} (f : FuncId) (args : Array Value) (hL : L k = 2) (hr : (execOp a.eval o).run P w = .ok (.enter f args) w)
    (h : Calls P f args w fun e w' => ∃ u, e = .returned u ∧ wpMix P C L Q (k + 1) rest (a.put o.dst u) w') : wpMix P C L Q k (o :: rest) a w :=
  .inr ⟨by unfold isQ; omega, .inr (.inr ⟨f, args, w, hr, h.mono fun e w' ⟨u, he, hn⟩ => ⟨u, he, fun e => by omega, hn⟩⟩)⟩
end
/-- A row of the product, its first j terms. -/
def prodRow (r : List E) (data : List (List E)) (L j : Nat) : List E := (List.range L).map fun c => sumN j fun t => r.getD t 0 * (data.getD t []).getD c 0
theorem prodRow_length (r : List E) (data : List (List E)) (L j : Nat) : (prodRow r data L j).length = L := by simp [prodRow]
theorem prodRow_get (r : List E) (data : List (List E)) (L j c : Nat) (h : c < L) : (prodRow r data L j)[c]? = some (sumN j fun t => r.getD t 0 * (data.getD t []).getD c 0) := by simp [prodRow, h]
theorem prodRow_zero (r : List E) (data : List (List E)) (L : Nat) : prodRow r data L 0 = List.replicate L 0 := by
  apply List.ext_getElem?
  intro c
  by_cases h : c < L
  · rw [prodRow_get _ _ _ _ _ h]; simp [h, sumN]
  · rw [List.getElem?_eq_none (by rw [prodRow_length]; omega), List.getElem?_eq_none (by simp; omega)]
theorem prodRow_step {r : List E} {data : List (List E)} {L j : Nat} (hj : j < data.length) (hr : j < r.length) (hl : data[j].length = L) : elimR r[j] (prodRow r data L j) data[j] = prodRow r data L (j + 1) := by
  have hll : data[j].length = (prodRow r data L j).length := by rw [prodRow_length, hl]
  apply List.ext_getElem?
  intro c
  by_cases h : c < L
  · have h1 : c < (prodRow r data L j).length := by rw [prodRow_length]; exact h
    rw [List.getElem?_eq_getElem (by rw [elimR_length hll]; exact h1), elimR_get hll h1, prodRow_get _ _ _ _ _ h, sumN]
    have h2 : (prodRow r data L j)[c] = sumN j fun t => r.getD t 0 * (data.getD t []).getD c 0 := by
      have := prodRow_get r data L j c h
      rw [List.getElem?_eq_getElem h1] at this
      exact Option.some.inj this
    have h3 : r.getD j 0 = r[j] := by rw [List.getD_eq_getElem?_getD, List.getElem?_eq_getElem hr]; rfl
    have h4 : (data.getD j []).getD c 0 = data[j][c]'(by rw [hl]; exact h) := by
      rw [List.getD_eq_getElem?_getD (l := data), List.getElem?_eq_getElem hj, Option.getD_some, List.getD_eq_getElem?_getD, List.getElem?_eq_getElem (by rw [hl]; exact h)]; rfl
    rw [h2, h3, h4]
  · rw [List.getElem?_eq_none (by rw [elimR_length hll, prodRow_length]; omega), List.getElem?_eq_none (by rw [prodRow_length]; omega)]
/-- The product. -/
def prodM (mat data : List (List E)) (L : Nat) : List (List E) := mat.map fun r => prodRow r data L data.length
theorem prodM_length (mat data : List (List E)) (L : Nat) : (prodM mat data L).length = mat.length := List.length_map _
/-- The rows while they are made. -/
structure PSt (W1 wr : World) (N : Nat) (V : List Value) (R : Nat → List E) : Prop where
  ext : Ext W1 wr
  len : V.length = N
  list : Own wr W1.heap.size 24 (.slice (some ⟨W1.heap.size, 0, none⟩) N N) V
  rows : OwnRows wr W1.heap.size 5 V R
  far : FarApart V
section
variable {W1 wr w2 : World} {N : Nat} {V : List Value} {R : Nat → List E}
theorem PSt.beyond (h : PSt W1 wr N V R) (hx : Ext wr w2) : PSt W1 w2 N V R := ⟨h.ext.trans hx, h.len, h.list.ext hx, ⟨fun i v hi => (h.rows.own i v hi).ext hx⟩, h.far⟩
theorem PSt.congr {R' : Nat → List E} (h : PSt W1 wr N V R) (e : ∀ i, i < N → R i = R' i) : PSt W1 wr N V R' :=
  ⟨h.ext, h.len, h.list, ⟨fun i v hi => by rw [← e i (by rw [← h.len]; exact (List.getElem?_eq_some_iff.1 hi).1)]; exact h.rows.own i v hi⟩, h.far⟩
theorem PSt.start (W1 : World) (N : Nat) (R : Nat → List E) (hR : ∀ i, R i = []) (hN : N ≤ 1000000) : PSt W1 (W1.alloc (.cells (zrow (.slice none 0 0) N) 24)) N (List.replicate N (.slice none 0 0)) R := by
  refine ⟨(Ext.refl W1).alloc _, List.length_replicate, ?_, ⟨fun i v hi => ?_⟩, fun i j a b ha hb _ => ?_⟩
  · have h1 := (Blk.new W1 24 (zrow (.slice none 0 0) N)).own (B := W1.heap.size) (n := N) (cap := N) (Nat.le_refl _) (Nat.le_refl _) (by simp only [maxLen]; omega) (zrow_size _ _)
    rw [zrow_list, List.take_of_length_le (by simp)] at h1
    exact h1
  · rw [List.eq_of_mem_replicate (List.mem_of_getElem? hi), hR]
    exact Own.nil _ _ _
  · rw [List.eq_of_mem_replicate (List.mem_of_getElem? ha)]
    left; rfl
/-- A new row is hung on. -/
theorem PSt.hang (h : PSt W1 wr N V R) {i L : Nat} (hi : i < N) (hL : L ≤ maxLen) :
    PSt W1 ((wr.alloc (.cells (zrow (.int .u8 0) L) 5)).setCell ⟨W1.heap.size, i, none⟩ (.slice (some ⟨wr.heap.size, 0, none⟩) L L)) N (V.set i (.slice (some ⟨wr.heap.size, 0, none⟩) L L)) (updR R i (List.replicate L 0)) := by
  have hxa : Ext wr (wr.alloc (.cells (zrow (.int .u8 0) L) 5)) := (Ext.refl wr).alloc _
  have hrow := (Blk.new wr 5 (zrow (.int .u8 0) L)).own (B := W1.heap.size) (n := L) (cap := L) h.ext.le (Nat.le_refl _) hL (zrow_size _ _)
  rw [zrow_list, List.take_of_length_le (by simp)] at hrow
  have hz : (List.replicate L (.int .u8 0) : List Value) = bs (List.replicate L 0) := by rw [bs, List.map_replicate]; rfl
  rw [hz] at hrow
  have hil : i < V.length := by rw [h.len]; exact hi
  have hl2 := h.list.ext hxa
  have old : ∀ j u, j ≠ i → (V.set i (.slice (some ⟨wr.heap.size, 0, none⟩) L L))[j]? = some u → V[j]? = some u := fun j u e hu => by rwa [List.getElem?_set_ne (fun h => e h.symm)] at hu
  refine ⟨(h.ext.trans hxa).new (p := ⟨W1.heap.size, i, none⟩) (Nat.le_refl _) _, by rw [List.length_set]; exact h.len, hl2.set i _, ⟨fun j u hj => ?_⟩, fun j l a b ha hb hne => ?_⟩
  · have hown : Own (wr.alloc (.cells (zrow (.int .u8 0) L) 5)) W1.heap.size 5 u (bs (updR R i (List.replicate L 0) j)) := by
      by_cases e : j = i
      · subst e
        rw [List.getElem?_set_self hil] at hj; cases hj
        rw [updR_same]; exact hrow
      · rw [updR_other _ _ _ e]
        exact (h.rows.own j u (old j u e hj)).ext hxa
    exact hown.far (p := ⟨W1.heap.size, i, none⟩) (ne_some (hown.types hl2 (by decide))) _
  · have new : ∀ j u, j ≠ i → (V.set i (.slice (some ⟨wr.heap.size, 0, none⟩) L L))[j]? = some u → u.ownBlock ≠ some wr.heap.size := fun j u e hu e2 => Nat.lt_irrefl _ ((h.rows.own j u (old j u e hu)).lt _ e2).2
    by_cases e1 : j = i
    · subst e1
      rw [List.getElem?_set_self hil] at ha; cases ha
      right
      intro e3
      exact new l b (fun e => hne e.symm) hb e3.symm
    · by_cases e2 : l = i
      · subst e2
        rw [List.getElem?_set_self hil] at hb; cases hb
        right
        exact new j a e1 ha
      · exact h.far j l a b (old j a e1 ha) (old l b e2 hb) hne
/-- A row has been added onto. -/
theorem PSt.added (h : PSt W1 wr N V R) {i g L : Nat} {l : List E} (hi : V[i]? = some (.slice (some ⟨g, 0, none⟩) L L)) (ha : Adding wr w2 W1.heap.size g L l) : PSt W1 w2 N V (updR R i l) := by
  have hr := h.rows.own i _ hi
  have hg := hr.lt g rfl
  refine ⟨h.ext.below.trans (ha.touch.below (fun k _ e => by rw [e]; exact hg.1) h.ext.le), h.len, h.list.touch ha.touch fun k hk e => ?_, ⟨fun j u hj => ?_⟩, h.far⟩
  · rcases h.list.types hr (by decide) with h1 | h1
    · rw [h1] at hk; cases hk
    · exact h1 (by rw [hk, e]; rfl)
  · by_cases e : j = i
    · subst e
      rw [hi] at hj; cases hj
      rw [updR_same]; exact ha.own
    · rw [updR_other _ _ _ e]
      exact (h.rows.own j u hj).touch ha.touch fun k hk e2 => by
        rcases h.far j i u _ hj hi e with h1 | h1
        · rw [h1] at hk; cases hk
        · exact h1 (by rw [hk, e2]; rfl)
theorem PSt.rowsOut {rs : List (List E)} (h : PSt W1 wr N V (fun i => rs.getD i [])) (hN : rs.length = N) : RowsOut wr W1.heap.size (.slice (some ⟨W1.heap.size, 0, none⟩) N N) rs :=
  ⟨V, h.list, by rw [h.len, hN], fun i u hu => h.rows.own i u hu, h.far⟩
end
end Go.Proofs.Ytdoeelfcihdmbaa
/-
  Layer 4 for the laws of chapter 5: the walks of product, even, none, Encode, Check.
-/
namespace Go.Proofs.Ytdoeelfcihdmbaa
open Go.RowKit Gf
set_option maxRecDepth 20000
set_option linter.unusedVariables false

set_option maxHeartbeats 4000000 in
theorem product_n (A C : Option Addr) (n k ca cb L : Nat) (mat data : List (List E)) (w : World) (hn : mat.length = n) (hk : data.length = k) (hr : RdRows w A mat) (hs : RdRows w C data) (hm : ∀ r ∈ mat, r.length = k) (hd : ∀ r ∈ data, r.length = L) (hk0 : 0 < k) (hL0 : 0 < L) (hn2 : n ≤ 255) (hk2 : k ≤ 255) (hL : L ≤ 1000000000) :
    Calls Try.prog 172 #[.slice A n ca, .slice C k cb] w fun e w' => ∃ v, e = .returned v ∧ RowsOut w' w.heap.size v (prodM mat data L) ∧ Ext w w' := by
  have HN := Lib.hid hn
  have HK := Lib.hid hk
  have HM := Lib.hid hm
  have HD := Lib.hid hd
  have HR := Lib.hid hr
  have HS := Lib.hid hs
  have hmo : Try.prog.follows Departure.mixedOrders = true := by kernel_rfl
  have hmkN : ∀ w, (Instr.makeSlice 32 (.int .i64 (n : Int)) (.int .i64 (n : Int))).run Try.prog w = .ok (.slice (some ⟨w.heap.size, 0, none⟩) n n) (w.alloc (.cells (zrow (.slice none 0 0) n) 24)) := fun w => run_make_elt eltRowU8 _ _ n (by omega) w
  have hmkL : ∀ w, (Instr.makeSlice 24 (.int .i64 (L : Int)) (.int .i64 (L : Int))).run Try.prog w = .ok (.slice (some ⟨w.heap.size, 0, none⟩) L L) (w.alloc (.cells (zrow (.int .u8 0) L) 5)) := fun w => run_make_elt eltU8 _ _ L (by omega) w
  have H0 := Lib.hid (PSt.start w n (fun i => if i < 0 then prodRow (mat.getD i []) data L k else []) (fun i => if_neg (by omega)) (by omega))
  obtain ⟨cd, D0, e0, hC, hz0, -, -, -⟩ := hs.at_ (show 0 < data.length by rw [hk]; exact hk0)
  subst hC
  rw [add_zero', hd _ (List.getElem_mem _)] at hz0
  have HZ0 := Lib.hid hz0
  clear hn hk hm hd hr hs hz0
  go_enter Try.func172, Try.ntmps172
  go_wp2_with fail
  go_loopw [15] (fun i wr => ∃ (q : Nat) (V : List Value), q ≤ n ∧ i = .int .i64 q ∧ PSt w wr n V (fun i => if i < q then prodRow (mat.getD i []) data L k else [])) (fun i _ => n - (intOf i).toNat)
  case atStart => exact ⟨0, _, by omega, rfl, H0.out⟩
  case round =>
    clear H0
    obtain ⟨W, rfl⟩ : ∃ W, W = wr := ⟨_, rfl⟩
    obtain ⟨q, V, hq, rfl, hst⟩ := hrel
    by_cases hlt : q < n
    · have hqm : q < mat.length := by rw [HN.out]; exact hlt
      obtain ⟨ad, B1, c1, hA, hc1w, hr1, -, -⟩ := HR.out.at_ hqm
      have hc1 := (hst.ext.cell (World.block_lt_of_cell? _ _ hc1w)).trans hc1w
      clear hc1w
      subst hA
      have hrl : mat[q].length = k := HM.out _ (List.getElem_mem hqm)
      rw [hrl] at hc1
      have hz : W.cell? cd = some (.slice D0 L e0) := hst.ext.cell (World.block_lt_of_cell? _ _ HZ0.out) ▸ HZ0.out
      have hza : (W.alloc (.cells (zrow (.int .u8 0) L) 5)).cell? cd = some (.slice D0 L e0) := ((Ext.refl W).alloc _).cell (World.block_lt_of_cell? _ _ hz) ▸ hz
      have hl1 := hst.list.ext ((Ext.refl W).alloc (.cells (zrow (.int .u8 0) L) 5))
      have f1 := hl1.frozen q
      obtain ⟨u1, cu⟩ : ∃ u, (W.alloc (.cells (zrow (.int .u8 0) L) 5)).cell? ⟨w.heap.size, q, none⟩ = some u := ⟨_, hl1.cell (List.getElem?_eq_getElem (show q < V.length by rw [hst.len]; exact hlt))⟩
      have hh := hst.hang (i := q) (L := L) hlt (by simp only [maxLen]; omega)
      have HROW := Lib.hid hr1
      have HRL := Lib.hid hrl
      have hW := hst.ext.le
      have HVL := Lib.hid hst.len
      have hqN : (q : Int) < (n : Int) := by omega
      have hk0' : (0 : Int) < (k : Int) := by omega
      have HH := Lib.hid hh
      clear hst hr1 hrl hl1 hh
      go_wp2_with fail
      obtain ⟨Wh, hWh⟩ : ∃ x, x = (W.alloc (.cells (zrow (.int .u8 0) L) 5)).setCell ⟨w.heap.size, q, none⟩ (.slice (some ⟨W.heap.size, 0, none⟩) L L) := ⟨_, rfl⟩
      obtain ⟨V2, hV2⟩ : ∃ x, x = V.set q (.slice (some ⟨W.heap.size, 0, none⟩) L L) := ⟨_, rfl⟩
      rw [← hWh, ← hV2] at HH
      rw [← hWh]
      have hV2q : V2[q]? = some (.slice (some ⟨W.heap.size, 0, none⟩) L L) := by rw [hV2]; exact List.getElem?_set_self (by rw [HVL.out]; exact hlt)
      have HVQ := Lib.hid hV2q
      obtain ⟨rr, hrr⟩ : ∃ x, x = mat[q] := ⟨_, rfl⟩
      have HRR := Lib.hid hrr
      rw [← hrr] at HROW HRL
      clear hWh hV2 hV2q hrr hc1 hz hza f1 cu HVL
      have H1 : Hid (PSt w Wh n V2 (updR (fun i => if i < q then prodRow (mat.getD i []) data L k else []) q (prodRow rr data L 0))) := Lib.hid (by rw [prodRow_zero]; exact HH.out)
      have hgw : w.heap.size ≤ W.heap.size := hW
      clear HH
      go_loopw [30] (fun i wr => ∃ j : Nat, j ≤ k ∧ i = .int .i64 j ∧ PSt w wr n V2 (updR (fun i => if i < q then prodRow (mat.getD i []) data L k else []) q (prodRow rr data L j))) (fun i _ => k - (intOf i).toNat)
      case atStart => exact ⟨0, by omega, rfl, H1.out⟩
      case round =>
        clear H1
        obtain ⟨W3, rfl⟩ : ∃ W, W = wr := ⟨_, rfl⟩
        obtain ⟨j, hj, rfl, hst⟩ := hrel
        by_cases hlt2 : j < k
        · have hjr : j < rr.length := by rw [HRL.out]; exact hlt2
          have hjd : j < data.length := by rw [HK.out]; exact hlt2
          have hdl : data[j].length = L := HD.out _ (List.getElem_mem hjd)
          obtain ⟨bd, rfl, hc2⟩ := (HROW.out.ext hst.ext).byte hjr
          obtain ⟨cd', D, cD, hC, hc3w, hrd, -, -⟩ := HS.out.at_ hjd
          cases hC
          rw [hdl] at hc3w
          obtain ⟨dad, hD, hdlt⟩ := hrd.lt (by rw [bs_length, hdl]; exact hL0)
          subst hD
          have hc3 := (hst.ext.cell (World.block_lt_of_cell? _ _ hc3w)).trans hc3w
          have hc4 := hst.list.cell HVQ.out
          have hown := hst.rows.own q _ HVQ.out
          rw [updR_same] at hown
          have hx0 : Ext W3 W3.drew := (Ext.refl W3).drewN 1
          have hcl := (rr[j]).lt
          have d1 : ∀ w', Ext W3 w' → w'.cell? ⟨w.heap.size, q, none⟩ = some (.slice (some ⟨W.heap.size, 0, none⟩) L L) := fun w' h => (h.cell (World.block_lt_of_cell? _ _ hc4)).trans hc4
          have d2 : ∀ w', Ext W3 w' → w'.cell? (cd.add j) = some (.slice (some dad) L cD) := fun w' h => (h.cell (World.block_lt_of_cell? _ _ hc3)).trans hc3
          have HCALL := Lib.hid (add_n W.heap.size L w.heap.size cD (some dad) (prodRow rr data L j) data[j] rr[j] W3.drew (prodRow_length _ _ _ _) hdl (hown.ext hx0) ((hrd.ext hst.ext).ext hx0) (fun ad e => by cases e; omega) (by omega))
          have HSTEP := Lib.hid (prodRow_step (L := L) hjd hjr hdl)
          have HST := Lib.hid hst
          have hjk : (j : Int) < (k : Int) := by omega
          have hqN : (q : Int) < (n : Int) := by omega
          clear hst hown hrd hc3w hc4 hdl hx0 hdlt hc3
          have hc3 := d2 W3 (Ext.refl _)
          go_wp2_with fail
          refine wp_region_mix (fun i => [0, 0, 0, 0, 0, 0, 0, 0, 0, 2].getD i 0) (fun w' => Ext W3 w') hmo (by kernel_rfl) (by kernel_rfl) ((Ext.refl _).drewN 1) ?_
          refine mix_still (.slice (some ⟨w.heap.size, 0, none⟩) n n) rfl (fun w' hw' => by go_simp) ?_
          refine mix_still (.int .i64 (q : Int)) rfl (fun w' hw' => by go_simp) ?_
          refine mix_still (.pointer (some ⟨w.heap.size, q, none⟩)) rfl (fun w' hw' => by go_simp) ?_
          refine mix_still (.slice (some ⟨W.heap.size, 0, none⟩) L L) rfl (fun w' hw' => by have := d1 w' hw'; go_simp) ?_
          refine mix_still (.slice (some cd) k cb) rfl (fun w' hw' => by go_simp) ?_
          refine mix_still (.int .i64 (j : Int)) rfl (fun w' hw' => by go_simp) ?_
          refine mix_still (.pointer (some (cd.add j))) rfl (fun w' hw' => by go_simp) ?_
          refine mix_still (.slice (some dad) L cD) rfl (fun w' hw' => by have := d2 w' hw'; go_simp) ?_
          refine mix_still (.int .u8 ((rr[j]).val : Int)) rfl (fun w' hw' => by go_simp) ?_
          refine mix_callLast 190 #[.slice (some ⟨W.heap.size, 0, none⟩) L L, .slice (some dad) L cD, .int .u8 ((rr[j]).val : Int)] rfl (by go_simp) ?_
          refine HCALL.out.mono ?_
          rintro e W4 ⟨rfl, hadd⟩
          refine ⟨_, rfl, ?_⟩
          refine mix_nil ?_
          have HP : Hid (PSt w W4 n V2 (updR (fun i => if i < q then prodRow (mat.getD i []) data L k else []) q (prodRow rr data L (j + 1)))) := Lib.hid (by
            have := (HST.out.beyond ((Ext.refl W3).drewN 1)).added HVQ.out hadd
            rw [HSTEP.out] at this
            refine this.congr fun i' _ => ?_
            by_cases e : i' = q
            · subst e; rw [updR_same, updR_same]
            · rw [updR_other _ _ _ e, updR_other _ _ _ e, updR_other _ _ _ e])
          clear hadd HCALL HSTEP HST d1 d2
          go_wp2_with fail
          go_roundw
          case rel => exact ⟨j + 1, by omega, by go_num, HP.out⟩
          case measure => simp [intOf]; omega
        · obtain rfl : j = k := by omega
          have HP := Lib.hid (hst.congr (R' := fun i => if i < q + 1 then prodRow (mat.getD i []) data L j else []) fun i' _ => by
            by_cases e : i' = q
            · subst e
              rw [updR_same, if_pos (Nat.lt_succ_self _), HRR.out, List.getD_eq_getElem?_getD, List.getElem?_eq_getElem hqm]; rfl
            · rw [updR_other _ _ _ e]
              by_cases e2 : i' < q
              · rw [if_pos e2, if_pos (by omega)]
              · rw [if_neg e2, if_neg (by omega)])
          clear hst
          go_wp2_with fail
          go_roundw
          case rel => exact ⟨q + 1, V2, by omega, by go_num, HP.out⟩
          case measure => simp [intOf]; omega
    · obtain rfl : n = q := by omega
      have HP : Hid (RowsOut W w.heap.size (.slice (some ⟨w.heap.size, 0, none⟩) n n) (prodM mat data L) ∧ Ext w W) := Lib.hid ⟨PSt.rowsOut (hst.congr fun i hi => by
        rw [if_pos hi, List.getD_eq_getElem?_getD, List.getD_eq_getElem?_getD, prodM, List.getElem?_map, List.getElem?_eq_getElem (show i < mat.length by rw [HN.out]; exact hi), HK.out]; rfl) (by rw [prodM_length, HN.out]), hst.ext⟩
      clear hst
      go_wp2
      go_ret
      exact ⟨_, rfl, HP.out.1, HP.out.2⟩
end Go.Proofs.Ytdoeelfcihdmbaa
/-
  Layer 4 for the laws of chapter 5: the walks of none, even, Encode, Check.
-/
namespace Go.Proofs.Ytdoeelfcihdmbaa
open Go.RowKit Gf
set_option maxRecDepth 20000
set_option linter.unusedVariables false

theorem none_n (g k n : Nat) (w : World) (hk : 1 ≤ k) (h : CodeAt w g k n) : Calls Try.prog 148 #[.pointer (some ⟨g, 0, none⟩)] w fun e w' => e = .returned (.bool false) ∧ w = w' := by
  obtain ⟨A, c, hb, -⟩ := h.ex
  have h0 : w.cell? ⟨g, 0, none⟩ = some (.int .i64 (k : Int)) := hb.cell 0
  have hk0 : ((k : Int) == 0) = false := by rw [beq_eq_false_iff_ne]; omega
  clear hb h
  go_enter Try.func148, Try.ntmps148
  go_wp2
  go_ret
  exact ⟨rfl, rfl⟩
set_option maxHeartbeats 1000000 in
theorem even_n (C : Option Addr) (k cb L : Nat) (data : List (List E)) (w : World) (hk : data.length = k) (hs : RdRows w C data) (hd : ∀ r ∈ data, r.length = L) (hk2 : k ≤ 1000000) :
    Calls Try.prog 149 #[.slice C k cb] w fun e w' => e = .returned (.bool true) ∧ w = w' := by
  have HK := Lib.hid hk
  have HD := Lib.hid hd
  clear hk hd
  go_enter Try.func149, Try.ntmps149
  go_wp2_with fail
  go_loop [7] (fun i => ∃ q : Nat, q ≤ k ∧ i = .int .i64 q) (fun i => k - (intOf i).toNat)
  case atStart => exact ⟨0, by omega, rfl⟩
  case round =>
    obtain ⟨q, hq, rfl⟩ := hrel
    by_cases hlt : q < k
    · obtain ⟨cd, D0, e0, hC, hz0, -, -, -⟩ := hs.at_ (show 0 < data.length by rw [HK.out]; omega)
      subst hC
      rw [add_zero', HD.out _ (List.getElem_mem _)] at hz0
      obtain ⟨cd', D1, e1, hC, hz1, -, -, -⟩ := hs.at_ (show q < data.length by rw [HK.out]; exact hlt)
      cases hC
      rw [HD.out _ (List.getElem_mem _)] at hz1
      have hk0' : (0 : Int) < (k : Int) := by omega
      have hd0 : ((L : Int) != (L : Int)) = false := by simp
      go_wp2_with fail
      go_round
      case rel => exact ⟨q + 1, by omega, by go_num⟩
      case measure => simp [intOf]; omega
    · obtain rfl : k = q := by omega
      go_wp2
      go_ret
      exact ⟨rfl, rfl⟩
theorem codeR_rows {k n : Nat} : ∀ r ∈ codeR k n, r.length = k := fun r hr => by
  obtain ⟨i, _, rfl⟩ := List.mem_map.1 hr
  exact wrow_length _ _ _
/-- What a code makes of data. -/
def encM (k n L : Nat) (data : List (List E)) : List (List E) := prodM (codeR k n) data L
theorem encM_length (k n L : Nat) (data : List (List E)) : (encM k n L data).length = n := by rw [encM, prodM_length, codeR_length]
set_option maxHeartbeats 1000000 in
theorem encode_n (g k n : Nat) (C : Option Addr) (cb L : Nat) (data : List (List E)) (w : World) (hc : CodeAt w g k n) (hk : data.length = k) (hs : RdRows w C data) (hd : ∀ r ∈ data, r.length = L) (hk0 : 0 < k) (hL0 : 0 < L) (hn2 : n ≤ 255) (hk2 : k ≤ 255) (hL : L ≤ 1000000000) :
    Calls Try.prog 145 #[.pointer (some ⟨g, 0, none⟩), .slice C k cb] w fun e w' => ∃ v, e = .returned (.tuple #[v, .int .i64 0]) ∧ RowsOut w' w.heap.size v (encM k n L data) ∧ Ext w w' := by
  obtain ⟨A, c, hb, hr⟩ := hc.ex
  have h0 : w.cell? ⟨g, 0, none⟩ = some (.int .i64 (k : Int)) := hb.cell 0
  have h2 : w.cell? ⟨g, 2, none⟩ = some (.slice A n c) := hb.cell 2
  have HK := Lib.hid hk
  have HD := Lib.hid hd
  have HS := Lib.hid hs
  have HC := Lib.hid hc
  have HR := Lib.hid hr
  obtain ⟨cd, D0, e0, hC, hz0, -, -, -⟩ := hs.at_ (show 0 < data.length by rw [hk]; exact hk0)
  subst hC
  rw [add_zero', hd _ (List.getElem_mem _)] at hz0
  have hL1 : ((L : Int) == 0) = false := by rw [beq_eq_false_iff_ne]; omega
  have hkk : ((k : Int) != (k : Int)) = false := by simp
  have hk0' : (0 : Int) < (k : Int) := by omega
  clear hk hd hs hc hr hb
  go_enter Try.func145, Try.ntmps145
  go_wp2_with fail
  refine (none_n g k n w hk0 HC.out).mono ?_
  rintro e w' ⟨rfl, rfl⟩
  go_wp2_with fail
  refine (even_n (some cd) k cb L data w HK.out HS.out HD.out (by omega)).mono ?_
  rintro e w' ⟨rfl, rfl⟩
  go_wp2_with fail
  refine (product_n A (some cd) n k c cb L (codeR k n) data w (codeR_length k n) HK.out HR.out HS.out codeR_rows HD.out hk0 hL0 hn2 hk2 hL).mono ?_
  rintro e w1 ⟨v, rfl, ho, hx⟩
  have HO := Lib.hid ho
  have HX := Lib.hid hx
  clear ho hx
  go_wp2_with fail
  go_ret2
  exact ⟨v, rfl, HO.out, HX.out⟩
def bytesU (xs : List E) : List UInt8 := xs.map fun x => UInt8.ofNat x.val
theorem bytesU_length (xs : List E) : (bytesU xs).length = xs.length := List.length_map _
theorem convert_n {w : World} {ad : Addr} {xs : List E} {L : Nat} (hl : xs.length = L) (hr : Rd w (some ad) (bs xs)) (c : Nat) : (convert 24 9 (.slice (some ad) L c)).run Try.prog w = .ok (.string ⟨(bytesU xs).toArray⟩) w := by
  subst hl
  rw [← bytesU_length xs]
  refine run_convert_bytes_back w _ _ 5 ad c (bytesU xs) Try.underlying24 (by kernel_rfl) (by kernel_rfl) fun j hj => ?_
  have hjx : j < xs.length := by rw [← bytesU_length]; exact hj
  obtain ⟨ad', e, h⟩ := hr.byte hjx
  cases e
  rw [h]
  have := (xs[j]).lt
  simp only [bytesU, List.getElem_map, UInt8.toNat_ofNat']
  rw [Nat.mod_eq_of_lt (by omega)]
theorem RdRows.take {w : World} {A : Option Addr} {rs : List (List E)} (h : RdRows w A rs) (k : Nat) : RdRows w A (rs.take k) := by
  obtain ⟨V, h1, h2, h3⟩ := h
  refine ⟨V.take k, by rw [List.length_take, List.length_take, h1], h2.take k, fun i r hi => ?_⟩
  have hik : i < k := by
    have := (List.getElem?_eq_some_iff.1 hi).1
    rw [List.length_take] at this; omega
  rw [List.getElem?_take_of_lt hik] at hi ⊢
  exact h3 i r hi
end Go.Proofs.Ytdoeelfcihdmbaa
/-
  Layer 5, plain: what is answered of rows is a code word in each column, near, with just the places that differ; and it stays.
-/
namespace Go.Proofs.Ytdoeelfcihdmbaa
open Go.RowKit Gf
set_option maxRecDepth 20000
set_option linter.unusedVariables false

section
variable {k L : Nat} {rs : List (List E)} {O : Nat → List E} {B : Nat → List Nat}
end
end Go.Proofs.Ytdoeelfcihdmbaa
/-
  Layer 5: rows of a code from data of any lengths (the laws' encoded).
-/
namespace Go.Proofs.Ytdoeelfcihdmbaa
open Go.RowKit Gf
set_option maxRecDepth 20000
set_option linter.unusedVariables false

/-- A row of that length, cut or filled up with zeros. -/
def padR (L : Nat) (r : List E) : List E := r.take L ++ List.replicate (L - r.length) 0
theorem padR_length (L : Nat) (r : List E) : (padR L r).length = L := by simp [padR]; omega
theorem padR_same {L : Nat} {r : List E} (h : r.length = L) : padR L r = r := by
  subst h; simp [padR]
section
variable {P : Program} {w : World}
/-- copy into a new row of zeros. -/
theorem wpList_copyPad {t e : TypeId} {bytes : Nat} (E : Elt P t e (.int .u8 0) bytes) {ops : Array Oper} {rest : List Oper} {o : Oper} {a : Act} {Q : Exit → Act → World → Prop} (hgd : o.guard = none) (d s : Operand)
    (ho : o.op = .call { callee := .builtin .copy, args := #[d, s], argTypes := #[t, t] })
    (g N cap : Nat) (T : TypeId) (hb : Blk w g T (zrow (.int .u8 0) N)) (hd : a.eval d = .slice (some ⟨g, 0, none⟩) N cap)
    (A : Option Addr) (n c : Nat) (r : List Gf.E) (hs : a.eval s = .slice A n c) (hr : Rd w A (bs r)) (hn : r.length = n)
    (B : Nat) (w0 : World) (hbel : Below B w0 w) (hBg : B ≤ g) (hN : N ≤ maxLen)
    (h : ∀ w' k, Own w' B T (.slice (some ⟨g, 0, none⟩) N N) (bs (padR N r)) → Below B w0 w' → wpList P ops Q rest (a.put o.dst (goInt k)) w') : wpList P ops Q (o :: rest) a w := by
  obtain ⟨i, hi, _, hs1, _⟩ := E.info
  subst hn
  refine wpList_copy_splice hgd d s t t ho e E.ty (by rw [hi, Option.map_some, hs1]) (some ⟨g, 0, none⟩) A N cap r.length c hd hs g 0 (zrow (.int .u8 0) N).toList T (by simpa [Blk] using hb) (bs (r.take N)) ?_ ?_ ?_ (bs_ones _) B w0 hbel hBg ?_
  · rw [bs_length, List.length_take, Nat.min_comm]
  · intro hp
    rw [bs_length, List.length_take] at hp
    obtain ⟨ad, hA, hc⟩ := hr (by rw [bs_length]; omega)
    refine ⟨rfl, ad, hA, fun j v hj => hc j v ?_⟩
    rw [bs_take, List.getElem?_take] at hj
    split at hj
    · exact hj
    · cases hj
  · rw [bs_length, List.length_take, zrow_list, List.length_replicate]; omega
  · intro w' hg hbel'
    refine h w' _ ?_ hbel'
    have hg := hg.out
    have hbk : Blk w' g T (splice (zrow (.int .u8 0) N).toList 0 (bs (r.take N))).toArray := hg
    have hl : splice (zrow (.int .u8 0) N).toList 0 (bs (r.take N)) = bs (padR N r) := by
      rw [zrow_list]
      simp only [splice, List.take_zero, List.nil_append, Nat.zero_add, padR, bs_append]
      rw [bs_length, List.length_take, List.drop_replicate]
      congr 1
      rw [bs, List.map_replicate, show N - min N r.length = N - r.length by omega]
      rfl
    rw [hl] at hbk
    have := hbk.own (B := B) (n := N) (cap := N) hBg (Nat.le_refl _) hN (by rw [List.size_toArray, bs_length, padR_length])
    rw [List.take_of_length_le (by rw [bs_length, padR_length]; exact Nat.le_refl _)] at this
    exact this
end
end Go.Proofs.Ytdoeelfcihdmbaa
/-
  Layer 5: sameBytes only draws; what is known of rows while they are spoilt.
-/
namespace Go.Proofs.Ytdoeelfcihdmbaa
open Go.RowKit Gf
set_option maxRecDepth 20000
set_option linter.unusedVariables false

end Go.Proofs.Ytdoeelfcihdmbaa
/-
  Layer 5: what is known of rows while they are spoilt.
-/
namespace Go.Proofs.Ytdoeelfcihdmbaa
open Go.RowKit Gf
set_option maxRecDepth 20000
set_option linter.unusedVariables false

section
variable {w wr w2 : World} {n L go cap gl gt : Nat} {V : List Value} {os : Nat → List E} {Ls Os : List Bool}
end
end Go.Proofs.Ytdoeelfcihdmbaa
/-
  Layer 5: the walk of the laws' hurt.
-/
namespace Go.Proofs.Ytdoeelfcihdmbaa
open Go.RowKit Gf
set_option maxRecDepth 20000
set_option linter.unusedVariables false

def intsZ (l : List Int) : List Value := l.map (Value.int .i64)
theorem intsZ_length (l : List Int) : (intsZ l).length = l.length := List.length_map _
theorem intsZ_get (l : List Int) (j : Nat) (h : j < l.length) : (intsZ l)[j]? = some (.int .i64 l[j]) := by simp [intsZ, h]
end Go.Proofs.Ytdoeelfcihdmbaa
/-
  The arguments of a law opened where they are together of a bulk that is bounded: numbers, a struct of four.
-/
namespace Go.Proofs.Ytdoeelfcihdmbaa
open Go.ChangeShapes Go.WideShapes Go.ChangeAt Go.RowKit Gf Go.Deep
set_option linter.unusedVariables false

section
variable {H : Type} {enc : TypeId × Value → H} {P : Program} {w : World}
theorem open_ints_u {base : Nat} {held : Bool} {t e : TypeId} {fuel : Nat} {cs : List Value} {y : DataW H × List MemPlace} (ht : P.underlying t = some (.slice e)) (he : P.underlying e = some (.int .i64)) (hc : P.cellsOf e = 1)
    (h : DataW.trod enc P w base (fun _ => true) held fuel t cs = some y) (hB : Rows.uptoBulk y.1 ≤ 1048576) :
    ∃ (A : Option Addr) (cap : Nat) (xs : List Int), cs = [.slice A xs.length cap] ∧ Rd w A (intsZ xs) ∧ xs.length ≤ cap ∧ cap ≤ 1048576 ∧ ∀ x ∈ xs, (Lit.int .i64 x).wf = true := by
  rcases open_ints ht he hc h with ⟨hcs, _⟩ | ⟨x, l, c', zs, hcs, _, hl, hm, hz, hx, hcell, hwz⟩
  · exact ⟨none, 0, [], hcs, Rd.nil _ _, Nat.le_refl _, by omega, by simp⟩
  · simp only [if_true] at hz
    have hcap : c' ≤ 1048576 := by
      rw [hx] at hB
      simp only [Rows.uptoBulk] at hB
      have h1 := bulk_len (H := H) (lits .i64 (zs.take l))
      have h2 := bulk_len (H := H) (lits .i64 (zs.drop l))
      rw [lits_length, List.length_take] at h1
      rw [lits_length, List.length_drop] at h2
      omega
    have hlz : (zs.take l).length = l := by rw [List.length_take]; omega
    refine ⟨some x, c', zs.take l, by rw [hlz]; exact hcs, fun _ => ⟨x, rfl, fun j u hu => ?_⟩, by rw [hlz]; exact hl, hcap, fun z hzm => hwz z (List.mem_of_mem_take hzm)⟩
    have hj : j < l := by
      have := (List.getElem?_eq_some_iff.1 hu).1
      rw [intsZ_length, hlz] at this; exact this
    rw [hcell j (by omega)]
    rw [intsZ_get _ _ (by rw [hlz]; exact hj)] at hu
    rw [← hu, List.getElem_take, List.getD_eq_getElem?_getD, List.getElem?_eq_getElem (by omega)]
    rfl
end
end Go.Proofs.Ytdoeelfcihdmbaa
/-
  append of one element onto a list without room behind (s[:n:n]): it is copied to new memory, what it was stays.
-/
namespace Go.Proofs.Ytdoeelfcihdmbaa
open Go.RowKit Gf
set_option linter.unusedVariables false

section
variable {P : Program} (w : World)
theorem run_appFull {t e : TypeId} {z : Value} {bytes : Nat} (E : Elt P t e z bytes) (ty : TypeId) (A0 : Option Addr) (n : Nat) (xs : List Value) (hr0 : Rd w A0 xs) (hn : xs.length = n) (hA0 : A0 = none → n = 0)
    (ad : Addr) (m c : Nat) (news : List Value) (hr : Rd w (some ad) news) (hm : news.length = m) (hm0 : 0 < m)
    (hbytes : (n + m) * bytes ≤ 140737488355328) :
    ∃ v' w', (Builtin.append_ #[t, t] ty #[.slice A0 n n, .slice (some ad) m c]).run P w = .ok v' w' ∧ Own w' w.heap.size e v' (xs ++ news) ∧ Ext w w' := by
  obtain ⟨i, hi, hz, hsz, hby⟩ := E.info
  have hzs : z.cells.size = i.size := by rw [E.cells, hsz]; rfl
  have hle : n + m ≤ 140737488355328 := Nat.le_trans (Nat.le_mul_of_pos_right _ E.pos) hbytes
  have hl : news.length = m * i.size := by rw [hsz, Nat.mul_one, hm]
  have hbytes' : (n + m) * i.bytes ≤ 140737488355328 := by rw [hby]; exact hbytes
  have hnews : ∀ j u, news[j]? = some u → w.cell? (ad.add j) = some u := by
    intro j u hu
    obtain ⟨ad', h, hc⟩ := hr (by have := (List.getElem?_eq_some_iff.1 hu).1; omega)
    injection h with h
    subst h
    exact hc j u hu
  have grown : ∀ (old : Nat), old < n + m →
      Own (w.drew.alloc (.cells (xs.toArray ++ news.toArray ++ Builtin.zeroCells z.cells (grownCap w (n + m) old e - (n + m))) e)) w.heap.size e
        (.slice (some ⟨w.heap.size, 0, none⟩) (n + m) (grownCap w (n + m) old e)) (xs ++ news) ∧
      Ext w (w.drew.alloc (.cells (xs.toArray ++ news.toArray ++ Builtin.zeroCells z.cells (grownCap w (n + m) old e - (n + m))) e)) := by
    intro old ho
    have hge := grownCap_ge w (n + m) old e
    have hcm : grownCap w (n + m) old e ≤ maxLen := grownCap_le_maxLen w (n + m) old e (by simp only [maxLen]; omega)
    have hxl : (xs ++ news).length = n + m := by rw [List.length_append, hm, hn]
    refine ⟨⟨by omega, .inr ⟨w.heap.size, _, _, by rw [hxl], Nat.le_refl _, heap_alloc_new w.drew _, by omega, hcm, ?_, ?_⟩⟩, ((Ext.refl w).drewN 1).alloc _⟩
    · simp only [Array.size_append, List.size_toArray, size_zeroCells, hzs, hsz, hm, hn]
      omega
    · simp only [Array.toList_append, List.append_assoc, Nat.mul_one]
      rw [← List.append_assoc]
      exact List.take_left
  rcases A0 with _ | ad0
  · have hn0 := hA0 rfl
    subst hn0
    obtain rfl : xs = [] := List.eq_nil_of_length_eq_zero hn
    simp only [Nat.zero_add] at hle hbytes' grown
    have hr' := run_append_nil (P := P) w t ty e i z E.ty hi hz ad m c news hl hnews (by omega) (by omega) (by omega)
    have hgr := grown 0 (by omega)
    simp only [List.nil_append, Array.empty_append] at hgr ⊢
    exact ⟨_, _, hr', hgr.1, hgr.2⟩
  · have holds : ∀ j u, xs[j]? = some u → w.cell? (ad0.add j) = some u := by
      intro j u hu
      obtain ⟨ad', h, hc⟩ := hr0 (by have := (List.getElem?_eq_some_iff.1 hu).1; omega)
      injection h with h
      subst h
      exact hc j u hu
    have hr' := run_append_grow (P := P) w t ty e i z E.ty hi hz ad0 n n xs (by rw [hsz]; omega) holds ad m c news hl hnews (by omega) (by omega) (growslice_fits (by omega) hbytes')
    have hgr := grown n (by omega)
    exact ⟨_, _, hr', hgr.1, hgr.2⟩
end
end Go.Proofs.Ytdoeelfcihdmbaa
/-
  Families of rows of values of any kind: each written full with its mark, then grown by marks of its own.
-/
namespace Go.Proofs.Ytdoeelfcihdmbaa
open Go.RowKit Gf
set_option linter.unusedVariables false

/-! ### Marking: each row is written full with its own mark. -/
section
variable {w0 w : World} {B BG : Nat} {T TR : TypeId} {G N cap : Nat} {V : List Value} {R : Nat → List Value} {mk : Nat → Value} {i j : Nat}
end

/-! ### Growing: each row is grown by marks, one by one; all that is grown is kept. -/
section
variable {w0 w w1 : World} {B BG : Nat} {T TR : TypeId} {G N cap : Nat} {V : List Value} {R : Nat → List Value} {cur : Kin} {vl : Value} {L : List Kin}
end
section
variable {R : Nat → List Value} {mk : Nat → Value} {N M i k : Nat} {s : Kin}
end
end Go.Proofs.Ytdoeelfcihdmbaa
/-
  Rows that were answered one after the other: each lies in new memory between two sizes of the world, so no two share a block.
-/
namespace Go.Proofs.Ytdoeelfcihdmbaa
open Go.RowKit Gf
set_option linter.unusedVariables false

section
variable {w w' : World} {lo hi : Nat} {T : TypeId} {v : Value} {xs : List Value}
end
section
variable {w w' : World} {lo hi : Nat} {T : TypeId} {V : List Value} {rs : List (List Value)}
end
end Go.Proofs.Ytdoeelfcihdmbaa
