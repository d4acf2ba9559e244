/-
  Texts of mine, merged: CodX CodB FrmW FrmL FrmE.
-/
import Derived.Test.YtdoeelfcihdmbaaG3
import Derived.Test.YtdoeelfcihdmbaaG4
/-
  Layer 7, what layer 8 takes of it: a number out of a reader.
-/
namespace Go.Proofs.Ytdoeelfcihdmbaa
open Go.RowKit Gf
set_option maxRecDepth 20000
set_option linter.unusedVariables false

theorem RdrAt.ext {w w' : World} {g at_ : Nat} {xs : List E} (h : RdrAt w g xs at_) (hx : Ext w w') : RdrAt w' g xs at_ := by
  obtain ⟨A, c, h1, h2, h3, h4, h5, h6⟩ := h
  exact ⟨A, c, h1.below hx h1.lt, h2.ext hx, h3, h4, h5, h6⟩
theorem num_snoc : ∀ (ys : List E) (y : E), num (ys ++ [y]) = num ys + y.val * 256 ^ ys.length
  | [], y => by simp [num]
  | x :: xs, y => by
    rw [List.cons_append, num, num_snoc xs y, num, List.length_cons, Nat.pow_succ]
    have : y.val * (256 ^ xs.length * 256) = 256 * (y.val * 256 ^ xs.length) := by rw [← Nat.mul_assoc, Nat.mul_comm]
    rw [this]; omega
theorem or_byte (k u0 : Nat) (x : E) (hk : k < 4) (hu : u0 < 256 ^ k) : bits .or .u64 (u0 : Int) ((x.val : Int) * 2 ^ (8 * k)) = ((u0 + x.val * 256 ^ k : Nat) : Int) := by
  have hx := x.lt
  have e1 : ((x.val : Int) * 2 ^ (8 * k)) = ((x.val * 2 ^ (8 * k) : Nat) : Int) := by simp
  have e2 : (256 : Nat) ^ k = 2 ^ (8 * k) := by rw [show (256 : Nat) = 2 ^ 8 from rfl, ← Nat.pow_mul]
  rw [e2] at hu ⊢
  rw [e1]
  have hp : 2 ^ (8 * k) ≤ 2 ^ 24 := Nat.pow_le_pow_right (by decide) (by omega)
  have hl : x.val * 2 ^ (8 * k) < 2 ^ 33 := by
    have : x.val * 2 ^ (8 * k) ≤ 255 * 2 ^ 24 := Nat.mul_le_mul (by omega) hp
    omega
  rw [(bits_nat .u64 40 (by decide) (fun n h0 h1 => by rw [IntKind.wrap_u64]; omega) u0 (x.val * 2 ^ (8 * k)) (by omega) (by omega)).2]
  rw [Nat.or_comm, Nat.mul_comm x.val, ← Nat.two_pow_add_eq_or_of_lt hu x.val, Nat.add_comm]
theorem Touch.new_ {w w' : World} {g m : Nat} (h : Touch (fun b => b = g ∨ b = m) w w') (hm : w.heap.size ≤ m) : Touch (fun b => b = g) w w' := h.mono fun k hk e => e.elim id fun h => by omega
theorem RdrAt.touch {w w' : World} {g at_ v : Nat} {xs : List E} (h : RdrAt w g xs at_) (ht : Touch (fun b => b = v) w w') (hg : g < v) : RdrAt w' g xs at_ := by
  obtain ⟨A, c, h1, h2, h3, h4, h5, h6⟩ := h
  exact ⟨A, c, h1.touch ht (fun e => by omega), h2.touch ht (fun ad e k => by have := h3 ad e; omega), h3, h4, h5, h6⟩
set_option maxHeartbeats 4000000 in
theorem takec1_n (g at_ p v : Nat) (xs : List E) (w : World) (hp : w.cell? ⟨p, 0, none⟩ = some (.pointer (some ⟨g, 0, none⟩))) (hv : Blk w v 5 #[.int .u8 0]) (hR : RdrAt w g xs at_) (hgv : g < v) (hk : at_ + 1 ≤ xs.length) :
    Calls Try.prog 187 #[.pointer (some ⟨p, 0, none⟩), .pointer (some ⟨v, 0, none⟩)] w fun e w' => e = .returned (.tuple #[]) ∧ RdrAt w' g xs (at_ + 1) ∧ Blk w' v 5 #[.int .u8 (fld xs at_ 1 : Int)] ∧ Touch (fun b => b = g ∨ b = v) w w' := by
  have hmo : Try.prog.follows Departure.mixedOrders = true := by kernel_rfl
  have HR := Lib.hid hR
  have HV := Lib.hid hv
  have HP := Lib.hid hp
  have HK := Lib.hid hk
  have HNE := Lib.hid hgv
  clear hR hv hk hgv
  go_enter Try.func187, Try.ntmps187
  go_wp2_with fail
  have d1 : ∀ w', Ext w w' → w'.cell? ⟨p, 0, none⟩ = some (.pointer (some ⟨g, 0, none⟩)) := fun w' hx => (hx.below.cell (World.block_lt_of_cell? _ _ HP.out)).trans HP.out
  have d1' := d1 _ ((Ext.refl w).drewN 1)
  refine wp_region_mix (fun i => [0, 1, 3, 2, 3, 3].getD i 0) (fun w' => Ext w w') hmo (by kernel_rfl) (by kernel_rfl) ((Ext.refl _).drewN 1) ?_
  refine mix_still (.pointer (some ⟨g, 0, none⟩)) rfl (fun w' hw' => by have := d1 w' hw'; go_simp) ?_
  refine mix_call 188 #[] rfl (by go_simp) ?_
  refine (width_u8 _).mono ?_
  rintro e w1 ⟨rfl, rfl⟩
  refine ⟨_, rfl, (Ext.refl w).drewN 1, ?_⟩
  refine mix_pure (.int .u64 1) rfl (fun w' => by go_simp; decide) ?_
  refine mix_callLast 186 #[.pointer (some ⟨g, 0, none⟩), .int .u64 ((1 : Nat) : Int)] rfl (by go_simp) ?_
  have hx1 : Ext w w.drew := (Ext.refl w).drewN 1
  have hR1 : RdrAt w.drew g xs at_ := HR.out.ext hx1
  refine (take_n g at_ 1 xs w.drew hR1 HK.out).mono ?_
  rintro e W ⟨A, c, rfl, hrd, hR2, ht⟩
  refine ⟨_, rfl, ?_⟩
  refine mix_pure (.int .i64 ((1 : Nat) : Int)) rfl (fun w' => by go_simp) ?_
  refine mix_pure (.int .i64 0) rfl (fun w' => by go_simp) ?_
  refine mix_nil ?_
  obtain ⟨ys, hys⟩ : ∃ ys, ys = (xs.drop at_).take 1 := ⟨_, rfl⟩
  have hyl : ys.length = 1 := by have := HK.out; rw [hys, List.length_take, List.length_drop]; omega
  rw [← hys] at hrd
  have hvb : Blk W v 5 #[.int .u8 0] := (HV.out.below hx1 HV.out.lt).touch ht (fun e => by have := HNE.out; omega)
  have f0 := hvb.frozen 0
  have c0 := hvb.cell 0
  simp at c0
  have HVB := Lib.hid hvb
  have HT := Lib.hid (hx1.touch.trans ht)
  have HR2 := Lib.hid hR2
  have HRD := Lib.hid hrd
  have HYS := Lib.hid hys
  have HYL := Lib.hid hyl
  clear d1 d1' hp hx1 hR1 hrd hR2 ht hys hyl hvb HR HV HP
  go_simp
  go_wp2_with fail
  go_loop [2, 10] (fun u i => ∃ k : Nat, k ≤ 1 ∧ i = .int .i64 k ∧ u = .int .u64 (num (ys.take k) : Int)) (fun _ i => 1 - (intOf i).toNat)
  case atStart => exact ⟨0, by omega, rfl, rfl⟩
  case round =>
    obtain ⟨k, hk, rfl, rfl⟩ := hrel
    by_cases hlt : k < 1
    · have hky : k < ys.length := by rw [HYL.out]; exact hlt
      obtain ⟨ad, rfl, hc⟩ := HRD.out.byte hky
      obtain ⟨x, hx⟩ : ∃ x, x = ys[k] := ⟨_, rfl⟩
      rw [← hx] at hc
      have hxl := x.lt
      obtain ⟨u0, hu0⟩ : ∃ u, u = num (ys.take k) := ⟨_, rfl⟩
      have hul : u0 < 256 ^ k := by
        have := num_lt (ys.take k)
        rw [hu0]; rwa [List.length_take, Nat.min_eq_left (by omega)] at this
      have hor := or_byte k u0 x (by omega) hul
      have HS : Hid (num (ys.take (k + 1)) = u0 + x.val * 256 ^ k) := Lib.hid (by rw [take_snoc' _ k hky, num_snoc, ← hu0, ← hx, List.length_take, Nat.min_eq_left (by omega)])
      rw [← hu0]
      obtain ⟨k2, hk2⟩ : ∃ k2, k2 = k + 1 := ⟨_, rfl⟩
      have HK2 := Lib.hid hk2
      have HX := Lib.hid hx
      have HU0 := Lib.hid hu0
      clear hx hu0 hk2
      obtain rfl : k = 0 := by omega
      all_goals
        simp at hor
        first | simp only [Nat.pow_zero] at hul | simp only [Nat.reducePow] at hul
        first | rw [add_zero'] at hc | simp [Addr.add] at hc
        go_wp2_with fail
        go_round
        case rel => exact ⟨k2, by rw [HK2.out]; decide, by rw [HK2.out]; rfl, by rw [HK2.out, HS.out]; simp⟩
        case measure => simp [intOf]
    · obtain rfl : k = 1 := by omega
      obtain ⟨u0, hu0⟩ : ∃ u, u = num (ys.take 1) := ⟨_, rfl⟩
      have hul : u0 < 256 := by
        have := num_lt (ys.take 1)
        rw [hu0]; rwa [List.length_take, HYL.out] at this
      have HU : Hid (u0 = fld xs at_ 1) := Lib.hid (by rw [hu0, List.take_of_length_le (by rw [HYL.out]; exact Nat.le_refl _), HYS.out]; rfl)
      rw [← hu0]
      have HU0 := Lib.hid hu0
      clear hu0
      go_wp2_with fail
      refine bodyPost_end (results_none rfl _ _ _) rfl ?_
      rw [← HU.out]
      refine ⟨rfl, ?_, HVB.out.set_eq 0 _ (by simp), ?_⟩
      · exact HR2.out.touch (touch_set (S := fun b => b = v) W ⟨v, 0, none⟩ _ rfl) HNE.out
      · exact (HT.out.mono fun _ _ h => .inl h).trans (touch_set (S := fun b => b = g ∨ b = v) W ⟨v, 0, none⟩ _ (.inr rfl))
set_option maxHeartbeats 2000000 in
theorem take1_n (g at_ : Nat) (xs : List E) (w : World) (hR : RdrAt w g xs at_) (hk : at_ + 1 ≤ xs.length) :
    Calls Try.prog 167 #[.pointer (some ⟨g, 0, none⟩)] w fun e w' => e = .returned (.int .u8 (fld xs at_ 1 : Int)) ∧ RdrAt w' g xs (at_ + 1) ∧ Touch (fun b => b = g) w w' := by
  have hmf := make_func
  have HR := Lib.hid hR
  have hgl : g < w.heap.size := by obtain ⟨A, c, hb, -⟩ := hR; exact hb.lt
  clear hR
  go_enter Try.func167, Try.ntmps167
  go_wp2_with fail
  obtain ⟨W, hW⟩ : ∃ W, W = (w.alloc (.cells #[.pointer (some ⟨g, 0, none⟩)] 221)).alloc (.cells #[.int .u8 0] 5) := ⟨_, rfl⟩
  have hx : Ext w W := by rw [hW]; exact ((Ext.refl w).alloc _).alloc _
  have hp : W.cell? ⟨w.heap.size, 0, none⟩ = some (.pointer (some ⟨g, 0, none⟩)) := by
    rw [hW]; exact ((Blk.new w 221 #[.pointer (some ⟨g, 0, none⟩)]).alloc _).cell 0
  have hv : Blk W (w.heap.size + 1) 5 #[.int .u8 0] := by
    rw [hW]
    have := Blk.new (w.alloc (.cells #[.pointer (some ⟨g, 0, none⟩)] 221)) 5 #[.int .u8 0]
    simpa using this
  rw [← hW]
  have hne : g < w.heap.size + 1 := by omega
  have hR1 := HR.out.ext hx
  refine (reading_n g 187 _ xs at_ W (fun w' => RdrAt w' g xs (at_ + 1) ∧ Blk w' (w.heap.size + 1) 5 #[.int .u8 (fld xs at_ 1 : Int)] ∧ Touch (fun b => b = g) w w') hR1 (fun _ _ => by go_simp) fun w1 hx1 => ?_).mono ?_
  · refine (takec1_n g at_ w.heap.size (w.heap.size + 1) xs w1 ((hx1.below.cell (World.block_lt_of_cell? _ _ hp)).trans hp) (hv.below hx1 hv.lt) (hR1.ext hx1) hne hk).mono ?_
    rintro e w' ⟨rfl, h1, h2, h3⟩
    refine ⟨rfl, h1, h2, ?_⟩
    exact ((hx.trans hx1).touch.trans (h3.mono (S' := fun b => b = g ∨ b = w.heap.size + 1) fun _ _ h => h)).new_ (m := w.heap.size + 1) (by omega)
  rintro e w' ⟨rfl, h1, h2, h3⟩
  have c0 := h2.cell 0
  simp at c0
  have HQ := Lib.hid (And.intro h1 h3)
  clear h1 h2 h3 hx hp hv hR1 hW hne
  go_wp2_with fail
  go_ret
  exact ⟨rfl, HQ.out.1, HQ.out.2⟩
set_option maxHeartbeats 4000000 in
theorem takec4_n (g at_ p v : Nat) (xs : List E) (w : World) (hp : w.cell? ⟨p, 0, none⟩ = some (.pointer (some ⟨g, 0, none⟩))) (hv : Blk w v 140 #[.int .u32 0]) (hR : RdrAt w g xs at_) (hgv : g < v) (hk : at_ + 4 ≤ xs.length) :
    Calls Try.prog 189 #[.pointer (some ⟨p, 0, none⟩), .pointer (some ⟨v, 0, none⟩)] w fun e w' => e = .returned (.tuple #[]) ∧ RdrAt w' g xs (at_ + 4) ∧ Blk w' v 140 #[.int .u32 (fld xs at_ 4 : Int)] ∧ Touch (fun b => b = g ∨ b = v) w w' := by
  have hmo : Try.prog.follows Departure.mixedOrders = true := by kernel_rfl
  have HR := Lib.hid hR
  have HV := Lib.hid hv
  have HP := Lib.hid hp
  have HK := Lib.hid hk
  have HNE := Lib.hid hgv
  clear hR hv hk hgv
  go_enter Try.func189, Try.ntmps189
  go_wp2_with fail
  have d1 : ∀ w', Ext w w' → w'.cell? ⟨p, 0, none⟩ = some (.pointer (some ⟨g, 0, none⟩)) := fun w' hx => (hx.below.cell (World.block_lt_of_cell? _ _ HP.out)).trans HP.out
  have d1' := d1 _ ((Ext.refl w).drewN 1)
  refine wp_region_mix (fun i => [0, 1, 3, 2, 3, 3].getD i 0) (fun w' => Ext w w') hmo (by kernel_rfl) (by kernel_rfl) ((Ext.refl _).drewN 1) ?_
  refine mix_still (.pointer (some ⟨g, 0, none⟩)) rfl (fun w' hw' => by have := d1 w' hw'; go_simp) ?_
  refine mix_call 158 #[] rfl (by go_simp) ?_
  refine (width_u32 _).mono ?_
  rintro e w1 ⟨rfl, rfl⟩
  refine ⟨_, rfl, (Ext.refl w).drewN 1, ?_⟩
  refine mix_pure (.int .u64 4) rfl (fun w' => by go_simp; decide) ?_
  refine mix_callLast 186 #[.pointer (some ⟨g, 0, none⟩), .int .u64 ((4 : Nat) : Int)] rfl (by go_simp) ?_
  have hx1 : Ext w w.drew := (Ext.refl w).drewN 1
  have hR1 : RdrAt w.drew g xs at_ := HR.out.ext hx1
  refine (take_n g at_ 4 xs w.drew hR1 HK.out).mono ?_
  rintro e W ⟨A, c, rfl, hrd, hR2, ht⟩
  refine ⟨_, rfl, ?_⟩
  refine mix_pure (.int .i64 ((4 : Nat) : Int)) rfl (fun w' => by go_simp) ?_
  refine mix_pure (.int .i64 0) rfl (fun w' => by go_simp) ?_
  refine mix_nil ?_
  obtain ⟨ys, hys⟩ : ∃ ys, ys = (xs.drop at_).take 4 := ⟨_, rfl⟩
  have hyl : ys.length = 4 := by have := HK.out; rw [hys, List.length_take, List.length_drop]; omega
  rw [← hys] at hrd
  have hvb : Blk W v 140 #[.int .u32 0] := (HV.out.below hx1 HV.out.lt).touch ht (fun e => by have := HNE.out; omega)
  have f0 := hvb.frozen 0
  have c0 := hvb.cell 0
  simp at c0
  have HVB := Lib.hid hvb
  have HT := Lib.hid (hx1.touch.trans ht)
  have HR2 := Lib.hid hR2
  have HRD := Lib.hid hrd
  have HYS := Lib.hid hys
  have HYL := Lib.hid hyl
  clear d1 d1' hp hx1 hR1 hrd hR2 ht hys hyl hvb HR HV HP
  go_simp
  go_wp2_with fail
  go_loop [2, 10] (fun u i => ∃ k : Nat, k ≤ 4 ∧ i = .int .i64 k ∧ u = .int .u64 (num (ys.take k) : Int)) (fun _ i => 4 - (intOf i).toNat)
  case atStart => exact ⟨0, by omega, rfl, rfl⟩
  case round =>
    obtain ⟨k, hk, rfl, rfl⟩ := hrel
    by_cases hlt : k < 4
    · have hky : k < ys.length := by rw [HYL.out]; exact hlt
      obtain ⟨ad, rfl, hc⟩ := HRD.out.byte hky
      obtain ⟨x, hx⟩ : ∃ x, x = ys[k] := ⟨_, rfl⟩
      rw [← hx] at hc
      have hxl := x.lt
      obtain ⟨u0, hu0⟩ : ∃ u, u = num (ys.take k) := ⟨_, rfl⟩
      have hul : u0 < 256 ^ k := by
        have := num_lt (ys.take k)
        rw [hu0]; rwa [List.length_take, Nat.min_eq_left (by omega)] at this
      have hor := or_byte k u0 x (by omega) hul
      have HS : Hid (num (ys.take (k + 1)) = u0 + x.val * 256 ^ k) := Lib.hid (by rw [take_snoc' _ k hky, num_snoc, ← hu0, ← hx, List.length_take, Nat.min_eq_left (by omega)])
      rw [← hu0]
      obtain ⟨k2, hk2⟩ : ∃ k2, k2 = k + 1 := ⟨_, rfl⟩
      have HK2 := Lib.hid hk2
      have HX := Lib.hid hx
      have HU0 := Lib.hid hu0
      clear hx hu0 hk2
      obtain rfl | rfl | rfl | rfl : k = 0 ∨ k = 1 ∨ k = 2 ∨ k = 3 := by omega
      all_goals
        simp at hor
        first | simp only [Nat.pow_zero] at hul | simp only [Nat.reducePow] at hul
        first | rw [add_zero'] at hc | simp [Addr.add] at hc
        go_wp2_with fail
        go_round
        case rel => exact ⟨k2, by rw [HK2.out]; decide, by rw [HK2.out]; rfl, by rw [HK2.out, HS.out]; simp⟩
        case measure => simp [intOf]
    · obtain rfl : k = 4 := by omega
      obtain ⟨u0, hu0⟩ : ∃ u, u = num (ys.take 4) := ⟨_, rfl⟩
      have hul : u0 < 4294967296 := by
        have := num_lt (ys.take 4)
        rw [hu0]; rwa [List.length_take, HYL.out] at this
      have HU : Hid (u0 = fld xs at_ 4) := Lib.hid (by rw [hu0, List.take_of_length_le (by rw [HYL.out]; exact Nat.le_refl _), HYS.out]; rfl)
      rw [← hu0]
      have HU0 := Lib.hid hu0
      clear hu0
      go_wp2_with fail
      refine bodyPost_end (results_none rfl _ _ _) rfl ?_
      rw [← HU.out]
      refine ⟨rfl, ?_, HVB.out.set_eq 0 _ (by simp), ?_⟩
      · exact HR2.out.touch (touch_set (S := fun b => b = v) W ⟨v, 0, none⟩ _ rfl) HNE.out
      · exact (HT.out.mono fun _ _ h => .inl h).trans (touch_set (S := fun b => b = g ∨ b = v) W ⟨v, 0, none⟩ _ (.inr rfl))
set_option maxHeartbeats 2000000 in
theorem take4_n (g at_ : Nat) (xs : List E) (w : World) (hR : RdrAt w g xs at_) (hk : at_ + 4 ≤ xs.length) :
    Calls Try.prog 168 #[.pointer (some ⟨g, 0, none⟩)] w fun e w' => e = .returned (.int .u32 (fld xs at_ 4 : Int)) ∧ RdrAt w' g xs (at_ + 4) ∧ Touch (fun b => b = g) w w' := by
  have hmf := make_func
  have HR := Lib.hid hR
  have hgl : g < w.heap.size := by obtain ⟨A, c, hb, -⟩ := hR; exact hb.lt
  clear hR
  go_enter Try.func168, Try.ntmps168
  go_wp2_with fail
  obtain ⟨W, hW⟩ : ∃ W, W = (w.alloc (.cells #[.pointer (some ⟨g, 0, none⟩)] 221)).alloc (.cells #[.int .u32 0] 140) := ⟨_, rfl⟩
  have hx : Ext w W := by rw [hW]; exact ((Ext.refl w).alloc _).alloc _
  have hp : W.cell? ⟨w.heap.size, 0, none⟩ = some (.pointer (some ⟨g, 0, none⟩)) := by
    rw [hW]; exact ((Blk.new w 221 #[.pointer (some ⟨g, 0, none⟩)]).alloc _).cell 0
  have hv : Blk W (w.heap.size + 1) 140 #[.int .u32 0] := by
    rw [hW]
    have := Blk.new (w.alloc (.cells #[.pointer (some ⟨g, 0, none⟩)] 221)) 140 #[.int .u32 0]
    simpa using this
  rw [← hW]
  have hne : g < w.heap.size + 1 := by omega
  have hR1 := HR.out.ext hx
  refine (reading_n g 189 _ xs at_ W (fun w' => RdrAt w' g xs (at_ + 4) ∧ Blk w' (w.heap.size + 1) 140 #[.int .u32 (fld xs at_ 4 : Int)] ∧ Touch (fun b => b = g) w w') hR1 (fun _ _ => by go_simp) fun w1 hx1 => ?_).mono ?_
  · refine (takec4_n g at_ w.heap.size (w.heap.size + 1) xs w1 ((hx1.below.cell (World.block_lt_of_cell? _ _ hp)).trans hp) (hv.below hx1 hv.lt) (hR1.ext hx1) hne hk).mono ?_
    rintro e w' ⟨rfl, h1, h2, h3⟩
    refine ⟨rfl, h1, h2, ?_⟩
    exact ((hx.trans hx1).touch.trans (h3.mono (S' := fun b => b = g ∨ b = w.heap.size + 1) fun _ _ h => h)).new_ (m := w.heap.size + 1) (by omega)
  rintro e w' ⟨rfl, h1, h2, h3⟩
  have c0 := h2.cell 0
  simp at c0
  have HQ := Lib.hid (And.intro h1 h3)
  clear h1 h2 h3 hx hp hv hR1 hW hne
  go_wp2_with fail
  go_ret
  exact ⟨rfl, HQ.out.1, HQ.out.2⟩
end Go.Proofs.Ytdoeelfcihdmbaa
/-
  Layer 7, what layer 8 takes of it: bytes out of a reader.
-/
namespace Go.Proofs.Ytdoeelfcihdmbaa
open Go.RowKit Gf
set_option maxRecDepth 20000
set_option linter.unusedVariables false

set_option maxHeartbeats 4000000 in
theorem bytesc_n (g at_ k pn p v : Nat) (xs : List E) (w : World) (hn : w.cell? ⟨pn, 0, none⟩ = some (.int .i64 (k : Int))) (hp : w.cell? ⟨p, 0, none⟩ = some (.pointer (some ⟨g, 0, none⟩))) (hv : Blk w v 24 #[.slice none 0 0]) (hR : RdrAt w g xs at_) (hgv : g < v) (hk : at_ + k ≤ xs.length) (hk2 : k ≤ 1000000) :
    Calls Try.prog 184 #[.pointer (some ⟨pn, 0, none⟩), .pointer (some ⟨p, 0, none⟩), .pointer (some ⟨v, 0, none⟩)] w fun e w' => e = .returned (.tuple #[]) ∧ RdrAt w' g xs (at_ + k) ∧
      (∃ u, Blk w' v 24 #[u] ∧ Own w' w.heap.size 5 u (bs ((xs.drop at_).take k))) ∧ Touch (fun b => b = g ∨ b = v) w w' := by
  have HR := Lib.hid hR
  have HV := Lib.hid hv
  have HK := Lib.hid hk
  have HNE := Lib.hid hgv
  clear hR hv hk hgv
  go_enter Try.func184, Try.ntmps184
  go_wp2_with fail
  refine (must_n _ _).mono ?_
  rintro e w' ⟨rfl, rfl⟩
  go_wp2_with fail
  refine (take_n g at_ k xs w HR.out HK.out).mono ?_
  rintro e W ⟨A, c, rfl, hrd, hR2, ht⟩
  obtain ⟨ys, hys⟩ : ∃ ys, ys = (xs.drop at_).take k := ⟨_, rfl⟩
  have hyl : ys.length = k := by have := HK.out; rw [hys, List.length_take, List.length_drop]; omega
  rw [← hys] at hrd
  have HYS := Lib.hid hys
  have hvb : Blk W v 24 #[.slice none 0 0] := HV.out.touch ht (fun e => by have := HNE.out; omega)
  have HVB := Lib.hid hvb
  have HT := Lib.hid ht
  have HR2 := Lib.hid hR2
  have HRD := Lib.hid hrd
  have HYL := Lib.hid hyl
  clear hrd hR2 ht hys hyl hvb HR HV hn hp
  go_wp2_with fail
  refine (bclone_n A k c ys W HYL.out HRD.out (by omega)).mono ?_
  rintro e W2 ⟨u, rfl, ho, hx⟩
  have hvb := HVB.out.below hx HVB.out.lt
  have f0 := hvb.frozen 0
  have c0 := hvb.cell 0
  simp at c0
  have hone := ho.oneCell
  obtain ⟨A1, n1, c1, rfl⟩ : ∃ A n c, u = Value.slice A n c := by obtain ⟨A, c, h⟩ := ho.anySlice; exact ⟨_, _, _, h⟩
  have HO := Lib.hid ho
  have HX := Lib.hid hx
  have HVB2 := Lib.hid hvb
  clear ho hx hvb
  go_wp2_with fail
  refine bodyPost_end (results_none rfl _ _ _) rfl ?_
  have hle : w.heap.size ≤ W.heap.size := HT.out.size
  rw [← HYS.out]
  refine ⟨rfl, (HR2.out.ext HX.out).touch (touch_set (S := fun b => b = v) W2 ⟨v, 0, none⟩ _ rfl) HNE.out, ⟨.slice A1 n1 c1, HVB2.out.set_eq 0 _ (by simp), ?_⟩, ?_⟩
  · refine (HO.out.mono hle).far (p := ⟨v, 0, none⟩) (fun e => ?_) _
    have h1 : W.heap.size ≤ v := (HO.out.lt _ e).1
    have := HVB.out.lt
    omega
  · exact ((HT.out.mono fun _ _ h => .inl h).trans HX.out.touch).trans (touch_set (S := fun b => b = g ∨ b = v) W2 ⟨v, 0, none⟩ _ (.inr rfl))
set_option maxHeartbeats 4000000 in
theorem bytes_n (g at_ k : Nat) (xs : List E) (w : World) (hR : RdrAt w g xs at_) (hk : at_ + k ≤ xs.length) (hk2 : k ≤ 1000000) :
    Calls Try.prog 166 #[.pointer (some ⟨g, 0, none⟩), .int .i64 (k : Int)] w fun e w' => ∃ u, e = .returned u ∧ Own w' w.heap.size 5 u (bs ((xs.drop at_).take k)) ∧ RdrAt w' g xs (at_ + k) ∧ Touch (fun b => b = g) w w' := by
  have hmf := make_func
  have HR := Lib.hid hR
  have hgl : g < w.heap.size := by obtain ⟨A, c, hb, -⟩ := hR; exact hb.lt
  clear hR
  go_enter Try.func166, Try.ntmps166
  go_wp2_with fail
  obtain ⟨W, hW⟩ : ∃ W, W = ((w.alloc (.cells #[.pointer (some ⟨g, 0, none⟩)] 221)).alloc (.cells #[.int .i64 (k : Int)] 3)).alloc (.cells #[.slice none 0 0] 24) := ⟨_, rfl⟩
  have hx : Ext w W := by rw [hW]; exact (((Ext.refl w).alloc _).alloc _).alloc _
  have hp : W.cell? ⟨w.heap.size, 0, none⟩ = some (.pointer (some ⟨g, 0, none⟩)) := by
    rw [hW]; exact (((Blk.new w 221 #[.pointer (some ⟨g, 0, none⟩)]).alloc _).alloc _).cell 0
  have hn : W.cell? ⟨w.heap.size + 1, 0, none⟩ = some (.int .i64 (k : Int)) := by
    rw [hW]
    have := ((Blk.new (w.alloc (.cells #[.pointer (some ⟨g, 0, none⟩)] 221)) 3 #[.int .i64 (k : Int)]).alloc (.cells #[.slice none 0 0] 24)).cell 0
    simpa using this
  have hv : Blk W (w.heap.size + 2) 24 #[.slice none 0 0] := by
    rw [hW]
    have := Blk.new ((w.alloc (.cells #[.pointer (some ⟨g, 0, none⟩)] 221)).alloc (.cells #[.int .i64 (k : Int)] 3)) 24 #[.slice none 0 0]
    simpa using this
  rw [← hW]
  have hne : g < w.heap.size + 2 := by omega
  have hR1 := HR.out.ext hx
  refine (reading_n g 184 _ xs at_ W (fun w' => RdrAt w' g xs (at_ + k) ∧ (∃ u, Blk w' (w.heap.size + 2) 24 #[u] ∧ Own w' w.heap.size 5 u (bs ((xs.drop at_).take k))) ∧ Touch (fun b => b = g) w w') hR1 (fun _ _ => by go_simp) fun w1 hx1 => ?_).mono ?_
  · refine (bytesc_n g at_ k (w.heap.size + 1) w.heap.size (w.heap.size + 2) xs w1 ((hx1.below.cell (World.block_lt_of_cell? _ _ hn)).trans hn) ((hx1.below.cell (World.block_lt_of_cell? _ _ hp)).trans hp) (hv.below hx1 hv.lt) (hR1.ext hx1) hne hk hk2).mono ?_
    rintro e w' ⟨rfl, h1, ⟨u, h2, h4⟩, h3⟩
    refine ⟨rfl, h1, ⟨u, h2, h4.mono (hx.trans hx1).le⟩, ?_⟩
    exact ((hx.trans hx1).touch.trans (h3.mono (S' := fun b => b = g ∨ b = w.heap.size + 2) fun _ _ h => h)).new_ (m := w.heap.size + 2) (by omega)
  rintro e w' ⟨rfl, h1, ⟨u, h2, h4⟩, h3⟩
  obtain ⟨A1, n1, c1, rfl⟩ : ∃ A n c, u = Value.slice A n c := by obtain ⟨A, c, h⟩ := h4.anySlice; exact ⟨_, _, _, h⟩
  have c0 := h2.cell 0
  have f0 := h2.frozen 0
  simp at c0
  have HQ := Lib.hid (And.intro h1 (And.intro h3 (And.intro h2 h4)))
  clear h1 h2 h3 h4 hx hp hv hn hR1 hW hne
  go_wp2_with fail
  refine bodyPost_ret (v := .slice A1 n1 c1) (by simp [results, Try.results166, go_sem, c0]) rfl ?_
  have hb := HQ.out.2.2.1
  refine ⟨_, rfl, ?_, HQ.out.1.touch (touch_set (S := fun b => b = w.heap.size + 2) w' ⟨w.heap.size + 2, 0, none⟩ _ rfl) (by omega), ?_⟩
  · refine HQ.out.2.2.2.far (p := ⟨w.heap.size + 2, 0, none⟩) (fun e => ?_) _
    rcases HQ.out.2.2.2.notBlk hb (by decide) with h
    exact h e
  · exact (HQ.out.2.1.mono (S' := fun b => b = g ∨ b = w.heap.size + 2) fun _ _ h => .inl h).trans (touch_set (S := fun b => b = g ∨ b = w.heap.size + 2) w' ⟨w.heap.size + 2, 0, none⟩ _ (.inr rfl)) |>.new_ (by omega)
end Go.Proofs.Ytdoeelfcihdmbaa
/-
  Layer 8: what a head may be; the lengths of the blocks.
-/
namespace Go.Proofs.Ytdoeelfcihdmbaa
open Go.RowKit Gf
set_option maxRecDepth 20000
set_option linter.unusedVariables false

/-- A text of these bytes. -/
def strB (l : List E) : ByteArray := ⟨(bytesU l).toArray⟩
theorem strB_size (l : List E) : (strB l).size = l.length := by simp [strB, ByteArray.size, bytesU]
/-- A head's cells. -/
def headC (h : HeadP) : Array Value := #[bv (h.store.getD 0 0), bv (h.store.getD 1 0), bv (h.store.getD 2 0), bv (h.store.getD 3 0), bv (h.store.getD 4 0), bv (h.store.getD 5 0), bv (h.store.getD 6 0), bv (h.store.getD 7 0),
  .int .i64 (h.k : Int), .int .i64 (h.m : Int), .int .i64 (h.blk : Int), .string (strB h.key), .int .i64 (h.size : Int), .int .i64 (h.idx : Int), .int .i64 (h.epoch : Int), .int .i64 (h.count : Int)]
def shapeC (h : HeadP) : Array Value := #[.int .i64 (h.k : Int), .int .i64 (h.m : Int), .int .i64 (h.blk : Int)]
theorem headC_size (h : HeadP) : (headC h).size = 16 := rfl
theorem headC_ones (h : HeadP) : (headC h).all (·.oneCell') = true := by simp [headC, bv, Value.oneCell']
set_option maxHeartbeats 1000000 in
theorem may_n (k m b : Nat) (w : World) (hk : k ≤ 1000000000000) (hm : m ≤ 1000000000000) : Calls Try.prog 154 #[.agg #[.int .i64 (k : Int), .int .i64 (m : Int), .int .i64 (b : Int)]] w fun e w' => e = .returned (.bool (decide (okShape k m b))) ∧ Ext w w' := by
  have HX := Lib.hid ((Ext.refl w).alloc (.cells #[.int .i64 (k : Int), .int .i64 (m : Int), .int .i64 (b : Int)] 39))
  by_cases h : okShape k m b
  · have HD : Hid (decide (okShape k m b) = true) := Lib.hid (decide_eq_true h)
    obtain ⟨h1, h2, h3, h4, h5⟩ := h
    have h6 : k ≤ 255 := by omega
    rw [HD.out]
    go_enter Try.func154, Try.ntmps154
    go_wp2
    go_ret
    exact ⟨ret_bool (decide_eq_true (by omega)), HX.out⟩
  · have HD : Hid (decide (okShape k m b) = false) := Lib.hid (decide_eq_false h)
    have HN := Lib.hid h
    clear h
    rw [HD.out]
    go_enter Try.func154, Try.ntmps154
    go_wp2
    all_goals
      go_ret
      have hN := HN.out
      unfold okShape at hN
      first | exact ⟨rfl, HX.out⟩ | exact ⟨ret_bool (decide_eq_false (by omega)), HX.out⟩
/-- What a size may be. -/
def okSize (k b size : Nat) : Prop := size ≤ 1048576 ∧ stripesP k b size ≤ 4096
theorem stripe_pos {k m b : Nat} (hs : okShape k m b) : 1 ≤ k * b ∧ k * b ≤ 16711680 := by
  obtain ⟨h1, h2, h3, h4, h5⟩ := hs
  exact ⟨Nat.mul_pos (by omega) (by omega), Nat.mul_le_mul (show k ≤ 255 by omega) h5⟩
set_option maxHeartbeats 1000000 in
theorem fits_n (k m b size : Nat) (w : World) (hs : okShape k m b) (hz : size ≤ 4294967296) : Calls Try.prog 155 #[.agg #[.int .i64 (k : Int), .int .i64 (m : Int), .int .i64 (b : Int)], .int .i64 (size : Int)] w fun e w' => (∃ z : Int, e = .returned (.int .i64 z) ∧ (z = 0 ↔ okSize k b size)) ∧ Ext w w' := by
  have HX := Lib.hid ((Ext.refl w).alloc (.cells #[.int .i64 (k : Int), .int .i64 (m : Int), .int .i64 (b : Int)] 39))
  obtain ⟨p1, p2⟩ := stripe_pos hs
  obtain ⟨st, hst⟩ : ∃ st, st = k * b := ⟨_, rfl⟩
  rw [← hst] at p1 p2
  have e1 : (k : Int) * (b : Int) = (st : Int) := by rw [hst]; simp
  obtain ⟨q, hq⟩ : ∃ q, q = stripesP k b size := ⟨_, rfl⟩
  have HQ := Lib.hid hq
  have hqu : q ≤ 100000000000 := by
    rw [hq, stripesP]
    exact Nat.le_trans (Nat.div_le_self _ _) (by rw [← hst]; omega)
  have e2 : ((size : Int) + (st : Int) - 1) / (st : Int) = (q : Int) := by
    rw [hq, stripesP, ← hst, show (size : Int) + (st : Int) - 1 = ((size + st - 1 : Nat) : Int) by omega]; simp
  have e3 : ((size : Int) + (st : Int) - 1).tdiv (st : Int) = (q : Int) := by rw [Int.tdiv_eq_ediv_of_nonneg (by omega)]; exact e2
  have hN : okSize k b size ↔ (size ≤ 1048576 ∧ q ≤ 4096) := by rw [hq]; rfl
  have HN := Lib.hid hN
  clear hN hst hq hs
  rcases Nat.lt_or_ge 1048576 size with h1 | h1
  · go_enter Try.func155, Try.ntmps155
    go_wp2
    go_ret
    exact ⟨⟨3, rfl, by rw [HN.out]; omega⟩, HX.out⟩
  · rcases Nat.lt_or_ge 4096 q with h2 | h2
    · go_enter Try.func155, Try.ntmps155
      go_wp2
      go_ret
      exact ⟨⟨3, rfl, by rw [HN.out]; omega⟩, HX.out⟩
    · go_enter Try.func155, Try.ntmps155
      go_wp2
      go_ret
      exact ⟨⟨0, rfl, by rw [HN.out]; omega⟩, HX.out⟩
theorem shape_in (h : HeadP) : ∀ j v, (shapeC h)[j]? = some v → (headC h)[8 + j]? = some v := fun j v hv => by
  rcases j with _ | _ | _ | j
  · exact hv
  · exact hv
  · exact hv
  · simp [shapeC] at hv
set_option maxHeartbeats 4000000 in
theorem fcheck_n (h : HeadP) (w : World) (hk : h.k ≤ 1000000) (hm : h.m ≤ 1000000) (hz : h.size ≤ 4294967296) (hi : h.idx ≤ 1000000) (he : h.epoch ≤ 1000000000000) (hc : h.count ≤ 1000000000000) (hl : h.key.length ≤ 1000000000000) :
    Calls Try.prog 99 #[.agg (headC h)] w fun e w' => (∃ z : Int, e = .returned (.int .i64 z) ∧ (z = 0 ↔ okHead h)) ∧ Ext w w' := by
  have hx : Ext w (w.alloc (.cells (headC h) 43)) := (Ext.refl w).alloc _
  have hb : Blk (w.alloc (.cells (headC h) 43)) w.heap.size 43 (headC h) := Blk.new _ _ _
  have HX := Lib.hid hx
  have HB := Lib.hid hb
  clear hx hb
  have i8 : (headC h)[8]? = some (.int .i64 (h.k : Int)) := rfl
  have i9 : (headC h)[9]? = some (.int .i64 (h.m : Int)) := rfl
  have i11 : (headC h)[11]? = some (.string (strB h.key)) := rfl
  have i12 : (headC h)[12]? = some (.int .i64 (h.size : Int)) := rfl
  have i13 : (headC h)[13]? = some (.int .i64 (h.idx : Int)) := rfl
  have i14 : (headC h)[14]? = some (.int .i64 (h.epoch : Int)) := rfl
  have i15 : (headC h)[15]? = some (.int .i64 (h.count : Int)) := rfl
  have hsz := strB_size h.key
  have l8 : ∀ j v, (shapeC h)[j]? = some v → (headC h)[8 + j]? = some v := shape_in h
  have HL8 := Lib.hid l8
  clear l8
  have arm : ∀ (w' : World), Blk w' w.heap.size 43 (headC h) → ∀ j v, (shapeC h)[j]? = some v → w'.cell? ((⟨w.heap.size, 8, none⟩ : Addr).add j) = some v := fun w' hb => hb.sub 8 (shapeC h) HL8.out
  have HARM := Lib.hid arm
  clear arm
  by_cases hS : okShape h.k h.m h.blk
  · have hd := decide_eq_true hS
    by_cases hK : 1 ≤ h.key.length ∧ h.key.length ≤ 255
    · obtain ⟨hK1, hK2⟩ := hK
      have hK3 : ((h.key.length : Int) == 0) = false := by rw [beq_eq_false_iff_ne]; omega
      have HS := Lib.hid hS
      go_enter Try.func99, Try.ntmps99
      go_wp2_with (refine wpList_load_at rfl 39 _ rfl ⟨w.heap.size, 8, none⟩ rfl (shapeC h) _ (HARM.out _ HB.out) Try.underlying39 rfl (by kernel_rfl) ?_)
      refine (may_n h.k h.m h.blk _ (by omega) (by omega)).mono ?_
      rw [hd]
      rintro e w1 ⟨rfl, hx1⟩
      clear hd hS
      have hb1 := HB.out.below hx1 HB.out.lt
      have c11 := hb1.cell 11
      have c12 := hb1.cell 12
      rw [i11] at c11
      rw [i12] at c12
      have HB1 := Lib.hid hb1
      have HX1 := Lib.hid (HX.out.trans hx1)
      clear hx1 hb1
      go_wp2_with (refine wpList_load_at rfl 39 _ rfl ⟨w.heap.size, 8, none⟩ rfl (shapeC h) _ (HARM.out _ HB1.out) Try.underlying39 rfl (by kernel_rfl) ?_)
      refine (fits_n h.k h.m h.blk h.size _ HS.out (by omega)).mono ?_
      rintro e w2 ⟨⟨z, rfl, hz0⟩, hx2⟩
      have hb2 := HB1.out.below hx2 HB1.out.lt
      have c13 := hb2.cell 13
      have c14 := hb2.cell 14
      have c15 := hb2.cell 15
      have d8 := hb2.cell 8
      have d9 := hb2.cell 9
      rw [i13] at c13
      rw [i14] at c14
      rw [i15] at c15
      rw [i8] at d8
      rw [i9] at d9
      have HX2 := Lib.hid (HX1.out.trans hx2)
      have HZ := Lib.hid hz0
      clear hx2 hb2 hz0 c11 c12
      by_cases hz1 : z = 0
      · subst hz1
        have hsize := HZ.out.1 rfl
        have HOK : Hid (okHead h ↔ (h.idx < h.k + h.m ∧ 1 ≤ h.epoch ∧ h.epoch ≤ 4294967295 ∧ 1 ≤ h.count ∧ h.count ≤ 4294967295)) := Lib.hid (by
          unfold okHead
          constructor
          · rintro ⟨-, -, -, -, -, h6⟩; exact h6
          · intro h6; exact ⟨HS.out, hK1, hK2, hsize.1, hsize.2, h6⟩)
        clear hsize HZ
        go_wp2
        all_goals
          go_ret
          first | exact ⟨⟨2, rfl, by rw [HOK.out]; omega⟩, HX2.out⟩ | exact ⟨⟨0, rfl, by rw [HOK.out]; omega⟩, HX2.out⟩
      · have HOK : Hid (¬ okHead h) := Lib.hid (fun ho => hz1 (HZ.out.2 ⟨ho.2.2.2.1, ho.2.2.2.2.1⟩))
        clear HZ
        go_wp2
        go_ret
        exact ⟨⟨z, rfl, ⟨fun e => absurd e hz1, fun e => absurd e HOK.out⟩⟩, HX2.out⟩
    · have HOK : Hid (¬ okHead h) := Lib.hid (fun ho => hK ⟨ho.2.1, ho.2.2.1⟩)
      go_enter Try.func99, Try.ntmps99
      go_wp2_with (refine wpList_load_at rfl 39 _ rfl ⟨w.heap.size, 8, none⟩ rfl (shapeC h) _ (HARM.out _ HB.out) Try.underlying39 rfl (by kernel_rfl) ?_)
      refine (may_n h.k h.m h.blk _ (by omega) (by omega)).mono ?_
      rw [hd]
      rintro e w1 ⟨rfl, hx1⟩
      clear hd hS
      have hb1 := HB.out.below hx1 HB.out.lt
      have c11 := hb1.cell 11
      rw [i11] at c11
      have HX1 := Lib.hid (HX.out.trans hx1)
      have hK4 : h.key.length = 0 ∨ 255 < h.key.length := by omega
      clear hx1 hb1 hK
      rcases hK4 with hK4 | hK4
      · have hK5 : ((h.key.length : Int) == 0) = true := by rw [hK4]; rfl
        clear hK4
        go_wp2
        go_ret
        exact ⟨⟨90, rfl, ⟨fun e => absurd e (by decide), fun e => absurd e HOK.out⟩⟩, HX1.out⟩
      · have hK5 : ((h.key.length : Int) == 0) = false := by rw [beq_eq_false_iff_ne]; omega
        go_wp2
        go_ret
        exact ⟨⟨90, rfl, ⟨fun e => absurd e (by decide), fun e => absurd e HOK.out⟩⟩, HX1.out⟩
  · have hd := decide_eq_false hS
    have HOK : Hid (¬ okHead h) := Lib.hid (fun ho => hS ho.1)
    go_enter Try.func99, Try.ntmps99
    go_wp2_with (refine wpList_load_at rfl 39 _ rfl ⟨w.heap.size, 8, none⟩ rfl (shapeC h) _ (HARM.out _ HB.out) Try.underlying39 rfl (by kernel_rfl) ?_)
    refine (may_n h.k h.m h.blk _ (by omega) (by omega)).mono ?_
    rw [hd]
    rintro e w1 ⟨rfl, hx1⟩
    have HX1 := Lib.hid (HX.out.trans hx1)
    clear hd hS hx1
    go_wp2
    go_ret
    exact ⟨⟨4, rfl, ⟨fun e => absurd e (by decide), fun e => absurd e HOK.out⟩⟩, HX1.out⟩
end Go.Proofs.Ytdoeelfcihdmbaa
/-
  Layer 8: the lengths of the blocks; how long the form of a head is.
-/
namespace Go.Proofs.Ytdoeelfcihdmbaa
open Go.RowKit Gf
set_option maxRecDepth 20000
set_option linter.unusedVariables false

/-- The first j lengths are laid. -/
def Lens (wr : World) (g q b j : Nat) : Prop := ∃ cs, Blk wr g 3 cs ∧ cs.size = q ∧ ∀ i, i < j → cs[i]? = some (.int .i64 (b : Int))
theorem Lens.step {wr : World} {g q b j : Nat} (h : Lens wr g q b j) (hj : j < q) : Lens (wr.setCell ⟨g, j, none⟩ (.int .i64 (b : Int))) g q b (j + 1) := by
  obtain ⟨cs, h1, h2, h3⟩ := h
  refine ⟨_, h1.set_ j _, by simpa using h2, fun i hi => ?_⟩
  rw [Array.getElem?_setIfInBounds]
  by_cases e : j = i
  · subst e; simp [h2, hj]
  · simp [e, h3 i (by omega)]
theorem Lens.some_ {wr : World} {g q b j i : Nat} (h : Lens wr g q b j) (hi : i < q) : wr.frozen? ⟨g, i, none⟩ = false ∧ ∃ u, wr.cell? ⟨g, i, none⟩ = some u := by
  obtain ⟨cs, h1, h2, h3⟩ := h
  exact ⟨h1.frozen i, cs[i], by rw [h1.cell i]; exact Array.getElem?_eq_getElem (by omega)⟩
theorem sizesP_length (k b size : Nat) : (sizesP k b size).length = stripesP k b size := by simp [sizesP]
theorem sizesP_get {k b size i : Nat} (h : i < stripesP k b size) : (sizesP k b size)[i]? = some (if i + 1 = stripesP k b size ∧ 0 < size % (k * b) then (size % (k * b) + k - 1) / k else b) := by simp [sizesP, h]
theorem ints_at (l : List Nat) (i : Nat) : (ints l)[i]? = (l[i]?).map fun (n : Nat) => Value.int .i64 (n : Int) := by simp [ints]
/-- All are laid, the last as it is. -/
theorem Lens.own {w wr : World} {g k b size : Nat} (h : Lens wr g (stripesP k b size) b (stripesP k b size)) (hg : w.heap.size ≤ g) (hr : ¬ 0 < size % (k * b)) (hm : stripesP k b size ≤ 4096) : Own wr w.heap.size 3 (.slice (some ⟨g, 0, none⟩) (stripesP k b size) (stripesP k b size)) (ints (sizesP k b size)) := by
  obtain ⟨cs, h1, h2, h3⟩ := h
  have h4 := h1.own (B := w.heap.size) (n := stripesP k b size) (cap := stripesP k b size) hg (Nat.le_refl _) (by unfold maxLen; omega) h2
  have e : cs.toList.take (stripesP k b size) = ints (sizesP k b size) := by
    rw [List.take_of_length_le (by simp [h2])]
    apply List.ext_getElem?
    intro i
    rw [ints_at, Array.getElem?_toList]
    by_cases hi : i < stripesP k b size
    · rw [h3 i hi, sizesP_get hi, if_neg (fun h => hr h.2)]; rfl
    · rw [Array.getElem?_eq_none (by omega), List.getElem?_eq_none (by rw [sizesP_length]; omega)]; rfl
  rw [e] at h4
  exact h4
theorem Lens.ownLast {w wr : World} {g k b size : Nat} (h : Lens wr g (stripesP k b size) b (stripesP k b size)) (hg : w.heap.size ≤ g) (hr : 0 < size % (k * b)) (hq : 1 ≤ stripesP k b size) (hm : stripesP k b size ≤ 4096) :
    Own (wr.setCell ⟨g, stripesP k b size - 1, none⟩ (.int .i64 (((size % (k * b) + k - 1) / k : Nat) : Int))) w.heap.size 3 (.slice (some ⟨g, 0, none⟩) (stripesP k b size) (stripesP k b size)) (ints (sizesP k b size)) := by
  obtain ⟨cs, h1, h2, h3⟩ := h
  have h4 := (h1.set_ (stripesP k b size - 1) (.int .i64 (((size % (k * b) + k - 1) / k : Nat) : Int))).own (B := w.heap.size) (n := stripesP k b size) (cap := stripesP k b size) hg (Nat.le_refl _) (by unfold maxLen; omega) (by simpa using h2)
  have e : (cs.setIfInBounds (stripesP k b size - 1) (.int .i64 (((size % (k * b) + k - 1) / k : Nat) : Int))).toList.take (stripesP k b size) = ints (sizesP k b size) := by
    rw [List.take_of_length_le (by simp [h2])]
    apply List.ext_getElem?
    intro i
    rw [ints_at, Array.getElem?_toList, Array.getElem?_setIfInBounds]
    by_cases hi : i < stripesP k b size
    · rw [sizesP_get hi]
      by_cases hi2 : stripesP k b size - 1 = i
      · rw [if_pos hi2, if_pos (by omega), if_pos ⟨by omega, hr⟩]; rfl
      · rw [if_neg hi2, h3 i hi, if_neg (fun h => by omega)]; rfl
    · rw [if_neg (by omega), Array.getElem?_eq_none (by omega), List.getElem?_eq_none (by rw [sizesP_length]; omega)]; rfl
  rw [e] at h4
  exact h4
set_option maxHeartbeats 4000000 in
theorem lengths_n (k m b size : Nat) (w : World) (hs : okShape k m b) (hz : okSize k b size) :
    Calls Try.prog 100 #[.agg #[.int .i64 (k : Int), .int .i64 (m : Int), .int .i64 (b : Int)], .int .i64 (size : Int)] w fun e w' => ∃ v, e = .returned v ∧ Own w' w.heap.size 3 v (ints (sizesP k b size)) ∧ Ext w w' := by
  obtain ⟨p1, p2⟩ := stripe_pos hs
  obtain ⟨z1, z2⟩ := hz
  obtain ⟨s1, s2, s3, s4, s5⟩ := hs
  have hkb : k ≤ 255 := by omega
  obtain ⟨st, hst⟩ : ∃ st, st = k * b := ⟨_, rfl⟩
  rw [← hst] at p1 p2
  have e1 : (k : Int) * (b : Int) = (st : Int) := by rw [hst]; simp
  obtain ⟨q, hq⟩ : ∃ q, q = stripesP k b size := ⟨_, rfl⟩
  have e2 : ((size : Int) + (st : Int) - 1) / (st : Int) = (q : Int) := by
    rw [hq, stripesP, ← hst, show (size : Int) + (st : Int) - 1 = ((size + st - 1 : Nat) : Int) by omega]; simp
  have e3 : ((size : Int) + (st : Int) - 1).tdiv (st : Int) = (q : Int) := by rw [Int.tdiv_eq_ediv_of_nonneg (by omega)]; exact e2
  rw [← hq] at z2
  obtain ⟨r, hr⟩ : ∃ r, r = size % st := ⟨_, rfl⟩
  have hrl : r < 16711680 := by rw [hr]; exact Nat.lt_of_lt_of_le (Nat.mod_lt _ (by omega)) p2
  have e4 : (size : Int) % (st : Int) = (r : Int) := by rw [hr]; simp
  have e5 : (size : Int).tmod (st : Int) = (r : Int) := by rw [Int.tmod_eq_emod_of_nonneg (by omega)]; exact e4
  obtain ⟨x, hx⟩ : ∃ x, x = (r + k - 1) / k := ⟨_, rfl⟩
  have e6 : ((r : Int) + (k : Int) - 1) / (k : Int) = (x : Int) := by rw [hx, show (r : Int) + (k : Int) - 1 = ((r + k - 1 : Nat) : Int) by omega]; simp
  have e7 : ((r : Int) + (k : Int) - 1).tdiv (k : Int) = (x : Int) := by rw [Int.tdiv_eq_ediv_of_nonneg (by omega)]; exact e6
  have hxl : x ≤ 100000000 := by rw [hx]; exact Nat.le_trans (Nat.div_le_self _ _) (by omega)
  have hq1 : 0 < r → 1 ≤ q := fun h => by
    rw [hq, stripesP, ← hst]
    exact Nat.div_pos (by have : size ≠ 0 := (fun e => by rw [e, Nat.zero_mod] at hr; omega); omega) (by omega)
  have HQ1 := Lib.hid hq1
  have HQ := Lib.hid hq
  have HR : Hid (r = size % (k * b)) := Lib.hid (by rw [hr, hst])
  have HXX := Lib.hid hx
  clear hq1 hq hr hx hst
  have hmk : ∀ w, (Instr.makeSlice 31 (.int .i64 (q : Int)) (.int .i64 (q : Int))).run Try.prog w = .ok (.slice (some ⟨w.heap.size, 0, none⟩) q q) (w.alloc (.cells (zrow (.int .i64 0) q) 3)) := fun w => run_make_elt eltInt _ _ q (by omega) w
  go_enter Try.func100, Try.ntmps100
  go_wp2_with fail
  obtain ⟨W0, hW0⟩ : ∃ W0, W0 = w.alloc (.cells #[.int .i64 (k : Int), .int .i64 (m : Int), .int .i64 (b : Int)] 39) := ⟨_, rfl⟩
  have hz0 : W0.heap.size = w.heap.size + 1 := by rw [hW0]; simp
  have hb0 : Blk W0 w.heap.size 39 #[.int .i64 (k : Int), .int .i64 (m : Int), .int .i64 (b : Int)] := by rw [hW0]; exact Blk.new _ _ _
  have H0 : Hid (Ext w (W0.alloc (.cells (zrow (.int .i64 0) q) 3)) ∧ Blk (W0.alloc (.cells (zrow (.int .i64 0) q) 3)) w.heap.size 39 #[.int .i64 (k : Int), .int .i64 (m : Int), .int .i64 (b : Int)] ∧ Lens (W0.alloc (.cells (zrow (.int .i64 0) q) 3)) (w.heap.size + 1) q b 0) := Lib.hid
    ⟨by rw [hW0]; exact ((Ext.refl w).alloc _).alloc _, hb0.alloc _, ⟨_, by rw [← hz0]; exact Blk.new _ _ _, zrow_size _ _, fun i h => by omega⟩⟩
  rw [hW0] at H0
  clear hW0 hz0 hb0
  go_loopw [23] (fun i wr => ∃ j : Nat, j ≤ q ∧ i = .int .i64 j ∧ Ext w wr ∧ Blk wr w.heap.size 39 #[.int .i64 (k : Int), .int .i64 (m : Int), .int .i64 (b : Int)] ∧ Lens wr (w.heap.size + 1) q b j) (fun i _ => q - (intOf i).toNat)
  case atStart => exact ⟨0, by omega, rfl, H0.out.1, H0.out.2.1, H0.out.2.2⟩
  case round =>
    clear H0
    obtain ⟨W, rfl⟩ : ∃ W, W = wr := ⟨_, rfl⟩
    obtain ⟨j, hj, rfl, hxw, hb, hl⟩ := hrel
    by_cases hlt : j < q
    · obtain ⟨f1, u1, c1⟩ := hl.some_ hlt
      have c2 := hb.cell 2
      simp at c2
      have HP := Lib.hid (And.intro (hxw.new (p := ⟨w.heap.size + 1, j, none⟩) (Nat.le_succ _) (.int .i64 (b : Int))) (And.intro (hb.far (p := ⟨w.heap.size + 1, j, none⟩) (show w.heap.size ≠ w.heap.size + 1 by omega) (.int .i64 (b : Int))) (hl.step hlt)))
      have hjq : (j : Int) < (q : Int) := by omega
      clear hxw hb hl
      go_wp2_with fail
      go_roundw
      case rel => exact ⟨j + 1, by omega, by go_num, HP.out.1, HP.out.2.1, HP.out.2.2⟩
      case measure => simp [intOf]; omega
    · obtain rfl : q = j := by omega
      have c0 := hb.cell 0
      simp at c0
      have HL := Lib.hid hl
      have HX := Lib.hid hxw
      rcases Nat.eq_zero_or_pos r with hr0 | hr0
      · have g1 : decide (0 < (r : Int)) = false := decide_eq_false (by omega)
        have g2 : decide (0 < r) = false := decide_eq_false (by omega)
        have g3 : (r : Int) ≤ 0 := by omega
        have HR0 : Hid (¬ 0 < size % (k * b)) := Lib.hid (by rw [← HR.out]; omega)
        clear hb hl hxw hr0
        go_wp2_with fail
        go_ret
        refine ⟨_, rfl, ?_, HX.out⟩
        have hl := HL.out
        rw [HQ.out] at hl ⊢
        exact hl.own (Nat.le_succ _) HR0.out (by rw [← HQ.out]; exact z2)
      · have hq1 := HQ1.out hr0
        obtain ⟨f1, u1, c1⟩ := hl.some_ (show q - 1 < q by omega)
        have hc : ((q : Int) - 1) = ((q - 1 : Nat) : Int) := by omega
        have HR0 : Hid (0 < size % (k * b)) := Lib.hid (by rw [← HR.out]; exact hr0)
        have hrp : 0 < (r : Int) := by omega
        clear hb hl hxw
        go_wp2_with fail
        refine bodyPost_ret (results_tmp rfl _ _ _) rfl ?_
        refine ⟨_, rfl, ?_, HX.out.new (p := ⟨w.heap.size + 1, q - 1, none⟩) (Nat.le_succ _) _⟩
        have hl := HL.out
        have hxx := HXX.out
        rw [HR.out] at hxx
        rw [hxx, HQ.out]
        rw [HQ.out] at hl
        exact hl.ownLast (Nat.le_succ _) HR0.out (by rw [← HQ.out]; exact hq1) (by rw [← HQ.out]; exact z2)
set_option maxHeartbeats 4000000 in
theorem sizes_n (k m b size : Nat) (w : World) (hs : okShape k m b) (hz : okSize k b size) :
    Calls Try.prog 151 #[.agg #[.int .i64 (k : Int), .int .i64 (m : Int), .int .i64 (b : Int)], .int .i64 (size : Int)] w fun e w' => ∃ v, e = .returned (.tuple #[v, .int .i64 0]) ∧ Own w' w.heap.size 3 v (ints (sizesP k b size)) ∧ Ext w w' := by
  have HS := Lib.hid hs
  have HZ := Lib.hid hz
  have hd := decide_eq_true hs
  have hz1 : size ≤ 1048576 := hz.1
  have hk1 : k ≤ 255 := by have := hs.2.1; have := hs.2.2.1; omega
  have hm1 : m ≤ 255 := by have := hs.2.1; have := hs.2.2.1; omega
  have hb : Blk (w.alloc (.cells #[.int .i64 (k : Int), .int .i64 (m : Int), .int .i64 (b : Int)] 39)) w.heap.size 39 #[.int .i64 (k : Int), .int .i64 (m : Int), .int .i64 (b : Int)] := Blk.new _ _ _
  have HB := Lib.hid hb
  have HX := Lib.hid ((Ext.refl w).alloc (.cells #[.int .i64 (k : Int), .int .i64 (m : Int), .int .i64 (b : Int)] 39))
  clear hs hz hb
  go_enter Try.func151, Try.ntmps151
  go_wp2_with (refine wpList_load_at rfl 39 _ rfl ⟨w.heap.size, 0, none⟩ rfl _ _ HB.out.cells Try.underlying39 rfl (by kernel_rfl) ?_)
  refine (may_n k m b _ (by omega) (by omega)).mono ?_
  rw [hd]
  rintro e w1 ⟨rfl, hx1⟩
  have HB1 := Lib.hid (HB.out.below hx1 HB.out.lt)
  have HX1 := Lib.hid (HX.out.trans hx1)
  clear hx1 hd
  go_wp2_with (refine wpList_load_at rfl 39 _ rfl ⟨w.heap.size, 0, none⟩ rfl _ _ HB1.out.cells Try.underlying39 rfl (by kernel_rfl) ?_)
  refine (fits_n k m b size _ HS.out (by omega)).mono ?_
  rintro e w2 ⟨⟨z, rfl, hz0⟩, hx2⟩
  obtain rfl : z = 0 := hz0.2 HZ.out
  have HB2 := Lib.hid (HB1.out.below hx2 HB1.out.lt)
  have HX2 := Lib.hid (HX1.out.trans hx2)
  clear hx2 hz0
  go_wp2_with (refine wpList_load_at rfl 39 _ rfl ⟨w.heap.size, 0, none⟩ rfl _ _ HB2.out.cells Try.underlying39 rfl (by kernel_rfl) ?_)
  refine (lengths_n k m b size _ HS.out HZ.out).mono ?_
  rintro e w3 ⟨v, rfl, ho, hx3⟩
  have HO := Lib.hid (ho.mono HX2.out.le)
  have HX3 := Lib.hid (HX2.out.trans hx3)
  clear ho hx3
  go_wp2_with fail
  go_ret2
  exact ⟨v, rfl, HO.out, HX3.out⟩
/-- How long the form is. -/
def lenP (h : HeadP) : Nat := 40 + h.key.length + ((sizesP h.k h.blk h.size).map (· + 4)).sum
theorem okHead.size_ {h : HeadP} (ho : okHead h) : okSize h.k h.blk h.size := ⟨ho.2.2.2.1, ho.2.2.2.2.1⟩
def sum4 (l : List Nat) : Nat := (l.map (· + 4)).sum
theorem sum4_snoc (l : List Nat) (x : Nat) : sum4 (l ++ [x]) = sum4 l + (x + 4) := by simp [sum4]
theorem sum4_le {l : List Nat} {n : Nat} (h : ∀ x ∈ l, x ≤ n) : sum4 l ≤ l.length * (n + 4) := by
  induction l with
  | nil => simp [sum4]
  | cons x l ih =>
    have h1 := ih fun y hy => h y (by simp [hy])
    have h2 := h x (by simp)
    simp only [sum4, List.map_cons, List.sum_cons, List.length_cons] at h1 ⊢
    rw [Nat.add_mul, Nat.one_mul]; omega
set_option maxHeartbeats 4000000 in
theorem length_n (h : HeadP) (w : World) (ho : okHead h) : Calls Try.prog 104 #[.agg (headC h)] w fun e w' => e = .returned (.int .i64 (lenP h : Int)) ∧ Ext w w' := by
  have HO := Lib.hid ho
  have hkl : h.key.length ≤ 255 := ho.2.2.1
  have hb : Blk (w.alloc (.cells (headC h) 43)) w.heap.size 43 (headC h) := Blk.new _ _ _
  have HB := Lib.hid hb
  have HX := Lib.hid ((Ext.refl w).alloc (.cells (headC h) 43))
  have i11 : (headC h)[11]? = some (.string (strB h.key)) := rfl
  have i12 : (headC h)[12]? = some (.int .i64 (h.size : Int)) := rfl
  have hsz := strB_size h.key
  have HARM := Lib.hid (hb.sub 8 (shapeC h) (shape_in h))
  clear ho hb
  go_enter Try.func104, Try.ntmps104
  go_wp2_with (refine wpList_load_at rfl 39 _ rfl ⟨w.heap.size, 8, none⟩ rfl (shapeC h) _ HARM.out Try.underlying39 rfl (by kernel_rfl) ?_)
  refine (lengths_n h.k h.m h.blk h.size _ HO.out.1 HO.out.size_).mono ?_
  rintro e W ⟨v, rfl, how, hx⟩
  obtain ⟨A, c, rfl, hr, hc1, hc2, -⟩ := how.slice
  obtain ⟨q, hq⟩ : ∃ q, q = (sizesP h.k h.blk h.size).length := ⟨_, rfl⟩
  have hql : q ≤ 4096 := by rw [hq, sizesP_length]; exact HO.out.2.2.2.2.1
  rw [ints_length, ← hq] at hc1 ⊢
  unfold maxLen at hc2
  have HQ := Lib.hid hq
  have HR := Lib.hid hr
  have HX2 := Lib.hid (HX.out.trans hx)
  clear how hr hx hq i11 i12 hsz
  go_wp2_with fail
  go_loop [3, 17] (fun s i => ∃ j : Nat, j ≤ q ∧ i = .int .i64 j ∧ s = .int .i64 ((40 + h.key.length + sum4 ((sizesP h.k h.blk h.size).take j) : Nat) : Int)) (fun _ i => q - (intOf i).toNat)
  case atStart => exact ⟨0, by omega, rfl, by simp [sum4]; omega⟩
  case round =>
    obtain ⟨j, hj, rfl, rfl⟩ := hrel
    by_cases hlt : j < q
    · have hjl : j < (sizesP h.k h.blk h.size).length := by rw [← HQ.out]; exact hlt
      obtain ⟨x, hx⟩ : ∃ x, x = (sizesP h.k h.blk h.size)[j] := ⟨_, rfl⟩
      obtain ⟨ad, rfl, hc⟩ := HR.out.at_ (k := j) (u := .int .i64 (x : Int)) (by rw [ints_at, List.getElem?_eq_getElem hjl, hx]; rfl)
      have hxb : x ≤ 65536 := by rw [hx]; exact Nat.le_trans (sizesP_le (by have := HO.out.1.1; have := HO.out.1.2.1; omega) _ (List.getElem_mem hjl)) HO.out.1.2.2.2.2
      obtain ⟨s, hs⟩ : ∃ s, s = 40 + h.key.length + sum4 ((sizesP h.k h.blk h.size).take j) := ⟨_, rfl⟩
      have hsb : s ≤ 1000000000 := by
        have h1 := sum4_le (l := (sizesP h.k h.blk h.size).take j) (n := 65536) fun y hy => Nat.le_trans (sizesP_le (by have := HO.out.1.1; have := HO.out.1.2.1; omega) y (List.mem_of_mem_take hy)) HO.out.1.2.2.2.2
        have h2 : ((sizesP h.k h.blk h.size).take j).length ≤ 4096 := by rw [List.length_take]; omega
        have h3 := Nat.mul_le_mul_right (65536 + 4) h2
        omega
      have HS : Hid (40 + h.key.length + sum4 ((sizesP h.k h.blk h.size).take (j + 1)) = s + (x + 4)) := Lib.hid (by rw [take_snoc' _ j hjl, sum4_snoc, ← hx, hs]; omega)
      rw [← hs]
      clear hx hs
      go_wp2_with fail
      go_round
      case rel => exact ⟨j + 1, by omega, by go_num, by rw [HS.out]; go_num⟩
      case measure => simp [intOf]; omega
    · obtain rfl : q = j := by omega
      have HS : Hid (40 + h.key.length + sum4 ((sizesP h.k h.blk h.size).take q) = lenP h) := Lib.hid (by rw [List.take_of_length_le (by rw [← HQ.out]; exact Nat.le_refl _)]; rfl)
      rw [HS.out]
      go_wp2_with fail
      go_ret
      exact ⟨rfl, HX2.out⟩
end Go.Proofs.Ytdoeelfcihdmbaa
/-
  Layer 8: the first bytes of a head; the sum of a block.
-/
namespace Go.Proofs.Ytdoeelfcihdmbaa
open Go.RowKit Gf
set_option maxRecDepth 20000
set_option linter.unusedVariables false

theorem Moved.blkFar {w w' : World} {v v' : Value} {B : Nat} {T T' : TypeId} {xs : List Value} {g : Nat} {cs : Array Value} (h : Moved w w' v v') (hb : Blk w g T' cs) (ho : Own w B T v xs) (hT : T ≠ T') : Blk w' g T' cs :=
  hb.grown h.grown fun e => ho.notBlk hb hT e.symm
def magicC : Array Value := #[.int .u8 67, .int .u8 82, .int .u8 78, .int .u8 2]
def zero4 : Array Value := #[.int .u8 0, .int .u8 0, .int .u8 0, .int .u8 0]
set_option maxHeartbeats 1000000 in
theorem mark_n (w : World) : Calls Try.prog 156 #[] w fun e w' => e = .returned (.agg magicC) ∧ Ext w w' := by
  go_enter Try.func156, Try.ntmps156
  go_wp2_with (refine wpList_store_at rfl 209 _ _ rfl w.heap.size 0 magicC rfl rfl 209 zero4 (Blk.new _ _ _) (by kernel_rfl) (by decide) (by decide +kernel) ?_; intro W k1 k2)
  have hk := seg_all zero4 magicC (by decide +kernel)
  rw [hk] at k1
  have hx : Ext w W := k2.extNew ((Ext.refl w).alloc _) (Nat.le_refl _)
  exact bodyPost_ret (results_cell_row Try.results156 _ W w.heap.size 209 magicC _ _ rfl k1 Try.underlying209 rfl (by kernel_rfl)) rfl ⟨rfl, hx⟩
theorem u8_val {k : Nat} (h : k ≤ 255) : (Value.int .u8 (k : Int)) = bv (E.of (k % 256)) := by
  rw [bv, E.val_of (Nat.mod_lt _ (by decide)), Nat.mod_eq_of_lt (by omega)]
theorem le_one (k : Nat) : le 1 k = [E.of (k % 256)] := rfl
theorem magic_bs : magicC.toList = bs magicP := rfl
theorem head_small {h : HeadP} (ho : okHead h) : h.k ≤ 255 ∧ h.m ≤ 255 ∧ h.blk ≤ 65536 ∧ h.size ≤ 1048576 ∧ h.idx ≤ 255 ∧ h.epoch ≤ 4294967295 ∧ h.count ≤ 4294967295 ∧ h.key.length ≤ 255 := by
  obtain ⟨⟨a1, a2, a3, a4, a5⟩, a6, a7, a8, a9, b1, b2, b3, b4, b5⟩ := ho
  refine ⟨by omega, by omega, by omega, by omega, by omega, by omega, by omega, by omega⟩
theorem store_bs {h : HeadP} (hs : h.store.length = 8) : ∀ (j : Nat) (u : Value), (bs h.store)[j]? = some u → (headC h)[0 + j]? = some u := fun j u hu => by
  have hl : j < 8 := by have := (List.getElem?_eq_some_iff.1 hu).1; rwa [bs_length, hs] at this
  have key : (bs h.store)[j]? = some (bv (h.store.getD j 0)) := by
    rw [bs, List.getElem?_map, List.getD_eq_getElem?_getD, List.getElem?_eq_getElem (by omega)]; rfl
  rw [key] at hu
  rw [← hu, Nat.zero_add]
  obtain rfl | rfl | rfl | rfl | rfl | rfl | rfl | rfl : j = 0 ∨ j = 1 ∨ j = 2 ∨ j = 3 ∨ j = 4 ∨ j = 5 ∨ j = 6 ∨ j = 7 := by omega
  all_goals rfl
theorem slice_arr4 (a : Addr) (w : World) : (Instr.sliceAt 209 (.pointer (some a)) none none none).run Try.prog w = .ok (.slice (some a) 4 4) w := by
  obtain ⟨i, h1, h2, h3, h4⟩ := eltU8.info
  have he : Try.prog.elem 209 = 5 := by kernel_rfl
  have hl : Try.prog.arrayLen 209 = 4 := by kernel_rfl
  rw [run_sliceAt_array_all _ _ _ (by kernel_rfl), he, hl]
  simp [sizeOf, typeInfo, h1, slicedAt, add_zero']
theorem slice_arr8 (a : Addr) (w : World) : (Instr.sliceAt 37 (.pointer (some a)) none none none).run Try.prog w = .ok (.slice (some a) 8 8) w := by
  obtain ⟨i, h1, h2, h3, h4⟩ := eltU8.info
  have he : Try.prog.elem 37 = 5 := by kernel_rfl
  have hl : Try.prog.arrayLen 37 = 8 := by kernel_rfl
  rw [run_sliceAt_array_all _ _ _ (by kernel_rfl), he, hl]
  simp [sizeOf, typeInfo, h1, slicedAt, add_zero']
set_option maxHeartbeats 8000000 in
theorem first_n (h : HeadP) (w : World) (ho : okHead h) (hs : h.store.length = 8) : Calls Try.prog 101 #[.agg (headC h)] w fun e w' => ∃ v, e = .returned v ∧ Own w' w.heap.size 5 v (bs (fixedP h)) ∧ Ext w w' := by
  have hmo : Try.prog.follows Departure.mixedOrders = true := by kernel_rfl
  obtain ⟨b1, b2, b3, b4, b5, b6, b7, b8⟩ := head_small ho
  have hb : Blk (w.alloc (.cells (headC h) 43)) w.heap.size 43 (headC h) := Blk.new _ _ _
  have HB := Lib.hid hb
  have HX := Lib.hid ((Ext.refl w).alloc (.cells (headC h) 43))
  have HS := Lib.hid hs
  clear ho hb hs
  go_enter Try.func101, Try.ntmps101
  go_wp2_with fail
  refine (mark_n _).mono ?_
  rintro e w1 ⟨rfl, hx1⟩
  have HB1 := Lib.hid (HB.out.below hx1 HB.out.lt)
  have HX1 := Lib.hid (HX.out.trans hx1)
  clear hx1 HB HX
  go_wp2_with (refine wpList_store_at rfl 209 _ _ rfl w1.heap.size 0 magicC rfl rfl 209 zero4 (Blk.new _ _ _) (by kernel_rfl) (by decide) (by decide +kernel) ?_; intro W k1 k2)
  have hk := seg_all zero4 magicC (by decide +kernel)
  rw [hk] at k1
  have hxW : Ext w W := k2.extNew (HX1.out.alloc _) HX1.out.le
  have hbW : Blk W w.heap.size 43 (headC h) := (HB1.out.alloc _).touch k2 (fun e => by have := HB1.out.lt; omega)
  obtain ⟨g3, hg3⟩ : ∃ g, g = w1.heap.size := ⟨_, rfl⟩
  rw [← hg3] at k1 ⊢
  have HXW := Lib.hid hxW
  have HBW := Lib.hid hbW
  have HK1 := Lib.hid k1
  clear k1 k2 hxW hbW HB1 HX1 hg3 hk
  have hz4 := slice_arr4
  have hz8 := slice_arr8
  refine wp_region_mix (fun i => [3, 3, 3, 2, 3].getD i 0) (fun w' => Ext W w') hmo (by kernel_rfl) (by kernel_rfl) ((Ext.refl _).drewN 1) ?_
  refine mix_pure (.slice (some ⟨g3, 0, none⟩) 4 4) rfl (fun w' => by go_simp) ?_
  refine mix_pure (.pointer (some ⟨w.heap.size, 0, none⟩)) rfl (fun w' => by go_simp) ?_
  refine mix_pure (.slice (some ⟨w.heap.size, 0, none⟩) 8 8) rfl (fun w' => by go_simp) ?_
  have hxd : Ext W W.drew := (Ext.refl W).drewN 1
  have hr0 : Rd W.drew (some ⟨g3, 0, none⟩) (bs magicP) := fun _ => ⟨_, rfl, fun j u hu => (HK1.out.below hxd HK1.out.lt).cells j u (by rw [← magic_bs] at hu; simpa using hu)⟩
  have hr1 : Rd W.drew (some ⟨w.heap.size, 0, none⟩) (bs h.store) := fun _ => ⟨_, rfl, fun j u hu => (HBW.out.below hxd HBW.out.lt).cells j u (by have := store_bs HS.out j u hu; rwa [Nat.zero_add] at this)⟩
  obtain ⟨v1, W2, hrun, ho1, hx2⟩ := run_appFull (P := Try.prog) W.drew eltU8 24 (some ⟨g3, 0, none⟩) 4 (bs magicP) hr0 (by rw [bs_length]; rfl) (fun h => by cases h) ⟨w.heap.size, 0, none⟩ 8 8 (bs h.store) hr1 (by rw [bs_length]; exact HS.out) (by omega) (by omega)
  refine mix_last v1 W2 rfl (append_run rfl (by go_simp) (by go_simp) hrun) ?_
  obtain ⟨A1, n1, c1, rfl⟩ : ∃ A n c, v1 = Value.slice A n c := by obtain ⟨A, c, h⟩ := ho1.anySlice; exact ⟨_, _, _, h⟩
  refine mix_pure (.slice A1 n1 c1) rfl (fun w' => by go_simp) ?_
  refine mix_nil ?_
  have HX2 := Lib.hid (HXW.out.trans (hxd.trans hx2))
  have HB2 := Lib.hid ((HBW.out.below hxd HBW.out.lt).below hx2 (by simpa using HBW.out.lt))
  have HO2 : Hid (Own W2 w.heap.size 5 (.slice A1 n1 c1) (bs (magicP ++ h.store))) := Lib.hid (by rw [bs_append]; exact ho1.mono (by simpa using HXW.out.le))
  have hnl : ∀ (w' : World) (A : Option Addr) (n c : Nat) (xs : List E), Own w' w.heap.size 5 (.slice A n c) (bs xs) → n = xs.length := fun w' A n c xs ho => by have := ho.len; rwa [bs_length] at this
  have HNL := Lib.hid hnl
  have hL2 : (magicP ++ h.store).length ≤ 100 := by rw [List.length_append, HS.out]; decide
  clear hrun ho1 hx2 hr0 hr1 hz4 hz8 hxd HXW HBW HK1 hnl
  go_simp
  have c8 := HB2.out.cell 8
  rw [show (headC h)[8]? = some (.int .i64 (h.k : Int)) from rfl] at c8
  have c9 := HB2.out.cell 9
  rw [show (headC h)[9]? = some (.int .i64 (h.m : Int)) from rfl] at c9
  have hv : [.int .u8 (h.k : Int), .int .u8 (h.m : Int)] = bs [E.of (h.k % 256), E.of (h.m % 256)] := by simp only [bs, List.map_cons, List.map_nil]; simp only [u8_val b1, u8_val b2]
  have HV := Lib.hid hv
  have hrd : Rd (W2.alloc (.cells #[.int .u8 (h.k : Int), .int .u8 (h.m : Int)] 5)) (some ⟨W2.heap.size, 0, none⟩) [.int .u8 (h.k : Int), .int .u8 (h.m : Int)] := fun _ => ⟨_, rfl, fun j u hu => (Blk.new W2 5 #[.int .u8 (h.k : Int), .int .u8 (h.m : Int)]).cells j u (by simpa using hu)⟩
  have hbd : ((bs (magicP ++ h.store)).length + 2) * 1 ≤ 140737488355328 := by rw [bs_length]; omega
  have hle : w.heap.size ≤ (W2.alloc (.cells #[.int .u8 (h.k : Int), .int .u8 (h.m : Int)] 5)).heap.size := by simpa using Nat.le_succ_of_le HX2.out.le
  have hon : ∀ u ∈ ([.int .u8 (h.k : Int), .int .u8 (h.m : Int)] : List Value), u.oneCell' = true := by simp [Value.oneCell']
  clear hv
  go_wp2_with (at_builtin; refine wpList_app (W2.alloc (.cells #[.int .u8 (h.k : Int), .int .u8 (h.m : Int)] 5)) eltU8 rfl _ _ (by rfl) w.heap.size (.slice A1 n1 c1) (bs (magicP ++ h.store)) (by rfl) (by exact HO2.out.alloc _) (some ⟨W2.heap.size, 0, none⟩) 2 2 [.int .u8 (h.k : Int), .int .u8 (h.m : Int)] (by rfl) (by exact hrd) rfl hon hbd hle ?_)
  intro v3 W3 ho hmv
  have hx : Ext w W3 := (HX2.out.alloc _).below.trans (hmv.below (B := w.heap.size) hle fun g hg => (HO2.out.lt g hg).1)
  have hbb : Blk W3 w.heap.size 43 (headC h) := (hmv.blkFar (HB2.out.alloc _) (HO2.out.alloc _) (by decide))
  obtain ⟨A3, n3, d3, rfl⟩ : ∃ A n c, v3 = Value.slice A n c := by obtain ⟨A, c, h⟩ := ho.anySlice; exact ⟨_, _, _, h⟩
  have HO3 : Hid (Own W3 w.heap.size 5 (.slice A3 n3 d3) (bs ((magicP ++ h.store) ++ [E.of (h.k % 256), E.of (h.m % 256)]))) := Lib.hid (by rw [HV.out, ← bs_append] at ho; simpa [List.append_assoc] using ho)
  have HX3 := Lib.hid hx
  have HB3 := Lib.hid hbb
  have hL3 : ((magicP ++ h.store) ++ [E.of (h.k % 256), E.of (h.m % 256)]).length ≤ 100 := by simp only [List.length_append, HS.out, List.length_cons, List.length_nil]; decide
  clear ho hmv hx hbb hrd hbd hle hon HV HO2 HX2 HB2 hL2 c8 c9
  have c10 := HB3.out.cell 10
  rw [show (headC h)[10]? = some (.int .i64 (h.blk : Int)) from rfl] at c10
  have hn3 := HNL.out _ _ _ _ _ HO3.out
  have HN := Lib.hid hn3
  clear hn3
  go_wp2_with fail
  refine (put32_n A3 n3 d3 h.blk ((magicP ++ h.store) ++ [E.of (h.k % 256), E.of (h.m % 256)]) _ HN.out.symm HO3.out.rd (by have := HN.out; omega) (by omega)).mono ?_
  rintro e W4 ⟨v4, rfl, ho, hx⟩
  obtain ⟨A4, n4, d4, rfl⟩ : ∃ A n c, v4 = Value.slice A n c := by obtain ⟨A, c, h⟩ := ho.anySlice; exact ⟨_, _, _, h⟩
  have HO4 : Hid (Own W4 w.heap.size 5 (.slice A4 n4 d4) (bs (((magicP ++ h.store) ++ [E.of (h.k % 256), E.of (h.m % 256)]) ++ le 4 h.blk))) := Lib.hid (ho.mono HX3.out.le)
  have HX4 := Lib.hid (HX3.out.trans hx)
  have HB4 := Lib.hid (HB3.out.below hx HB3.out.lt)
  have hL4 : (((magicP ++ h.store) ++ [E.of (h.k % 256), E.of (h.m % 256)]) ++ le 4 h.blk).length ≤ 100 := by simp only [List.length_append, HS.out, List.length_cons, List.length_nil, le_length]; decide
  clear ho hx HN HO3 HX3 HB3 hL3 c10
  have c12 := HB4.out.cell 12
  rw [show (headC h)[12]? = some (.int .i64 (h.size : Int)) from rfl] at c12
  have hn4 := HNL.out _ _ _ _ _ HO4.out
  have HN := Lib.hid hn4
  clear hn4
  go_wp2_with fail
  refine (put32_n A4 n4 d4 h.size (((magicP ++ h.store) ++ [E.of (h.k % 256), E.of (h.m % 256)]) ++ le 4 h.blk) _ HN.out.symm HO4.out.rd (by have := HN.out; omega) (by omega)).mono ?_
  rintro e W5 ⟨v5, rfl, ho, hx⟩
  obtain ⟨A5, n5, d5, rfl⟩ : ∃ A n c, v5 = Value.slice A n c := by obtain ⟨A, c, h⟩ := ho.anySlice; exact ⟨_, _, _, h⟩
  have HO5 : Hid (Own W5 w.heap.size 5 (.slice A5 n5 d5) (bs ((((magicP ++ h.store) ++ [E.of (h.k % 256), E.of (h.m % 256)]) ++ le 4 h.blk) ++ le 4 h.size))) := Lib.hid (ho.mono HX4.out.le)
  have HX5 := Lib.hid (HX4.out.trans hx)
  have HB5 := Lib.hid (HB4.out.below hx HB4.out.lt)
  have hL5 : ((((magicP ++ h.store) ++ [E.of (h.k % 256), E.of (h.m % 256)]) ++ le 4 h.blk) ++ le 4 h.size).length ≤ 100 := by simp only [List.length_append, HS.out, List.length_cons, List.length_nil, le_length]; decide
  clear ho hx HN HO4 HX4 HB4 hL4 c12
  have c13 := HB5.out.cell 13
  rw [show (headC h)[13]? = some (.int .i64 (h.idx : Int)) from rfl] at c13
  have hv : [.int .u8 (h.idx : Int)] = bs [E.of (h.idx % 256)] := by simp only [bs, List.map_cons, List.map_nil]; simp only [u8_val b5]
  have HV := Lib.hid hv
  have hrd : Rd (W5.alloc (.cells #[.int .u8 (h.idx : Int)] 5)) (some ⟨W5.heap.size, 0, none⟩) [.int .u8 (h.idx : Int)] := fun _ => ⟨_, rfl, fun j u hu => (Blk.new W5 5 #[.int .u8 (h.idx : Int)]).cells j u (by simpa using hu)⟩
  have hbd : ((bs ((((magicP ++ h.store) ++ [E.of (h.k % 256), E.of (h.m % 256)]) ++ le 4 h.blk) ++ le 4 h.size)).length + 1) * 1 ≤ 140737488355328 := by rw [bs_length]; omega
  have hle : w.heap.size ≤ (W5.alloc (.cells #[.int .u8 (h.idx : Int)] 5)).heap.size := by simpa using Nat.le_succ_of_le HX5.out.le
  have hon : ∀ u ∈ ([.int .u8 (h.idx : Int)] : List Value), u.oneCell' = true := by simp [Value.oneCell']
  clear hv
  go_wp2_with (at_builtin; refine wpList_app (W5.alloc (.cells #[.int .u8 (h.idx : Int)] 5)) eltU8 rfl _ _ (by rfl) w.heap.size (.slice A5 n5 d5) (bs ((((magicP ++ h.store) ++ [E.of (h.k % 256), E.of (h.m % 256)]) ++ le 4 h.blk) ++ le 4 h.size)) (by rfl) (by exact HO5.out.alloc _) (some ⟨W5.heap.size, 0, none⟩) 1 1 [.int .u8 (h.idx : Int)] (by rfl) (by exact hrd) rfl hon hbd hle ?_)
  intro v6 W6 ho hmv
  have hx : Ext w W6 := (HX5.out.alloc _).below.trans (hmv.below (B := w.heap.size) hle fun g hg => (HO5.out.lt g hg).1)
  have hbb : Blk W6 w.heap.size 43 (headC h) := (hmv.blkFar (HB5.out.alloc _) (HO5.out.alloc _) (by decide))
  obtain ⟨A6, n6, d6, rfl⟩ : ∃ A n c, v6 = Value.slice A n c := by obtain ⟨A, c, h⟩ := ho.anySlice; exact ⟨_, _, _, h⟩
  have HO6 : Hid (Own W6 w.heap.size 5 (.slice A6 n6 d6) (bs (((((magicP ++ h.store) ++ [E.of (h.k % 256), E.of (h.m % 256)]) ++ le 4 h.blk) ++ le 4 h.size) ++ [E.of (h.idx % 256)]))) := Lib.hid (by rw [HV.out, ← bs_append] at ho; simpa [List.append_assoc] using ho)
  have HX6 := Lib.hid hx
  have HB6 := Lib.hid hbb
  have hL6 : (((((magicP ++ h.store) ++ [E.of (h.k % 256), E.of (h.m % 256)]) ++ le 4 h.blk) ++ le 4 h.size) ++ [E.of (h.idx % 256)]).length ≤ 100 := by simp only [List.length_append, HS.out, List.length_cons, List.length_nil, le_length]; decide
  clear ho hmv hx hbb hrd hbd hle hon HV HO5 HX5 HB5 hL5 c13
  have c14 := HB6.out.cell 14
  rw [show (headC h)[14]? = some (.int .i64 (h.epoch : Int)) from rfl] at c14
  have hn6 := HNL.out _ _ _ _ _ HO6.out
  have HN := Lib.hid hn6
  clear hn6
  go_wp2_with fail
  refine (put32_n A6 n6 d6 h.epoch (((((magicP ++ h.store) ++ [E.of (h.k % 256), E.of (h.m % 256)]) ++ le 4 h.blk) ++ le 4 h.size) ++ [E.of (h.idx % 256)]) _ HN.out.symm HO6.out.rd (by have := HN.out; omega) (by omega)).mono ?_
  rintro e W7 ⟨v7, rfl, ho, hx⟩
  obtain ⟨A7, n7, d7, rfl⟩ : ∃ A n c, v7 = Value.slice A n c := by obtain ⟨A, c, h⟩ := ho.anySlice; exact ⟨_, _, _, h⟩
  have HO7 : Hid (Own W7 w.heap.size 5 (.slice A7 n7 d7) (bs ((((((magicP ++ h.store) ++ [E.of (h.k % 256), E.of (h.m % 256)]) ++ le 4 h.blk) ++ le 4 h.size) ++ [E.of (h.idx % 256)]) ++ le 4 h.epoch))) := Lib.hid (ho.mono HX6.out.le)
  have HX7 := Lib.hid (HX6.out.trans hx)
  have HB7 := Lib.hid (HB6.out.below hx HB6.out.lt)
  have hL7 : ((((((magicP ++ h.store) ++ [E.of (h.k % 256), E.of (h.m % 256)]) ++ le 4 h.blk) ++ le 4 h.size) ++ [E.of (h.idx % 256)]) ++ le 4 h.epoch).length ≤ 100 := by simp only [List.length_append, HS.out, List.length_cons, List.length_nil, le_length]; decide
  clear ho hx HN HO6 HX6 HB6 hL6 c14
  have c15 := HB7.out.cell 15
  rw [show (headC h)[15]? = some (.int .i64 (h.count : Int)) from rfl] at c15
  have hn7 := HNL.out _ _ _ _ _ HO7.out
  have HN := Lib.hid hn7
  clear hn7
  go_wp2_with fail
  refine (put32_n A7 n7 d7 h.count ((((((magicP ++ h.store) ++ [E.of (h.k % 256), E.of (h.m % 256)]) ++ le 4 h.blk) ++ le 4 h.size) ++ [E.of (h.idx % 256)]) ++ le 4 h.epoch) _ HN.out.symm HO7.out.rd (by have := HN.out; omega) (by omega)).mono ?_
  rintro e W8 ⟨v8, rfl, ho, hx⟩
  obtain ⟨A8, n8, d8, rfl⟩ : ∃ A n c, v8 = Value.slice A n c := by obtain ⟨A, c, h⟩ := ho.anySlice; exact ⟨_, _, _, h⟩
  have HO8 : Hid (Own W8 w.heap.size 5 (.slice A8 n8 d8) (bs (((((((magicP ++ h.store) ++ [E.of (h.k % 256), E.of (h.m % 256)]) ++ le 4 h.blk) ++ le 4 h.size) ++ [E.of (h.idx % 256)]) ++ le 4 h.epoch) ++ le 4 h.count))) := Lib.hid (ho.mono HX7.out.le)
  have HX8 := Lib.hid (HX7.out.trans hx)
  have HB8 := Lib.hid (HB7.out.below hx HB7.out.lt)
  have hL8 : (((((((magicP ++ h.store) ++ [E.of (h.k % 256), E.of (h.m % 256)]) ++ le 4 h.blk) ++ le 4 h.size) ++ [E.of (h.idx % 256)]) ++ le 4 h.epoch) ++ le 4 h.count).length ≤ 100 := by simp only [List.length_append, HS.out, List.length_cons, List.length_nil, le_length]; decide
  clear ho hx HN HO7 HX7 HB7 hL7 c15
  have hsz := strB_size h.key
  have c11 := HB8.out.cell 11
  rw [show (headC h)[11]? = some (.string (strB h.key)) from rfl] at c11
  have hv : [.int .u8 (h.key.length : Int)] = bs [E.of (h.key.length % 256)] := by simp only [bs, List.map_cons, List.map_nil]; simp only [u8_val b8]
  have HV := Lib.hid hv
  have hrd : Rd (W8.alloc (.cells #[.int .u8 (h.key.length : Int)] 5)) (some ⟨W8.heap.size, 0, none⟩) [.int .u8 (h.key.length : Int)] := fun _ => ⟨_, rfl, fun j u hu => (Blk.new W8 5 #[.int .u8 (h.key.length : Int)]).cells j u (by simpa using hu)⟩
  have hbd : ((bs (((((((magicP ++ h.store) ++ [E.of (h.k % 256), E.of (h.m % 256)]) ++ le 4 h.blk) ++ le 4 h.size) ++ [E.of (h.idx % 256)]) ++ le 4 h.epoch) ++ le 4 h.count)).length + 1) * 1 ≤ 140737488355328 := by rw [bs_length]; omega
  have hle : w.heap.size ≤ (W8.alloc (.cells #[.int .u8 (h.key.length : Int)] 5)).heap.size := by simpa using Nat.le_succ_of_le HX8.out.le
  have hon : ∀ u ∈ ([.int .u8 (h.key.length : Int)] : List Value), u.oneCell' = true := by simp [Value.oneCell']
  clear hv
  go_wp2_with (at_builtin; refine wpList_app (W8.alloc (.cells #[.int .u8 (h.key.length : Int)] 5)) eltU8 rfl _ _ (by rfl) w.heap.size (.slice A8 n8 d8) (bs (((((((magicP ++ h.store) ++ [E.of (h.k % 256), E.of (h.m % 256)]) ++ le 4 h.blk) ++ le 4 h.size) ++ [E.of (h.idx % 256)]) ++ le 4 h.epoch) ++ le 4 h.count)) (by rfl) (by exact HO8.out.alloc _) (some ⟨W8.heap.size, 0, none⟩) 1 1 [.int .u8 (h.key.length : Int)] (by rfl) (by exact hrd) rfl hon hbd hle ?_)
  intro v9 W9 ho hmv
  have hx : Ext w W9 := (HX8.out.alloc _).below.trans (hmv.below (B := w.heap.size) hle fun g hg => (HO8.out.lt g hg).1)
  have hbb : Blk W9 w.heap.size 43 (headC h) := (hmv.blkFar (HB8.out.alloc _) (HO8.out.alloc _) (by decide))
  obtain ⟨A9, n9, d9, rfl⟩ : ∃ A n c, v9 = Value.slice A n c := by obtain ⟨A, c, h⟩ := ho.anySlice; exact ⟨_, _, _, h⟩
  have HO9 : Hid (Own W9 w.heap.size 5 (.slice A9 n9 d9) (bs ((((((((magicP ++ h.store) ++ [E.of (h.k % 256), E.of (h.m % 256)]) ++ le 4 h.blk) ++ le 4 h.size) ++ [E.of (h.idx % 256)]) ++ le 4 h.epoch) ++ le 4 h.count) ++ [E.of (h.key.length % 256)]))) := Lib.hid (by rw [HV.out, ← bs_append] at ho; simpa [List.append_assoc] using ho)
  have HX9 := Lib.hid hx
  have HB9 := Lib.hid hbb
  have hL9 : ((((((((magicP ++ h.store) ++ [E.of (h.k % 256), E.of (h.m % 256)]) ++ le 4 h.blk) ++ le 4 h.size) ++ [E.of (h.idx % 256)]) ++ le 4 h.epoch) ++ le 4 h.count) ++ [E.of (h.key.length % 256)]).length ≤ 100 := by simp only [List.length_append, HS.out, List.length_cons, List.length_nil, le_length]; decide
  clear ho hmv hx hbb hrd hbd hle hon HV HO8 HX8 HB8 hL8 c11
  clear hsz
  go_wp2_with fail
  go_ret
  exact ⟨_, rfl, by have := HO9.out; simpa [fixedP, le_one, List.append_assoc] using this, HX9.out⟩
end Go.Proofs.Ytdoeelfcihdmbaa
