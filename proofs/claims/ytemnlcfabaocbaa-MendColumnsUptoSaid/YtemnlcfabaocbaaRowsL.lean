/-
  Lists of lists of elements: what they read; copies, alike.
-/
import Derived.Test.YtemnlcfabaocbaaApart
namespace Go.Proofs.Ytemnlcfabaocbaa
open Go.RowKit Gf
set_option maxRecDepth 20000
set_option linter.unusedVariables false

/-- A list of lists that read as these. -/
def RdRows (w : World) (A : Option Addr) (rs : List (List E)) : Prop := ∃ V : List Value, V.length = rs.length ∧ Rd w A V ∧ ∀ (i : Nat) (r : List E), rs[i]? = some r → ∃ B c, V[i]? = some (.slice B r.length c) ∧ Rd w B (bs r) ∧ r.length ≤ c ∧ c ≤ maxLen
theorem RdRows.ext {w w' : World} {A : Option Addr} {rs : List (List E)} (h : RdRows w A rs) (hx : Ext w w') : RdRows w' A rs := by
  obtain ⟨V, h1, h2, h3⟩ := h
  exact ⟨V, h1, h2.ext hx, fun i r hi => by obtain ⟨B, c, k1, k2, k3⟩ := h3 i r hi; exact ⟨B, c, k1, k2.ext hx, k3⟩⟩
theorem RdRows.at_ {w : World} {A : Option Addr} {rs : List (List E)} (h : RdRows w A rs) {i : Nat} (hi : i < rs.length) : ∃ ad B c, A = some ad ∧ w.cell? (ad.add i) = some (.slice B rs[i].length c) ∧ Rd w B (bs rs[i]) ∧ rs[i].length ≤ c ∧ c ≤ maxLen := by
  obtain ⟨V, h1, h2, h3⟩ := h
  obtain ⟨B, c, k1, k2, k3⟩ := h3 i rs[i] (List.getElem?_eq_getElem hi)
  obtain ⟨ad, e, hc⟩ := h2.at_ k1
  exact ⟨ad, B, c, e, hc, k2, k3⟩
/-- The very rows, each of the call's own, no two of which share a block, in a list of the call's own. -/
structure OwnList (w : World) (B : Nat) (G cap : Nat) (V : List Value) (rs : List (List E)) : Prop where
  list : Own w B 26 (.slice (some ⟨G, 0, none⟩) V.length cap) V
  len : V.length = rs.length
  rows : ∀ (i : Nat) (v : Value), V[i]? = some v → Own w B 34 v (bs (rs.getD i []))
  far : FarApart V
theorem OwnList.ext {w w' : World} {B G cap : Nat} {V : List Value} {rs : List (List E)} (h : OwnList w B G cap V rs) (hx : Ext w w') : OwnList w' B G cap V rs :=
  ⟨h.list.ext hx, h.len, fun i v hi => (h.rows i v hi).ext hx, h.far⟩
theorem OwnList.mono {w : World} {B B' G cap : Nat} {V : List Value} {rs : List (List E)} (h : OwnList w B G cap V rs) (hB : B' ≤ B) : OwnList w B' G cap V rs :=
  ⟨h.list.mono hB, h.len, fun i v hi => (h.rows i v hi).mono hB, h.far⟩
theorem OwnList.rd {w : World} {B G cap : Nat} {V : List Value} {rs : List (List E)} (h : OwnList w B G cap V rs) : RdRows w (some ⟨G, 0, none⟩) rs := by
  refine ⟨V, h.len, h.list.rd, fun i r hi => ?_⟩
  have hl : i < V.length := by rw [h.len]; exact (List.getElem?_eq_some_iff.1 hi).1
  have hr := h.rows i V[i] (List.getElem?_eq_getElem hl)
  rw [List.getD_eq_getElem?_getD, hi, Option.getD_some] at hr
  obtain ⟨A, c, hv, h1, h2, h3, _⟩ := hr.slice
  rw [bs_length] at hv h2
  exact ⟨A, c, by rw [List.getElem?_eq_getElem hl, hv], h1, h2, h3⟩
set_option maxHeartbeats 1000000 in
theorem alike_n (A C : Option Addr) (N M ca cb : Nat) (rs : List (List E)) (w : World) (hN : rs.length = N) (hM : rs.length = M) (hr : RdRows w A rs) (hs : RdRows w C rs) (hlen : N ≤ 1000000) (hl : ∀ r ∈ rs, r.length ≤ 9000000000000000000) :
    Calls Try.prog 100 #[.slice A N ca, .slice C M cb] w fun e w' => e = .returned (.bool true) ∧ Ext w w' := by
  subst hN
  subst hM
  have HL := Lib.hid hl
  have hmo : Try.prog.follows Departure.mixedOrders = true := by kernel_rfl
  have hwd : Fence.wide.depth = none := rfl
  have hwf : ∀ f, Fence.wide.fn f := fun _ => trivial
  clear hl
  go_enter Try.func100, Try.ntmps100
  go_wp2_with fail
  go_loopw [5] (fun i wr => ∃ k : Nat, k ≤ rs.length ∧ i = .int .i64 k ∧ Ext w wr) (fun i _ => rs.length - (intOf i).toNat)
  case atStart => exact ⟨0, by omega, rfl, Ext.refl _⟩
  case round =>
    obtain ⟨k, hk, rfl, hx⟩ := hrel
    by_cases hlt : k < rs.length
    · obtain ⟨ad, B1, c1, rfl, hc1, hr1, -, -⟩ := (hr.ext hx).at_ hlt
      obtain ⟨bd, B2, c2, rfl, hc2, hr2, -, -⟩ := (hs.ext hx).at_ hlt
      have hlk := HL.out rs[k] (List.getElem_mem hlt)
      have f1 : ∀ u : Beyond wr, u.1.cell? (ad.add k) = some (.slice B1 rs[k].length c1) := fun u => (u.2.cell (p := ad.add k) (World.block_lt_of_cell? _ _ hc1)).trans hc1
      have f2 : ∀ u : Beyond wr, u.1.cell? (bd.add k) = some (.slice B2 rs[k].length c2) := fun u => (u.2.cell (p := bd.add k) (World.block_lt_of_cell? _ _ hc2)).trans hc2
      have HQ := Lib.hid (fun u : Beyond wr => equal_n B1 B2 _ _ rs[k] c1 c2 u.1 rfl rfl (hr1.ext u.2) (hr2.ext u.2) hlk)
      have HR := Lib.hid hr
      have HS := Lib.hid hs
      have HX := Lib.hid hx
      clear hr hs hx hr1 hr2 hc1 hc2
      go_wp2_with fail
      refine region_beyond_plain hmo (by kernel_rfl) (by kernel_rfl) ?_
      repeat (gi_big_quiet_step ((gi_at_call 55; with_reducible exact call_beyond (HQ.out _))))
      refine wpQuietIn_nil ?_
      rintro _ ⟨⟨w2, hx2⟩, rfl⟩
      clear f1 f2
      go_wp2_with fail
      go_roundw
      case rel => exact ⟨k + 1, by omega, by go_num, HX.out.trans hx2⟩
      case measure => simp [intOf]; omega
    · obtain rfl : k = rs.length := by omega
      go_wp2
      go_ret
      exact ⟨rfl, hx⟩
/-- The same lists in memory of their own. -/
theorem own_some {w : World} {B : Nat} {T : TypeId} {v : Value} {xs : List Value} (h : Own w B T v xs) (hx : 0 < xs.length) : ∃ g cap, v = .slice (some ⟨g, 0, none⟩) xs.length cap := by
  obtain ⟨g, cap, hv, _⟩ := h.some_ (fun e => by rw [e] at hx; simp at hx)
  exact ⟨g, cap, hv⟩
/-- Rows so far: of the call's own, each in a block that is newer than those before. -/
structure Copied (w0 w : World) (rs : List (List E)) (k : Nat) (v : Value) : Prop where
  ext : Ext w0 w
  ex : ∃ V : List Value, V.length = k ∧ Own w w0.heap.size 26 v V ∧ (∀ (i : Nat) (u : Value), V[i]? = some u → Own w w0.heap.size 34 u (bs (rs.getD i []))) ∧ FarApart V
theorem FarApart.nil : FarApart [] := fun i j vi vj h => by simp at h
theorem FarApart.snoc {V : List Value} {v : Value} (h : FarApart V) (hn : ∀ (i : Nat) (u : Value), V[i]? = some u → (u.ownBlock = none ∨ u.ownBlock ≠ v.ownBlock) ∧ (v.ownBlock = none ∨ v.ownBlock ≠ u.ownBlock)) : FarApart (V ++ [v]) := by
  intro i j vi vj hi hj hne
  have cs : ∀ (k : Nat) (u : Value), (V ++ [v])[k]? = some u → (k < V.length ∧ V[k]? = some u) ∨ (k = V.length ∧ u = v) := fun k u hk => by
    rcases Nat.lt_trichotomy k V.length with h1 | h1 | h1
    · rw [List.getElem?_append_left h1] at hk; exact .inl ⟨h1, hk⟩
    · subst h1; rw [List.getElem?_append_right (Nat.le_refl _)] at hk; simp at hk; exact .inr ⟨rfl, hk.symm⟩
    · rw [List.getElem?_eq_none (by simp; omega)] at hk; cases hk
  rcases cs i vi hi with ⟨h1, h2⟩ | ⟨h1, rfl⟩ <;> rcases cs j vj hj with ⟨h3, h4⟩ | ⟨h3, rfl⟩
  · exact h i j vi vj h2 h4 hne
  · exact (hn i vi h2).1
  · exact (hn j vj h4).2
  · omega
set_option maxHeartbeats 2000000 in
theorem copies_n (A : Option Addr) (N ca : Nat) (rs : List (List E)) (w : World) (hN : rs.length = N) (hN0 : 0 < N) (hr : RdRows w A rs) (hlen : N ≤ 1000000) (hl : ∀ r ∈ rs, r.length ≤ 140737488355328) :
    Calls Try.prog 99 #[.slice A N ca] w fun e w' => ∃ G cap V, e = .returned (.slice (some ⟨G, 0, none⟩) N cap) ∧ OwnList w' w.heap.size G cap V rs ∧ Ext w w' := by
  subst hN
  have HL := Lib.hid hl
  clear hl
  go_enter Try.func99, Try.ntmps99
  go_wp2_with fail
  go_loopw [3, 4] (fun v i wr => ∃ (k : Nat) (v' : Value), v' = v ∧ k ≤ rs.length ∧ i = .int .i64 k ∧ Copied w wr rs k v') (fun _ i _ => rs.length - (intOf i).toNat)
  case atStart => exact ⟨0, _, rfl, by omega, rfl, Ext.refl _, [], rfl, Own.nil _ _ _, fun i u h => by simp at h, FarApart.nil⟩
  case round =>
    obtain ⟨k, v, rfl, hk, rfl, hC⟩ := hrel
    by_cases hlt : k < rs.length
    · obtain ⟨ad, B1, c1, rfl, hc1, hr1, -, -⟩ := (hr.ext hC.ext).at_ hlt
      have hlk := HL.out rs[k] (List.getElem_mem hlt)
      obtain ⟨V, hVk, hVo, hVr, hVf⟩ := hC.ex
      have hx := hC.ext
      have hle : w.heap.size ≤ wr.heap.size := hx.le
      have h0 : Own (wr.alloc (.cells #[] 34)) wr.heap.size 34 (.slice (some ⟨wr.heap.size, 0, none⟩) 0 0) [] := (Blk.new wr 34 #[]).own (Nat.le_refl _) (Nat.le_refl _) (Nat.zero_le _) rfl
      have hbd1 : (([] : List Value).length + rs[k].length) * 1 ≤ 140737488355328 := by simp; omega
      have f1 : (wr.alloc (.cells #[] 34)).cell? (ad.add k) = some (.slice B1 rs[k].length c1) := by rw [World.cell?_alloc_lt wr _ _ (World.block_lt_of_cell? _ _ hc1)]; exact hc1
      have H1 := Lib.hid hr1
      have HC := Lib.hid (And.intro hVo (And.intro hVr hVf))
      have HX := Lib.hid hx
      have HVK := Lib.hid hVk
      have HR := Lib.hid hr
      clear hr1 hC hVo hVr hVf hx hVk hr
      go_wp2_with (at_builtin; refine wpList_app (wr.alloc (.cells #[] 34)) eltEl rfl _ _ (by rfl) wr.heap.size (.slice (some ⟨wr.heap.size, 0, none⟩) 0 0) [] (by rfl) (by exact h0) B1 rs[k].length c1 (bs rs[k]) (by rfl) (H1.out.alloc _) (bs_length _) (bs_ones _) hbd1 (by simp) ?_)
      intro u w1 ho hmv
      have hx1 : Ext wr w1 := ((Ext.refl wr).alloc _).below.trans (hmv.below (by simp) fun g hg => by simp [Value.ownBlock] at hg; omega)
      obtain ⟨A1, n1, cu, rfl⟩ : ∃ A n c, u = Value.slice A n c := by obtain ⟨A, c, h⟩ := ho.anySlice; exact ⟨_, _, _, h⟩
      have hV1 := HC.out.1.ext hx1
      have hle1 : w.heap.size ≤ w1.heap.size := (HX.out.trans hx1).le
      have hbd2 : (V.length + 1) * 24 ≤ 140737488355328 := by rw [HVK.out]; omega
      clear h0 hbd1 f1 hc1
      go_wp2_with (at_builtin; refine wpList_push2 w1 eltRowEl rfl _ _ (by rfl) w.heap.size v _ (by rfl) (by exact hV1) (.slice A1 n1 cu) w1.heap.size rfl (by rfl) rfl hbd2 hle1 ?_)
      intro v2 w2 k1 k2 k3 k4
      have hx12 : Ext w1 w2 ∨ True := .inr trivial
      have HC2 : Hid (Copied w w2 rs (k + 1) v2) := Lib.hid (by
        have hu1 : Own (w1.alloc (.cells #[.slice A1 n1 cu] 26)) wr.heap.size 34 (.slice A1 n1 cu) (bs rs[k]) := ho.alloc _
        have hV1' := hV1.alloc (.cells #[.slice A1 n1 cu] 26)
        refine ⟨(HX.out.trans hx1).below.trans k3, V ++ [.slice A1 n1 cu], by simp [HVK.out], k1, fun i u hi => ?_, HC.out.2.2.snoc fun i u hi => ?_⟩
        · rcases Nat.lt_trichotomy i V.length with h1 | h1 | h1
          · rw [List.getElem?_append_left h1] at hi
            have := ((HC.out.2.1 i u hi).ext hx1).alloc (.cells #[.slice A1 n1 cu] 26)
            exact this.kept k2.grown (this.types hV1' (by decide))
          · subst h1
            rw [List.getElem?_append_right (Nat.le_refl _)] at hi
            simp at hi
            subst hi
            rw [HVK.out, List.getD_eq_getElem?_getD, List.getElem?_eq_getElem hlt, Option.getD_some]
            exact (hu1.kept k2.grown (hu1.types hV1' (by decide))).mono hle
          · rw [List.getElem?_eq_none (by simp; omega)] at hi; cases hi
        · have hu0 := HC.out.2.1 i u hi
          have hne : ∀ g g', u.ownBlock = some g → (Value.slice A1 n1 cu).ownBlock = some g' → g ≠ g' := fun g g' e e' => by
            have := (hu0.lt g e).2
            have := (ho.lt g' e').1
            omega
          constructor
          · cases e : u.ownBlock with
            | none => exact .inl rfl
            | some g => exact .inr fun e' => hne g g e e'.symm rfl
          · cases e : (Value.slice A1 n1 cu).ownBlock with
            | none => exact .inl rfl
            | some g => exact .inr fun e' => hne g g e'.symm e rfl)
      clear k1 k2 k3 k4 hV1 ho hmv hx1 hle1 hbd2 hle
      go_wp2_with fail
      go_roundw
      case rel => exact ⟨k + 1, v2, rfl, by omega, by go_num, HC2.out⟩
      case measure => simp [intOf]; omega
    · obtain rfl : k = rs.length := by omega
      obtain ⟨V, hVk, hVo, hVr, hVf⟩ := hC.ex
      obtain ⟨G, cap, rfl⟩ := own_some hVo (by omega)
      rw [hVk]
      go_wp2
      go_ret
      exact ⟨G, cap, V, rfl, ⟨hVo, hVk, hVr, hVf⟩, hC.ext⟩
end Go.Proofs.Ytemnlcfabaocbaa
