/-
  Texts of mine, merged: Copy Grown Whole RowsA Xor.
-/
import Derived.Test.YtemnlcfabaocbaaG11
import Derived.Test.YtemnlcfabaocbaaG14
import Derived.Test.YtemnlcfabaocbaaG16
/-
  Layer 5: the walk of the laws' copied; groups of rows that lie between two sizes of the world.
-/
namespace Go.Proofs.Ytemnlcfabaocbaa
open Go.RowKit Gf
set_option maxRecDepth 20000
set_option linter.unusedVariables false

set_option maxHeartbeats 4000000 in
theorem copied_n (A : Option Addr) (N ca : Nat) (rs : List (List E)) (w : World) (hN : rs.length = N) (hr : RdRows w A rs) (hlen : N ≤ 1000000000) (hb : ∀ r ∈ rs, r.length ≤ 1000000000) :
    Calls Try.prog 72 #[.slice A N ca] w fun e w' => ∃ v, e = .returned v ∧ RowsOut w' w.heap.size v rs ∧ Ext w w' := by
  have HN := Lib.hid hN
  have HR := Lib.hid hr
  have HB := Lib.hid hb
  clear hN hr hb
  go_enter Try.func72, Try.ntmps72
  go_wp2_with fail
  go_loopw [3, 4] (fun v i wr => ∃ (q : Nat) (v' : Value) (V : List Value), v' = v ∧ q ≤ N ∧ i = .int .i64 q ∧ Copying w wr rs q v' V) (fun _ i _ => N - (intOf i).toNat)
  case atStart => exact ⟨0, _, [], rfl, by omega, rfl, Ext.refl _, rfl, Own.nil _ _ _, fun i u h => by simp at h, FarApart.nil⟩
  case round =>
    obtain ⟨W, rfl⟩ : ∃ W, W = wr := ⟨_, rfl⟩
    obtain ⟨q, v, V, rfl, hq, rfl, hC⟩ := hrel
    by_cases hlt : q < N
    · have hqr : q < rs.length := by rw [HN.out]; exact hlt
      obtain ⟨ad, B1, c1, hA, hc1, hr1, -, -⟩ := (HR.out.ext hC.ext).at_ hqr
      subst hA
      obtain ⟨L, hL⟩ : ∃ L, L = rs[q].length := ⟨_, rfl⟩
      have hLb : L ≤ 1000000000 := by rw [hL]; exact HB.out _ (List.getElem_mem hqr)
      have hql : rs[q].length = L := hL.symm
      rw [hql] at hc1
      have hgd : rs.getD q [] = rs[q] := by rw [List.getD_eq_getElem?_getD, List.getElem?_eq_getElem hqr]; rfl
      have h0 : Own (W.alloc (.cells #[] 5)) W.heap.size 5 (.slice (some ⟨W.heap.size, 0, none⟩) 0 0) [] := (Blk.new W 5 #[]).own (Nat.le_refl _) (Nat.le_refl _) (Nat.zero_le _) rfl
      have hbd1 : (([] : List Value).length + L) * 1 ≤ 140737488355328 := by simp; omega
      have f1 : (W.alloc (.cells #[] 5)).cell? (ad.add q) = some (.slice B1 L c1) := by rw [World.cell?_alloc_lt W _ _ (World.block_lt_of_cell? _ _ hc1)]; exact hc1
      have H1 := Lib.hid hr1
      have HC := Lib.hid hC
      have HQL := Lib.hid hql
      have HGD := Lib.hid hgd
      have hqN : (q : Int) < (N : Int) := by omega
      clear hr1 hC hql hgd hL
      go_wp2_with (at_builtin; refine wpList_app (W.alloc (.cells #[] 5)) eltU8 rfl _ _ (by rfl) W.heap.size (.slice (some ⟨W.heap.size, 0, none⟩) 0 0) [] (by rfl) (by exact h0) B1 L c1 (bs rs[q]) (by rfl) (H1.out.alloc _) (by rw [bs_length, HQL.out]) (bs_ones _) hbd1 (by simp) ?_)
      intro u w1 ho hmv
      have hx1 : Ext W w1 := ((Ext.refl W).alloc _).below.trans (hmv.below (by simp) fun g hg => by simp [Value.ownBlock] at hg; omega)
      obtain ⟨A1, n1, cu, rfl⟩ : ∃ A n c, u = Value.slice A n c := by obtain ⟨A, c, h⟩ := ho.anySlice; exact ⟨_, _, _, h⟩
      have ho' : Own w1 W.heap.size 5 (.slice A1 n1 cu) (bs (rs.getD q [])) := by rw [HGD.out]; exact ho
      have hV1 := HC.out.list.ext hx1
      have hle1 : w.heap.size ≤ w1.heap.size := (HC.out.ext.trans hx1).le
      have hbd2 : (V.length + 1) * 24 ≤ 140737488355328 := by rw [HC.out.len]; omega
      have HO := Lib.hid ho'
      have HX1 := Lib.hid hx1
      clear h0 hbd1 f1 hc1 ho ho' hmv hx1
      go_wp2_with (at_builtin; refine wpList_push2 w1 eltRowU8 rfl _ _ (by rfl) w.heap.size v _ (by rfl) (by exact hV1) (.slice A1 n1 cu) w1.heap.size rfl (by rfl) rfl hbd2 hle1 ?_)
      intro v2 w2 k1 k2 k3 k4
      have HP := Lib.hid (HC.out.hang HX1.out HO.out k1 k2 k3)
      clear k1 k2 k3 k4 hV1 hle1 hbd2
      go_wp2_with fail
      go_roundw
      case rel => exact ⟨q + 1, v2, _, rfl, by omega, by go_num, HP.out⟩
      case measure => simp [intOf]; omega
    · obtain rfl : N = q := by omega
      have HO : Hid (RowsOut W w.heap.size v rs ∧ Ext w W) := Lib.hid ⟨⟨V, hC.list, by rw [hC.len, HN.out], hC.rows, hC.far⟩, hC.ext⟩
      clear hC
      go_wp2_with fail
      go_ret
      exact ⟨v, rfl, HO.out.1, HO.out.2⟩

/-- Rows that were answered: all lie in new memory between two sizes of the world. -/
structure Grp (w : World) (lo hi : Nat) (v : Value) (V : List Value) (rs : List (List E)) : Prop where
  list : Span w lo hi 24 v V
  rows : PileV w lo hi 5 V (rs.map bs)
section
variable {w w' : World} {lo hi : Nat} {v : Value} {V : List Value} {rs : List (List E)}
theorem getD_bs (rs : List (List E)) (i : Nat) : (rs.map bs).getD i [] = bs (rs.getD i []) := by
  rw [List.getD_eq_getElem?_getD, List.getElem?_map, List.getD_eq_getElem?_getD]
  cases rs[i]? <;> rfl
theorem Grp.of {B : Nat} (h : RowsOut w B v rs) : ∃ V, Grp w B w.heap.size v V rs := by
  obtain ⟨V, h1, h2, h3, h4⟩ := h
  refine ⟨V, Span.of h1, by rw [List.length_map, h2], fun i u hi => ?_, fun i u g hi hg => ((h3 i u hi).lt g hg).2, h4⟩
  rw [getD_bs]; exact h3 i u hi
theorem Grp.ext (h : Grp w lo hi v V rs) (hx : Ext w w') : Grp w' lo hi v V rs := ⟨h.list.ext hx, h.rows.ext hx⟩
theorem Grp.touch {S : Nat → Prop} (h : Grp w lo hi v V rs) (ht : Touch S w w') (hS : ∀ k, lo ≤ k → k < hi → ¬ S k) : Grp w' lo hi v V rs := ⟨h.list.touch ht hS, h.rows.touch ht hS⟩
theorem Grp.len (h : Grp w lo hi v V rs) : V.length = rs.length := by rw [h.rows.len, List.length_map]
theorem Grp.rd {A : Option Addr} {n c : Nat} (h : Grp w lo hi (.slice A n c) V rs) : RdRows w A rs := by
  refine ⟨V, h.len, h.list.rd, fun i r hi => ?_⟩
  have hlt : i < V.length := by rw [h.len]; exact (List.getElem?_eq_some_iff.1 hi).1
  have h4 := h.rows.rows i V[i] (List.getElem?_eq_getElem hlt)
  have hr : rs.getD i [] = r := by rw [List.getD_eq_getElem?_getD, hi]; rfl
  rw [getD_bs, hr] at h4
  obtain ⟨A', c', hv, k1, k2, k3, -⟩ := h4.slice
  rw [bs_length] at hv k2
  exact ⟨A', c', by rw [List.getElem?_eq_getElem hlt, hv], k1, k2, k3⟩
theorem Grp.open_ (h : Grp w lo hi v V rs) : ∃ A c, v = .slice A rs.length c ∧ rs.length ≤ c ∧ c ≤ maxLen ∧ (0 < rs.length → ∃ g, A = some ⟨g, 0, none⟩) := by
  obtain ⟨A, c, h1, -, h3, h4, h5⟩ := h.list.own.opened
  rw [h.len] at h1 h3 h5
  exact ⟨A, c, h1, h3, h4, h5⟩
end
end Go.Proofs.Ytemnlcfabaocbaa
/-
  Layer 5: the walks of the laws' grown and whole: lists of rows grown by marks that are rows themselves.
-/
namespace Go.Proofs.Ytemnlcfabaocbaa
open Go.RowKit Gf
set_option maxRecDepth 20000
set_option linter.unusedVariables false

theorem infoLstU8 : (Try.prog.info? 77).map (fun i => (i.zero, i.size, i.bytes)) = some (some (.slice none 0 0), 1, 24) := by kernel_rfl
theorem eltLstU8 : Elt Try.prog 88 77 (.slice none 0 0) 24 := ⟨by kernel_rfl, info_parts infoLstU8, rfl, by decide⟩
section
variable {w0 w w1 : World} {B BG : Nat} {T TR : TypeId} {G N cap : Nat} {V : List Value} {R : Nat → List Value} {cur : Kin} {vl : Value} {L : List Kin}
theorem GrowV.ext (h : GrowV w0 w B BG T TR G N cap V R cur vl L) (hx : Ext w w1) : GrowV w0 w1 B BG T TR G N cap V R cur vl L :=
  ⟨h.touch.trans hx.touch, h.own.ext hx, h.fam.ext hx, h.vl.ext hx, h.curB, h.lt⟩
end
/-- A list grown by marks: each mark is a row of its own. -/
structure GoodM (w : World) (B : Nat) (R : Nat → List Value) (N M i k : Nat) (s : Kin) : Prop where
  lt : s.lab < N
  le : s.lab ≤ i
  xs : ∃ news : List Value, s.xs = R s.lab ++ news ∧ news.length ≤ M ∧ (s.lab = i → news.length ≤ k) ∧ ∀ u ∈ news, Own w B 5 u (bs [E.of s.lab, E.of 99])
section
variable {w w' : World} {B : Nat} {R : Nat → List Value} {N M i k : Nat} {s : Kin}
theorem GoodM.keep (h : GoodM w B R N M i k s) (hk : ∀ (u : Value) (xs : List Value), Own w B 5 u xs → Own w' B 5 u xs) : GoodM w' B R N M i k s := by
  obtain ⟨news, h1, h2, h3, h4⟩ := h.xs
  exact ⟨h.lt, h.le, news, h1, h2, h3, fun u hu => hk _ _ (h4 u hu)⟩
theorem GoodM.more (h : GoodM w B R N M i k s) : GoodM w B R N M i (k + 1) s := by
  obtain ⟨news, h1, h2, h3, h4⟩ := h.xs
  exact ⟨h.lt, h.le, news, h1, h2, fun e => Nat.le_succ_of_le (h3 e), h4⟩
theorem GoodM.next (h : GoodM w B R N M i k s) : GoodM w B R N M (i + 1) 0 s := by
  obtain ⟨news, h1, h2, h3, h4⟩ := h.xs
  exact ⟨h.lt, Nat.le_succ_of_le h.le, news, h1, h2, fun e => by have := h.le; omega, h4⟩
theorem GoodM.len (h : GoodM w B R N M i k s) (hl : s.lab = i) : s.xs.length ≤ (R i).length + k := by
  obtain ⟨news, h1, h2, h3, h4⟩ := h.xs
  have := h3 hl
  rw [h1, List.length_append, hl]
  omega
end
/-- What grown answers. -/
structure GrownOut (w w' : World) (B : Nat) (V : List Value) (R : Nat → List Value) (N : Nat) (gl cl : Nat) (L : List Kin) : Prop where
  len : L.length = 66 * N
  list : Own w' w.heap.size 77 (.slice (some ⟨gl, 0, none⟩) (66 * N) cl) (L.map Kin.val)
  own : ∀ s, s ∈ L → Own w' B 24 s.val s.xs
  marks : ∀ s, s ∈ L → GoodM w' w.heap.size R N 66 N 0 s
  labs : Labs 66 L
  old : OwnVs w' B 24 V R
  touch : Touch (InRows V) w w'
set_option maxHeartbeats 4000000 in
theorem grown_n (G cap N : Nat) (V : List Value) (R : Nat → List Value) (B BG : Nat) (w : World) (hVN : V.length = N) (hown : Own w BG 77 (.slice (some ⟨G, 0, none⟩) N cap) V)
    (hrows : OwnVs w B 24 V R) (hfar : FarApart V) (hN : N ≤ 6) (hlen : ∀ i, (R i).length ≤ 1000000) (hB : B ≤ w.heap.size) (hN0 : 0 < N) :
    Calls Try.prog 110 #[.slice (some ⟨G, 0, none⟩) N cap] w fun e w' => ∃ gl cl L, e = .returned (.slice (some ⟨gl, 0, none⟩) (66 * N) cl) ∧ GrownOut w w' B V R N gl cl L := by
  have HVN := Lib.hid hVN
  have HLEN := Lib.hid hlen
  have hGlt : G < w.heap.size := by obtain ⟨_, cs, hb, _⟩ := hown.blk; exact hb.lt
  have hT : 24 ≠ 77 := by decide
  have HG0 : Hid (∃ cur : Kin, GrowV w w B BG 24 77 G N cap V R cur (.slice none 0 0) []) := by
    obtain ⟨v, hv⟩ : ∃ v, V[0]? = some v := ⟨_, List.getElem?_eq_getElem (by rw [hVN]; exact hN0)⟩
    exact Lib.hid ⟨⟨0, v, R 0⟩, GrowV.start (Touch.refl _) hown hrows hfar hGlt _ ⟨hv, rfl⟩⟩
  clear hVN hfar hlen hGlt hown hrows
  go_enter Try.func110, Try.ntmps110
  go_wp2_with fail
  go_loopw [3, 4] (fun vl i wr => ∃ (k : Nat) (cur : Kin) (VL : Value) (L : List Kin), VL = vl ∧ k ≤ N ∧ i = .int .i64 k ∧ GrowV w wr B BG 24 77 G N cap V R cur VL L ∧ L.length = 66 * k ∧ (∀ s, s ∈ L → GoodM wr w.heap.size R N 66 k 0 s) ∧ Labs 66 L) (fun _ i _ => N - (intOf i).toNat)
  case atStart => obtain ⟨cur, h⟩ := HG0.out; exact ⟨0, cur, _, [], rfl, by omega, rfl, h, rfl, (fun s hs => by cases hs), (fun k s hk => by simp at hk)⟩
  case round =>
    obtain ⟨i, cur, VL, L, rfl, hi, rfl, hG, hLl, hH, hLb⟩ := hrel
    clear HG0
    by_cases hlt : i < N
    · obtain ⟨v, hv⟩ : ∃ v, V[i]? = some v := ⟨_, List.getElem?_eq_getElem (by rw [HVN.out]; exact hlt)⟩
      have hc := hG.own.cell hv
      have HST : Hid (GrowV w wr B BG 24 77 G N cap V R ⟨i, v, R i ++ []⟩ VL L) := Lib.hid (hG.next ⟨i, v, _⟩ ⟨hv, by simp⟩)
      have HH : Hid ((∀ s, s ∈ L → GoodM wr w.heap.size R N 66 i 0 s) ∧ Labs 66 L) := Lib.hid ⟨hH, hLb⟩
      have HLL := Lib.hid hLl
      have hiN := hlt
      clear hG hv hH hLl hLb
      go_wp2_with fail
      clear hc
      go_loopw [3, 5, 6] (fun vl g k wr => ∃ (j : Nat) (v VL : Value) (L : List Kin) (news : List Value), v = g ∧ VL = vl ∧ j ≤ 66 ∧ k = .int .i64 j ∧ GrowV w wr B BG 24 77 G N cap V R ⟨i, v, R i ++ news⟩ VL L ∧ news.length = j ∧ (∀ u ∈ news, Own wr w.heap.size 5 u (bs [E.of i, E.of 99])) ∧ L.length = 66 * i + j ∧ (∀ s, s ∈ L → GoodM wr w.heap.size R N 66 i j s) ∧ Labs 66 L) (fun _ _ k _ => 66 - (intOf k).toNat)
      case atStart => exact ⟨0, v, VL, L, [], rfl, rfl, by omega, rfl, HST.out, rfl, (fun u hu => by cases hu), HLL.out, HH.out.1, HH.out.2⟩
      case round =>
        obtain ⟨W, rfl⟩ : ∃ W, W = wr := ⟨_, rfl⟩
        obtain ⟨j, v, VL, L, news, rfl, rfl, hj, rfl, hG, hnl, hnw, hLl, hH, hLb⟩ := hrel
        clear HST HH HLL
        by_cases hlt2 : j < 66
        · obtain ⟨Wa, hWa⟩ : ∃ x, x = W.alloc (.cells #[.int .u8 (i : Int), .int .u8 99] 5) := ⟨_, rfl⟩
          have hxa : Ext W Wa := by rw [hWa]; exact (Ext.refl W).alloc _
          have hsz : Wa.heap.size = W.heap.size + 1 := by rw [hWa]; simp
          have hnew : Own Wa w.heap.size 5 (.slice (some ⟨W.heap.size, 0, none⟩) 2 2) (bs [E.of i, E.of 99]) := by
            have h1 := (Blk.new W 5 #[.int .u8 (i : Int), .int .u8 99]).own (B := w.heap.size) (n := 2) (cap := 2) (hG.touch.size) (Nat.le_refl _) (by decide) rfl
            have e1 : bs [E.of i, E.of 99] = [.int .u8 (i : Int), .int .u8 99] := by
              show [bv (E.of i), bv (E.of 99)] = _
              rw [← ofVal i (by omega), ← ofVal 99 (by omega)]; rfl
            rw [e1, hWa]
            exact h1
          have HG := Lib.hid (hG.ext hxa)
          have HNW : Hid (∀ u ∈ news, Own Wa w.heap.size 5 u (bs [E.of i, E.of 99])) := Lib.hid (fun u hu => (hnw u hu).ext hxa)
          have HNEW := Lib.hid hnew
          have HH : Hid ((∀ s, s ∈ L → GoodM Wa w.heap.size R N 66 i j s) ∧ Labs 66 L) := Lib.hid ⟨fun s hs => (hH s hs).keep fun u xs h => h.ext hxa, hLb⟩
          have HLL := Lib.hid hLl
          have HNL := Lib.hid hnl
          have hrl := HLEN.out i
          have hcur : Own Wa B 24 v (R i ++ news) := HG.out.fam.own _ (.inr (.inr rfl))
          have hle : B ≤ Wa.heap.size := Nat.le_trans hB HG.out.touch.size
          have hbd : ((R i ++ news).length + 1) * 24 ≤ 140737488355328 := by rw [List.length_append, hnl]; omega
          have HCUR := Lib.hid hcur
          have HWA := Lib.hid hWa
          have hsz2 : (W.alloc (.cells #[.int .u8 (i : Int), .int .u8 99] 5)).heap.size = W.heap.size + 1 := by simp
          clear hG hH hLl hcur hLb hnl hnw hnew hxa hWa
          have hcur2 : Own (W.alloc (.cells #[.int .u8 (i : Int), .int .u8 99] 5)) B 24 v (R i ++ news) := by rw [← HWA.out]; exact HCUR.out
          have hle2 : B ≤ (W.alloc (.cells #[.int .u8 (i : Int), .int .u8 99] 5)).heap.size := by rw [← HWA.out]; exact hle
          have HCUR2 := Lib.hid hcur2
          clear hcur2 hle
          go_wp2_with (at_builtin; refine wpList_push2 (W.alloc (.cells #[.int .u8 (i : Int), .int .u8 99] 5)) eltRowU8 rfl _ _ (by rfl) B v _ (by rfl) (by exact HCUR2.out) (.slice (some ⟨W.heap.size, 0, none⟩) 2 2) (W.heap.size + 1) hsz2 (by rfl) rfl hbd hle2 ?_)
          intro v1 w1 h1 h2 h3 h4
          rw [← HWA.out] at h2
          obtain ⟨A1, n1, c1, rfl⟩ : ∃ A n c, v1 = Value.slice A n c := by obtain ⟨A, c, h⟩ := h1.anySlice; exact ⟨_, _, _, h⟩
          have h1' : Own w1 B 24 (.slice A1 n1 c1) (R i ++ (news ++ [.slice (some ⟨W.heap.size, 0, none⟩) 2 2])) := by simpa using h1
          have hkeep : ∀ (u : Value) (xs : List Value), Own Wa w.heap.size 5 u xs → Own w1 w.heap.size 5 u xs := fun u xs h => by
            have h5 := h.alloc (.cells #[.slice (some ⟨W.heap.size, 0, none⟩) 2 2] 24)
            have h6 := HCUR.out.alloc (.cells #[.slice (some ⟨W.heap.size, 0, none⟩) 2 2] 24)
            exact h5.kept h2.grown (h5.types h6 (by decide))
          have HG1 := Lib.hid (HG.out.cur_ hT (fun s hs hl => by show s.xs.length ≤ (R i ++ news).length; rw [List.length_append, HNL.out]; exact (HH.out.1 s hs).len hl) (by show (R i).length ≤ (R i ++ news).length; rw [List.length_append]; exact Nat.le_add_right _ _) h1' h2 h4)
          have HNW1 : Hid (∀ u ∈ news ++ [.slice (some ⟨W.heap.size, 0, none⟩) 2 2], Own w1 w.heap.size 5 u (bs [E.of i, E.of 99])) := Lib.hid (fun u hu => by
            rcases List.mem_append.1 hu with h | h
            · exact hkeep _ _ (HNW.out u h)
            · obtain rfl := List.mem_singleton.1 h
              exact hkeep _ _ HNEW.out)
          have HH1 : Hid ((∀ s, s ∈ L → GoodM w1 w.heap.size R N 66 i j s) ∧ Labs 66 L) := Lib.hid ⟨fun s hs => (HH.out.1 s hs).keep hkeep, HH.out.2⟩
          have hle1 : w.heap.size ≤ w1.heap.size := HG1.out.touch.size
          have hbd1 : ((L.map Kin.val).length + 1) * 24 ≤ 140737488355328 := by rw [List.length_map]; have := HLL.out; omega
          clear h1 h1' h2 h3 h4 hle2 hbd hkeep HNW HNEW HH HCUR HCUR2 HG
          go_wp2_with (at_builtin; refine wpList_push2 w1 eltLstU8 rfl _ _ (by rfl) w.heap.size VL _ (by rfl) (by exact HG1.out.vl) (.slice A1 n1 c1) w1.heap.size rfl (by rfl) rfl hbd1 hle1 ?_)
          intro vl2 w2 h1 h2 h3 h4
          have hkeep : ∀ (u : Value) (xs : List Value), Own w1 w.heap.size 5 u xs → Own w2 w.heap.size 5 u xs := fun u xs h => by
            have h5 := h.alloc (.cells #[.slice A1 n1 c1] 77)
            have h6 := HG1.out.vl.alloc (.cells #[.slice A1 n1 c1] 77)
            exact h5.kept h2.grown (h5.types h6 (by decide))
          have HG2 := Lib.hid (HG1.out.long_ hT h1 h2)
          have HN2 : Hid (∀ u ∈ news ++ [.slice (some ⟨W.heap.size, 0, none⟩) 2 2], Own w2 w.heap.size 5 u (bs [E.of i, E.of 99])) := Lib.hid (fun u hu => hkeep _ _ (HNW1.out u hu))
          have HH3 : Hid ((∀ s, s ∈ L ++ [⟨i, .slice A1 n1 c1, R i ++ (news ++ [.slice (some ⟨W.heap.size, 0, none⟩) 2 2])⟩] → GoodM w2 w.heap.size R N 66 i (j + 1) s) ∧ Labs 66 (L ++ [⟨i, .slice A1 n1 c1, R i ++ (news ++ [.slice (some ⟨W.heap.size, 0, none⟩) 2 2])⟩])) := Lib.hid ⟨fun s hs => by
            rcases List.mem_append.1 hs with hs | hs
            · exact ((HH1.out.1 s hs).keep hkeep).more
            · obtain rfl := List.mem_singleton.1 hs
              exact ⟨hiN, Nat.le_refl _, _, rfl, by rw [List.length_append, HNL.out]; show j + 1 ≤ 66; omega, fun _ => by rw [List.length_append, HNL.out]; exact Nat.le_refl _, HN2.out⟩, HH1.out.2.snoc (by rw [HLL.out]; show i = _; omega)⟩
          clear h1 h2 h3 h4 hle1 hbd1 hkeep
          go_wp2_with fail
          go_roundw
          case rel => exact ⟨j + 1, .slice A1 n1 c1, vl2, _, _, rfl, rfl, by omega, by go_num, HG2.out, by rw [List.length_append, HNL.out]; rfl, HN2.out, by rw [List.length_append, HLL.out]; simp; omega, HH3.out.1, HH3.out.2⟩
          case measure => simp [intOf]; omega
        · obtain rfl : j = 66 := by omega
          have HG := Lib.hid hG
          have HH : Hid ((∀ s, s ∈ L → GoodM W w.heap.size R N 66 (i + 1) 0 s) ∧ Labs 66 L) := Lib.hid ⟨fun s hs => (hH s hs).next, hLb⟩
          have HLL := Lib.hid hLl
          clear hG hH hLl hLb hnl hnw
          go_wp2_with fail
          go_roundw
          case rel => exact ⟨i + 1, _, VL, L, rfl, by omega, by go_num, HG.out, by rw [HLL.out]; omega, HH.out.1, HH.out.2⟩
          case measure => simp [intOf]; omega
    · obtain rfl : N = i := by omega
      have hne : L.map Kin.val ≠ [] := fun e => by have := congrArg List.length e; rw [List.length_map, hLl, List.length_nil] at this; omega
      obtain ⟨gl, cl, rfl, -, -, -, -⟩ := hG.vl.some_ hne
      rw [List.length_map, hLl] at hG ⊢
      have HO : Hid (GrownOut w wr B V R N gl cl L) := Lib.hid ⟨hLl, hG.vl, fun s hs => hG.fam.own s (.inr (.inl hs)), hH, hLb, ⟨fun i v h => hG.fam.own ⟨i, v, _⟩ (.inl ⟨h, rfl⟩)⟩, hG.fin⟩
      clear hG hLl hne hH hLb
      go_wp2_with fail
      go_ret
      exact ⟨gl, cl, L, rfl, HO.out⟩
end Go.Proofs.Ytemnlcfabaocbaa
/-
  Layer 5: the walk of the laws' whole.
-/
namespace Go.Proofs.Ytemnlcfabaocbaa
open Go.RowKit Gf
set_option maxRecDepth 20000
set_option linter.unusedVariables false

set_option maxHeartbeats 4000000 in
theorem whole_n (G cap N gl cl B BG BL BM : Nat) (V : List Value) (R : Nat → List Value) (L : List Kin) (w : World) (hVN : V.length = N) (hown : Own w BG 77 (.slice (some ⟨G, 0, none⟩) N cap) V)
    (hrows : OwnVs w B 24 V R) (hLl : L.length = 66 * N) (hl : Own w BL 77 (.slice (some ⟨gl, 0, none⟩) (66 * N) cl) (L.map Kin.val)) (hs : ∀ s, s ∈ L → Own w B 24 s.val s.xs)
    (hm : ∀ s, s ∈ L → GoodM w BM R N 66 N 0 s) (hb : Labs 66 L) (hN : N ≤ 6) (hlen : ∀ i, (R i).length ≤ 1000000) :
    Calls Try.prog 111 #[.slice (some ⟨gl, 0, none⟩) (66 * N) cl, .slice (some ⟨G, 0, none⟩) N cap] w fun e w' => e = .returned (.bool true) ∧ Ext w w' := by
  obtain ⟨M, hM⟩ : ∃ M, 66 * N = M := ⟨_, rfl⟩
  have hMN : M ≤ 396 := by omega
  rw [hM] at hl hLl ⊢
  have HVN := Lib.hid hVN
  have HLEN := Lib.hid hlen
  have HOWN := Lib.hid hown
  have HROWS := Lib.hid hrows
  have HLL := Lib.hid hLl
  have HL := Lib.hid hl
  have HS := Lib.hid hs
  have HM := Lib.hid hm
  have HLB := Lib.hid hb
  clear hVN hlen hown hrows hLl hl hs hm hb hM
  go_enter Try.func111, Try.ntmps111
  go_wp2_with fail
  go_loop [5] (fun i => ∃ k : Nat, k ≤ M ∧ i = .int .i64 k) (fun i => M - (intOf i).toNat)
  case atStart => exact ⟨0, by omega, rfl⟩
  case round =>
    obtain ⟨k, hk, rfl⟩ := hrel
    by_cases hlt : k < M
    · have hkL : k < L.length := by rw [HLL.out]; exact hlt
      obtain ⟨s, hs⟩ : ∃ s, L[k]? = some s := ⟨_, List.getElem?_eq_getElem hkL⟩
      have hsm : s ∈ L := List.mem_of_getElem? hs
      obtain ⟨news, hxs, hnl, -, hnw⟩ := (HM.out s hsm).xs
      have hlab := (HM.out s hsm).lt
      have hlb2 := HLB.out k s hs
      have hcl : w.cell? ⟨gl, k, none⟩ = some s.val := HL.out.cell (by rw [List.getElem?_map, hs]; rfl)
      obtain ⟨A, c, hsv, hrd, hlc, hcm, -⟩ := (HS.out s hsm).slice
      rw [hsv] at hcl
      rw [hxs] at hcl hrd
      obtain ⟨i, hi⟩ : ∃ i, s.lab = i := ⟨_, rfl⟩
      rw [hi] at hcl hrd hlab hlb2 hnw
      have hdv : Int.tdiv (k : Int) 66 = (i : Int) := by rw [Int.tdiv_eq_ediv_of_nonneg (by omega)]; omega
      have hdv2 : (k : Int) / 66 = (i : Int) := by omega
      obtain ⟨v0, hv0⟩ : ∃ v, V[i]? = some v := ⟨_, List.getElem?_eq_getElem (by rw [HVN.out]; exact hlab)⟩
      obtain ⟨A0, c0, rfl, -, -, -, -⟩ := HROWS.out.at_ hv0
      have hc0 := HOWN.out.cell hv0
      obtain ⟨n, hn⟩ : ∃ n, (R i).length = n := ⟨_, rfl⟩
      have hnb : n ≤ 1000000 := by rw [← hn]; exact HLEN.out i
      obtain ⟨m, hm⟩ : ∃ m, news.length = m := ⟨_, rfl⟩
      rw [List.length_append, hn, hm] at hcl
      rw [hn] at hc0
      rw [hm] at hnl
      have HRD := Lib.hid hrd
      have HN := Lib.hid hn
      have HM1 := Lib.hid hm
      have HNW := Lib.hid hnw
      have hib : i < 6 := by omega
      clear hs hsm hxs hsv hrd hlc hcm hi hv0 hn hm hnw hlb2
      go_wp2_with fail
      go_loop [7] (fun jj => ∃ j : Nat, n ≤ j ∧ j ≤ n + m ∧ jj = .int .i64 j) (fun jj => n + m - (intOf jj).toNat)
      case atStart => exact ⟨n, by omega, by omega, rfl⟩
      case round =>
        obtain ⟨j, hj1, hj, rfl⟩ := hrel
        by_cases hlt4 : j < n + m
        · have hjm : j - n < news.length := by rw [HM1.out]; omega
          obtain ⟨ad, rfl, hb⟩ := HRD.out.at_ (k := j) (u := news[j - n]) (by rw [List.getElem?_append_right (by rw [HN.out]; exact hj1), HN.out]; exact List.getElem?_eq_getElem hjm)
          have ho := HNW.out _ (List.getElem_mem hjm)
          obtain ⟨g, cg, e, -, -, -, -⟩ := ho.some_ (by simp [bs])
          rw [e] at ho hb
          have h0 : w.cell? ⟨g, 0, none⟩ = some (.int .u8 (i : Int)) := by
            rw [ofVal i (by omega)]; exact ho.cell (j := 0) rfl
          have h1 : w.cell? ⟨g, 1, none⟩ = some (.int .u8 99) := by
            have := ofVal 99 (by omega)
            rw [show ((99 : Nat) : Int) = 99 from rfl] at this
            rw [this]; exact ho.cell (j := 1) rfl
          rw [bs_length] at hb
          have h2 : [E.of i, E.of 99].length = 2 := rfl
          rw [h2] at hb
          have hjn : (j : Int) < (n : Int) + (m : Int) := by omega
          clear ho e h2
          go_wp2_with fail
          go_round
          case rel => exact ⟨j + 1, by omega, by omega, by go_num⟩
          case measure => simp [intOf]; omega
        · obtain rfl : j = n + m := by omega
          go_wp2_with fail
          go_round
          case rel => exact ⟨k + 1, by omega, by go_num⟩
          case measure => simp [intOf]; omega
    · obtain rfl : k = M := by omega
      go_wp2_with fail
      go_ret
      exact ⟨rfl, Ext.refl _⟩
end Go.Proofs.Ytemnlcfabaocbaa
/-
  Layer 5: the walk of the laws' apartRows: rows of the call's own, and the lists of them, no two of which share a block, are found apart.
-/
namespace Go.Proofs.Ytemnlcfabaocbaa
open Go.RowKit Gf
set_option maxRecDepth 20000
set_option linter.unusedVariables false

/-- The mark that a row is written full with, and the mark that it is grown by. -/
def mkA (i : Nat) : E := E.of (i % 125)
def mkB (i : Nat) : E := E.of (128 + i % 125)
theorem mkA_val (i : Nat) : bv (mkA i) = .int .u8 ((i % 125 : Nat) : Int) := by rw [bv, mkA, E.val_of (by omega)]
theorem mkB_val (i : Nat) : bv (mkB i) = .int .u8 (128 + ((i % 125 : Nat) : Int)) := by rw [bv, mkB, E.val_of (by omega)]; norm_cast
theorem tmod125 (i : Nat) : Int.tmod (i : Int) 125 = ((i % 125 : Nat) : Int) := by rw [Int.tmod_eq_emod_of_nonneg (by omega)]; norm_cast
theorem flatten_le {α : Type} (c : Nat) : ∀ (l : List (List α)), (∀ x ∈ l, x.length ≤ c) → l.flatten.length ≤ l.length * c
  | [], _ => by simp
  | x :: l, h => by
    have := flatten_le c l fun y hy => h y (List.mem_cons_of_mem _ hy)
    have h1 := h x List.mem_cons_self
    rw [List.flatten_cons, List.length_append, List.length_cons, Nat.add_mul]
    omega
theorem flatten_step {α : Type} (l : List (List α)) (q : Nat) : (l.take (q + 1)).flatten = (l.take q).flatten ++ l.getD q [] := by
  rw [List.take_add_one, List.flatten_append, List.getD_eq_getElem?_getD]
  cases l[q]? <;> simp
theorem flatten_at {α : Type} (l : List (List α)) (q p : Nat) (hp : p < (l.getD q []).length) : l.flatten[(l.take q).flatten.length + p]? = (l.getD q [])[p]? := by
  have h1 : l.flatten = (l.take q).flatten ++ (l.getD q [] ++ (l.drop (q + 1)).flatten) := by
    rw [← List.append_assoc, ← flatten_step, ← List.flatten_append, List.take_append_drop]
  rw [h1, List.getElem?_append_right (by omega), Nat.add_sub_cancel_left, List.getElem?_append_left hp]
theorem flatten_lt {α : Type} (l : List (List α)) (q p : Nat) (hp : p < (l.getD q []).length) : (l.take q).flatten.length + p < l.flatten.length := by
  have h1 : l.flatten = (l.take q).flatten ++ (l.getD q [] ++ (l.drop (q + 1)).flatten) := by
    rw [← List.append_assoc, ← flatten_step, ← List.flatten_append, List.take_append_drop]
  rw [h1, List.length_append, List.length_append]; omega
section
variable {w w' : World} {B B' : Nat} {T T' : TypeId} {v : Value} {xs : List Value} {V : List Value}
theorem Own.notRows {R : Nat → List E} (h : Own w B T v xs) (hv : OwnRows w B' T' V R) (hne : T ≠ T') (ht : Touch (InRows V) w w') : Own w' B T v xs :=
  h.touch ht fun g hg ⟨i, u, hi, hu⟩ => by
    rcases h.types (hv.own i u hi) hne with e | e
    · rw [e] at hg; cases hg
    · exact e (hg.trans hu.symm)
theorem Own.notVs {R : Nat → List Value} (h : Own w B T v xs) (hv : OwnVs w B' T' V R) (hne : T ≠ T') (ht : Touch (InRows V) w w') : Own w' B T v xs :=
  h.touch ht fun g hg ⟨i, u, hi, hu⟩ => by
    rcases h.types (hv.own i u hi) hne with e | e
    · rw [e] at hg; cases hg
    · exact e (hg.trans hu.symm)
end
set_option maxHeartbeats 8000000 in
theorem apartRows_n (G cap N : Nat) (vs : List Value) (Vs : List (List Value)) (R : Nat → List E) (B BG : Nat) (w : World) (hvN : vs.length = N) (hown : Own w BG 77 (.slice (some ⟨G, 0, none⟩) N cap) vs)
    (hls : OwnVs w B 24 vs (fun i => Vs.getD i [])) (hVsN : Vs.length = N) (hlfar : FarApart vs) (hrows : OwnRows w B 5 Vs.flatten R) (hfar : FarApart Vs.flatten)
    (hN : N ≤ 6) (hN0 : 0 < N) (hVlen : ∀ x ∈ Vs, x.length ≤ 255) (hRlen : ∀ i, (R i).length ≤ 1048576) (hB : B ≤ w.heap.size) :
    Calls Try.prog 73 #[.slice (some ⟨G, 0, none⟩) N cap] w fun e w' => e = .returned (.bool true) ∧ Touch (fun k => InRows vs k ∨ InRows Vs.flatten k) w w' := by
  have hmo : Try.prog.follows Departure.mixedOrders = true := by kernel_rfl
  have hwd : Fence.wide.depth = none := rfl
  have hwf : ∀ f, Fence.wide.fn f := fun _ => trivial
  have hq := fun (w : World) (a : Option Addr) (l c : Nat) => Lib.run_eql_slice_nil (P := Try.prog) w 88 77 a l c 0 0 Try.underlying88
  have HVN := Lib.hid hvN
  have HVSN := Lib.hid hVsN
  have HOWN := Lib.hid hown
  have HLS := Lib.hid hls
  have HLFAR := Lib.hid hlfar
  have HROWS := Lib.hid hrows
  have HFAR := Lib.hid hfar
  have HRLEN := Lib.hid hRlen
  have HVLEN : Hid (∀ i, (Vs.getD i []).length ≤ 255) := Lib.hid (getDV_len hVlen)
  have hTL : Vs.flatten.length ≤ 1530 := by have := flatten_le 255 Vs hVlen; rw [hVsN] at this; omega
  have HVO : Hid (∀ i, ∀ u ∈ Vs.getD i [], u.oneCell' = true) := Lib.hid (fun i u hu => by
    have hm : u ∈ Vs.flatten := by
      rw [List.getD_eq_getElem?_getD] at hu
      cases e : Vs[i]? with
      | none => rw [e] at hu; simp at hu
      | some x =>
        rw [e] at hu
        exact List.mem_flatten.2 ⟨x, List.mem_of_getElem? e, hu⟩
    obtain ⟨j, hj⟩ := List.mem_iff_getElem?.1 hm
    exact (hrows.own j u hj).oneCell)
  have HVLT : Hid (∀ k, InRows vs k → k < w.heap.size) := Lib.hid (fun k ⟨i, v, hi, hg⟩ => ((hls.own i v hi).lt k hg).2)
  obtain ⟨V, hV⟩ : ∃ V, V = Vs.flatten := ⟨_, rfl⟩
  rw [← hV] at HROWS HFAR hTL ⊢
  have HV := Lib.hid hV
  have hT : 5 ≠ 24 := by decide
  clear hvN hVsN hown hls hlfar hrows hfar hRlen hVlen hV
  go_enter Try.func73, Try.ntmps73
  go_wp2_with fail
  go_loopw [3, 4] (fun v i wr => ∃ (q : Nat) (v' : Value), v' = v ∧ q ≤ N ∧ i = .int .i64 q ∧ Ext w wr ∧ Own wr w.heap.size 24 v' (Vs.take q).flatten) (fun _ i _ => N - (intOf i).toNat)
  case atStart => exact ⟨0, _, rfl, by omega, rfl, Ext.refl _, Own.nil _ _ _⟩
  case round =>
    obtain ⟨W, rfl⟩ : ∃ W, W = wr := ⟨_, rfl⟩
    obtain ⟨q, v, rfl, hq1, rfl, hx, ho⟩ := hrel
    by_cases hlt : q < N
    · obtain ⟨u, hu⟩ : ∃ u, vs[q]? = some u := ⟨_, List.getElem?_eq_getElem (by rw [HVN.out]; exact hlt)⟩
      obtain ⟨A, c, rfl, hrd, hlc, hcm, -⟩ := (HLS.out.ext hx).at_ hu
      have hc0 := (HOWN.out.ext hx).cell hu
      obtain ⟨m, hm⟩ : ∃ m, m = (Vs.getD q []).length := ⟨_, rfl⟩
      have hm255 : m ≤ 255 := by rw [hm]; exact HVLEN.out q
      rw [← hm] at hc0
      have hle := hx.le
      have hfl : (Vs.take q).flatten.length ≤ 1530 := by
        have h1 := congrArg List.length HV.out
        have h2 : Vs.flatten.length = (Vs.take q).flatten.length + (Vs.drop q).flatten.length := by rw [← List.length_append, ← List.flatten_append, List.take_append_drop]
        omega
      have hbd : ((Vs.take q).flatten.length + m) * 24 ≤ 140737488355328 := by omega
      have HRD := Lib.hid hrd
      have HO := Lib.hid ho
      have HM := Lib.hid hm
      have HX := Lib.hid hx
      have hqN : (q : Int) < (N : Int) := by omega
      obtain ⟨Av, nv, cv, rfl⟩ : ∃ A n c, v = Value.slice A n c := by obtain ⟨A, c, h⟩ := ho.anySlice; exact ⟨_, _, _, h⟩
      clear hrd ho hm hx hu hfl
      go_wp2_with (at_builtin; refine wpList_app W eltRowU8 rfl _ _ (by rfl) w.heap.size (.slice Av nv cv) (Vs.take q).flatten (by rfl) (by exact HO.out) A m c (Vs.getD q []) (by rfl) HRD.out HM.out.symm (HVO.out q) hbd hle ?_)
      intro v2 w2 ho2 hmv
      have HO2 : Hid (Own w2 w.heap.size 24 v2 (Vs.take (q + 1)).flatten ∧ Ext w w2) := Lib.hid ⟨by rw [flatten_step]; exact ho2, HX.out.below.trans (hmv.below hle fun g hg => (HO.out.lt g hg).1)⟩
      clear ho2 hmv hbd hle hc0
      go_wp2_with fail
      go_roundw
      case rel => exact ⟨q + 1, v2, rfl, by omega, by go_num, HO2.out.2, HO2.out.1⟩
      case measure => simp [intOf]; omega
    · obtain rfl : N = q := by omega
      rw [List.take_of_length_le (by rw [HVSN.out]; exact Nat.le_refl _), ← HV.out] at ho
      obtain ⟨Af, cf, rfl, -, hTc, hcm, hsomeF⟩ := ho.opened
      obtain ⟨T, hTe⟩ : ∃ T, V.length = T := ⟨_, rfl⟩
      rw [hTe] at ho hTL hTc hsomeF ⊢
      have HVT := Lib.hid hTe
      have hwW := hx.le
      have HX1 := Lib.hid hx
      have HOF := Lib.hid ho
      have HOWN1 := Lib.hid (HOWN.out.ext hx)
      have HLS1 := Lib.hid (HLS.out.ext hx)
      have HROWS1 := Lib.hid (HROWS.out.ext hx)
      clear hx ho hTe
      rcases Nat.eq_zero_or_pos T with hT0 | hT0
      · have d0 : decide ((0 : Int) < (T : Int)) = false := decide_eq_false (by omega)
        have d0n : decide (0 < T) = false := decide_eq_false (by omega)
        obtain ⟨R2, hR2e⟩ : ∃ R2 : Nat → List E, R2 = fun r => List.replicate (R r).length (mkA r) := ⟨_, rfl⟩
        have HR2L := Lib.hid (show ∀ r, (R2 r).length ≤ 1048576 by rw [hR2e]; simpa using HRLEN.out)
        have hno : ∀ i v, V[i]? ≠ some v := fun i v h => by have := (List.getElem?_eq_some_iff.1 h).1; rw [HVT.out, hT0] at this; omega
        have W3T : Hid (Touch (InRows V) W W) := Lib.hid (Touch.refl W)
        have OF := HOF
        have OWN3 := HOWN1
        have LS3 := HLS1
        have ROWS3 : Hid (OwnRows W B 5 V R2) := Lib.hid ⟨fun i v h => absurd h (hno i v)⟩
        clear hsomeF hno hR2e hT0
        go_wp2_with fail
        go_loopw [5] (fun i wr => i = .int .i64 0 ∧ W = wr) (fun _ _ => 0)
        case atStart => exact ⟨rfl, rfl⟩
        case round =>
          obtain ⟨rfl, rfl⟩ := hrel
          go_wp2_with fail
          go_loopw [7, 8, 9] (fun vl vw i wr => vl = .slice none 0 0 ∧ vw = .slice none 0 0 ∧ i = .int .i64 0 ∧ W = wr) (fun _ _ _ _ => 0)
          case atStart => exact ⟨rfl, rfl, rfl, rfl⟩
          case round =>
            obtain ⟨rfl, rfl, rfl, rfl⟩ := hrel
            go_wp2_with fail
            refine (grown_n G cap N vs (fun i => Vs.getD i []) B BG _ HVN.out OWN3.out LS3.out HLFAR.out hN (fun i => Nat.le_trans (HVLEN.out i) (by omega)) (Nat.le_trans hB (Nat.le_trans hwW W3T.out.size)) hN0).mono ?_
            rintro e W4 ⟨gl, cl, LL, rfl, hgo⟩
            have hnf : ∀ g, w.heap.size ≤ g → ¬ InRows vs g := fun g h1 h2 => by have := HVLT.out g h2; omega
            have W4T := Lib.hid hgo.touch
            have OF4 := Lib.hid (OF.out.touch hgo.touch fun g hg => hnf g (OF.out.lt g hg).1)
            have ROWS4 : Hid (OwnRows W4 B 5 V R2) := Lib.hid ⟨fun i u hi => (ROWS3.out.own i u hi).notVs LS3.out (by decide) hgo.touch⟩
            have OWN4 : Hid (Own W4 BG 77 (.slice (some ⟨G, 0, none⟩) N cap) vs) := Lib.hid (OWN3.out.notVs LS3.out (by decide) hgo.touch)
            have GO := Lib.hid hgo
            clear hgo hnf OF ROWS3 OWN3 LS3

            go_wp2_with fail
            go_loop [13, 14] (fun i g => i = .int .i64 0) (fun _ _ => 0)
            case atStart => rfl
            case round =>
              obtain rfl := hrel
              go_wp2_with fail
              go_loopw [17, 18] (fun nn i wr => ∃ q : Nat, q ≤ N ∧ i = .int .i64 q ∧ nn = .int .i64 ((Vs.take q).flatten.length : Nat) ∧ Ext W4 wr) (fun _ i _ => N - (intOf i).toNat)
              case atStart => exact ⟨0, by omega, rfl, rfl, Ext.refl _⟩
              case round =>
                obtain ⟨W5, rfl⟩ : ∃ W, W = wr := ⟨_, rfl⟩
                obtain ⟨q, hq1, rfl, rfl, hx⟩ := hrel
                by_cases hlt5 : q < N
                · obtain ⟨u, hu⟩ : ∃ u, vs[q]? = some u := ⟨_, List.getElem?_eq_getElem (by rw [HVN.out]; exact hlt5)⟩
                  obtain ⟨A, c, rfl, hrd, -, -, -⟩ := GO.out.old.at_ hu
                  have hc0 := OWN4.out.cell hu
                  obtain ⟨m, hm⟩ : ∃ m, m = (Vs.getD q []).length := ⟨_, rfl⟩
                  have hm255 : m ≤ 255 := by rw [hm]; exact HVLEN.out q
                  rw [← hm] at hc0
                  obtain ⟨off, hoff⟩ : ∃ f, f = (Vs.take q).flatten.length := ⟨_, rfl⟩
                  have hfs : (Vs.take (q + 1)).flatten.length = off + m := by rw [flatten_step, List.length_append, hoff, hm]
                  have HFS := Lib.hid hfs
                  have HOFF := Lib.hid hoff
                  have HM := Lib.hid hm
                  have HRD := Lib.hid hrd
                  have HX := Lib.hid hx
                  have hqN : (q : Int) < (N : Int) := by omega
                  have hc1 : W5.cell? ⟨G, q, none⟩ = some (.slice A m c) := (hx.cell (World.block_lt_of_cell? _ _ hc0)).trans hc0
                  rw [← hoff]
                  clear hrd hx hu hoff hm hfs
                  go_wp2_with fail
                  clear hc1
                  go_loopw [17, 19] (fun nn i wr => ∃ p : Nat, p ≤ m ∧ i = .int .i64 p ∧ nn = .int .i64 ((off + p : Nat)) ∧ Ext W4 wr) (fun _ i _ => m - (intOf i).toNat)
                  case atStart => exact ⟨0, by omega, rfl, rfl, HX.out⟩
                  case round =>
                    obtain ⟨W6, rfl⟩ : ∃ W, W = wr := ⟨_, rfl⟩
                    obtain ⟨pp, hp1, rfl, rfl, hx⟩ := hrel
                    have hc1 : W6.cell? ⟨G, q, none⟩ = some (.slice A m c) := (hx.cell (World.block_lt_of_cell? _ _ hc0)).trans hc0
                    obtain ⟨n2, hn2⟩ : ∃ n, n = off + pp := ⟨_, rfl⟩
                    rw [← hn2]
                    by_cases hlt6 : pp < m
                    · have hpl : pp < (Vs.getD q []).length := by rw [← HM.out]; exact hlt6
                      obtain ⟨u, hu⟩ : ∃ u, (Vs.getD q [])[pp]? = some u := ⟨_, List.getElem?_eq_getElem hpl⟩
                      have hVu : V[n2]? = some u := by rw [HV.out, hn2, HOFF.out, flatten_at _ _ _ hpl, hu]
                      have hnT : n2 < T := by rw [← HVT.out]; exact (List.getElem?_eq_some_iff.1 hVu).1
                      obtain ⟨au, cu, rfl, hrb, -, -, -⟩ := ROWS4.out.at_ hVu
                      obtain ⟨aq, rfl, hcq⟩ := HRD.out.at_ hu
                      obtain ⟨af, e3, hcf⟩ := OF4.out.rd.at_ hVu
                      subst e3
                      obtain ⟨ln, hln⟩ : ∃ n, (R2 n2).length = n := ⟨_, rfl⟩
                      have hlnb : ln ≤ 1048576 := by rw [← hln]; exact HR2L.out n2
                      rw [hln] at hcq hcf
                      have c0 : ∀ u : Beyond W6, u.1.cell? ⟨G, q, none⟩ = some (.slice (some aq) m c) := fun u => (u.2.cell (World.block_lt_of_cell? _ _ hc1)).trans hc1
                      have c1 : ∀ u : Beyond W6, u.1.cell? (aq.add pp) = some (.slice au ln cu) := fun u => (((hx.trans u.2).cell (p := aq.add pp) (World.block_lt_of_cell? _ _ hcq)).trans hcq)
                      have c2 : ∀ u : Beyond W6, u.1.cell? (af.add n2) = some (.slice au ln cu) := fun u => (((hx.trans u.2).cell (p := af.add n2) (World.block_lt_of_cell? _ _ hcf)).trans hcf)
                      have HQ : Hid (∀ u : Beyond W6, Calls Try.prog 80 #[.slice au ln cu, .slice au ln cu] u.1 fun e w' => e = .returned (.bool true) ∧ Ext u.1 w') := Lib.hid (fun u => by
                        have := sameBytes_any au au ln ln (R2 n2) (R2 n2) cu cu u.1 hln hln ((hrb.ext hx).ext u.2) ((hrb.ext hx).ext u.2) (by omega) (by omega)
                        exact this.mono fun e w' ⟨h, hx⟩ => ⟨by rw [h, eqB_true rfl], hx⟩)
                      have hpm : (pp : Int) < (m : Int) := by omega
                      have hnT2 : (n2 : Int) < (T : Int) := by omega
                      have HX2 := Lib.hid hx
                      have HN2 := Lib.hid hn2
                      clear hrb hcq hcf hln hu hVu hx hn2
                      go_wp2_with fail
                      refine region_beyond_plain hmo (by kernel_rfl) (by kernel_rfl) ?_
                      repeat (gi_big_quiet_step ((gi_at_call 80; with_reducible exact call_beyond (HQ.out _))))
                      refine wpQuietIn_nil ?_
                      rintro _ ⟨⟨w7, hx7⟩, rfl⟩
                      clear c0 c1 c2 hc1
                      go_wp2_with fail
                      go_roundw
                      case rel => exact ⟨pp + 1, by omega, by go_num, by have := HN2.out; subst this; go_num, HX2.out.trans hx7⟩
                      case measure => simp [intOf]; omega
                    · obtain rfl : pp = m := by omega
                      have HX2 := Lib.hid hx
                      have HN2 := Lib.hid hn2
                      clear hx hn2
                      go_wp2_with fail
                      go_roundw
                      case rel => exact ⟨q + 1, by omega, by go_num, by rw [HFS.out, ← HN2.out], HX2.out⟩
                      case measure => simp [intOf]; omega
                · obtain rfl : N = q := by omega
                  have HX := Lib.hid hx
                  clear hx
                  go_wp2_with fail
                  refine (whole_n G cap N gl cl B BG _ _ vs (fun i => Vs.getD i []) LL _ HVN.out (OWN4.out.ext HX.out) (GO.out.old.ext HX.out) GO.out.len (GO.out.list.ext HX.out) (fun s hs => (GO.out.own s hs).ext HX.out) (fun s hs => (GO.out.marks s hs).keep fun u xs h => h.ext HX.out) GO.out.labs hN (fun i => Nat.le_trans (HVLEN.out i) (by omega))).mono ?_
                  rintro e W8 ⟨rfl, hx8⟩
                  have HT : Hid (Touch (fun k => InRows vs k ∨ InRows V k) w W8) := Lib.hid (((HX1.out.touch.trans (W3T.out.mono fun k _ h => .inr h)).trans (W4T.out.mono fun k _ h => .inl h)).trans (HX.out.trans hx8).touch)
                  clear hx8
                  go_wp2_with fail
                  go_ret
                  exact ⟨rfl, HT.out⟩
      · obtain ⟨gf, rfl⟩ := hsomeF hT0
        clear hsomeF
        go_wp2_with fail
        go_loopw [5] (fun i wr => ∃ k : Nat, k ≤ T ∧ i = .int .i64 k ∧ Marking W wr B w.heap.size 5 24 gf T cf V R mkA k 0) (fun i _ => T - (intOf i).toNat)
        case atStart => exact ⟨0, by omega, rfl, Marking.start HOF.out HROWS1.out⟩
        case round =>
          obtain ⟨i, hi, rfl, hM⟩ := hrel
          by_cases hlt2 : i < T
          · obtain ⟨v, hv⟩ : ∃ v, V[i]? = some v := ⟨_, List.getElem?_eq_getElem (by rw [HVT.out]; exact hlt2)⟩
            obtain ⟨A, c, rfl, hc, hlc, hcm2, hsome⟩ := hM.at_ hv
            have hlb := HRLEN.out i
            have HV1 := Lib.hid hv
            have HM := Lib.hid hM
            obtain ⟨r, hr⟩ : ∃ r, r = i % 125 := ⟨_, rfl⟩
            have hr5 : r < 125 := by omega
            have hmd : Int.tmod (i : Int) 125 = (r : Int) := by rw [hr]; exact tmod125 i
            have hmd2 : (i : Int) % 125 = (r : Int) := by omega
            have HMA : Hid (bv (mkA i) = .int .u8 (r : Int)) := Lib.hid (by rw [hr]; exact mkA_val i)
            clear hv hcm2 hM hc hr
            go_wp2_with fail
            go_loopw [6] (fun jj wr => ∃ j : Nat, j ≤ (R i).length ∧ jj = .int .i64 j ∧ Marking W wr B w.heap.size 5 24 gf T cf V R mkA i j) (fun jj _ => (R i).length - (intOf jj).toNat)
            case atStart => exact ⟨0, by omega, rfl, HM.out⟩
            case round =>
              obtain ⟨j, hj, rfl, hM⟩ := hrel
              obtain ⟨_, _, e, hc, -⟩ := hM.at_ HV1.out
              injection e with e1 e2 e3
              subst e1 e3
              clear e2 HM
              by_cases hlt3 : j < (R i).length
              · obtain ⟨g, rfl⟩ := hsome (by omega)
                obtain ⟨x, hx⟩ := hM.old HV1.out hlt3
                have hfr := hM.frozen HV1.out j
                have HM := Lib.hid (hM.step HFAR.out hT HV1.out hlt3)
                rw [HMA.out] at HM
                clear hM
                go_wp2_with fail
                go_roundw
                case rel => exact ⟨j + 1, by omega, by go_num, HM.out⟩
                case measure => simp [intOf]; omega
              · obtain rfl : j = (R i).length := by omega
                have HM := Lib.hid hM.next
                clear hM
                go_wp2_with fail
                go_roundw
                case rel => exact ⟨i + 1, by omega, by go_num, HM.out⟩
                case measure => simp [intOf]; omega
          · obtain rfl : T = i := by omega
            have hR2 := hM.done HVT.out
            have hT1 := hM.touch
            have hO1 := hM.own
            obtain ⟨R2, hR2e⟩ : ∃ R2 : Nat → List E, R2 = fun r => List.replicate (R r).length (mkA r) := ⟨_, rfl⟩
            have HR2 := Lib.hid (show ∀ r, R2 r = List.replicate (R r).length (mkA r) by rw [hR2e]; exact fun _ => rfl)
            have HR2L := Lib.hid (show ∀ r, (R2 r).length ≤ 1048576 by rw [hR2e]; simpa using HRLEN.out)
            rw [← hR2e] at hR2
            have hgW : gf < W.heap.size := (HOF.out.lt gf rfl).2
            have HG0 : Hid (∃ cur : Kin, Grow W wr B w.heap.size 5 24 3 gf T cf V R2 cur (.slice none 0 0) (.slice none 0 0) [] []) := by
              obtain ⟨v, hv⟩ : ∃ v, V[0]? = some v := ⟨_, List.getElem?_eq_getElem (by rw [HVT.out]; exact hT0)⟩
              exact Lib.hid ⟨⟨0, v, bs (R2 0)⟩, Grow.start hT1 hO1 hR2 HFAR.out hgW _ ⟨hv, rfl⟩⟩
            have hwr : W.heap.size ≤ wr.heap.size := hT1.size
            clear hM hR2e hR2 hT1 hO1
            go_wp2_with fail
            go_loopw [7, 8, 9] (fun vl vw i wr => ∃ (k : Nat) (cur : Kin) (VL VW : Value) (L : List Kin), VL = vl ∧ VW = vw ∧ k ≤ T ∧ i = .int .i64 k ∧ Grow W wr B w.heap.size 5 24 3 gf T cf V R2 cur VL VW L L ∧ L.length ≤ 66 * k ∧ (∀ s, s ∈ L → Hist R2 mkB T 66 k 0 s)) (fun _ _ i _ => T - (intOf i).toNat)
            case atStart => obtain ⟨cur, h⟩ := HG0.out; exact ⟨0, cur, _, _, [], rfl, rfl, by omega, rfl, h, by simp, fun s hs => by cases hs⟩
            case round =>
              obtain ⟨i, cur, VL, VW, L, rfl, rfl, hi, rfl, hG, hLl, hH⟩ := hrel
              clear HG0
              by_cases hlt4 : i < T
              · obtain ⟨v, hv⟩ : ∃ v, V[i]? = some v := ⟨_, List.getElem?_eq_getElem (by rw [HVT.out]; exact hlt4)⟩
                have hc := hG.own.cell hv
                have HST : Hid (Grow W wr B w.heap.size 5 24 3 gf T cf V R2 ⟨i, v, bs (R2 i ++ List.replicate 0 (mkB i))⟩ VL VW L L) := Lib.hid (hG.next ⟨i, v, _⟩ ⟨hv, by simp⟩)
                have HH : Hid (∀ s, s ∈ L → Hist R2 mkB T 66 i 0 s) := Lib.hid hH
                have HLL := Lib.hid hLl
                have hiN := hlt4
                obtain ⟨r, hr⟩ : ∃ r, r = i % 125 := ⟨_, rfl⟩
                have hr5 : r < 125 := by omega
                have hmd : Int.tmod (i : Int) 125 = (r : Int) := by rw [hr]; exact tmod125 i
                have hmd2 : (i : Int) % 125 = (r : Int) := by omega
                have HMB : Hid (bv (mkB i) = .int .u8 (128 + (r : Int))) := Lib.hid (by rw [hr]; exact mkB_val i)
                clear hG hv hH hLl hr
                go_wp2_with fail
                clear hc
                go_loopw [7, 8, 10, 11] (fun vl vw g k wr => ∃ (j : Nat) (v VL VW : Value) (L : List Kin), v = g ∧ VL = vl ∧ VW = vw ∧ j ≤ 66 ∧ k = .int .i64 j ∧ Grow W wr B w.heap.size 5 24 3 gf T cf V R2 ⟨i, v, bs (R2 i ++ List.replicate j (mkB i))⟩ VL VW L L ∧ L.length ≤ 66 * i + j ∧ (∀ s, s ∈ L → Hist R2 mkB T 66 i j s)) (fun _ _ _ k _ => 66 - (intOf k).toNat)
                case atStart => exact ⟨0, v, VL, VW, L, rfl, rfl, rfl, by omega, rfl, HST.out, HLL.out, HH.out⟩
                case round =>
                  obtain ⟨j, v, VL, VW, L, rfl, rfl, rfl, hj, rfl, hG, hLl, hH⟩ := hrel
                  clear HST HH HLL
                  by_cases hlt5 : j < 66
                  · have HG := Lib.hid hG
                    have HH : Hid (∀ s, s ∈ L → Hist R2 mkB T 66 i j s) := Lib.hid hH
                    have HLL := Lib.hid hLl
                    have hrl := HR2L.out i
                    have hcur : Own wr B 5 v (bs (R2 i ++ List.replicate j (mkB i))) := hG.fam.own _ (.inr (.inr rfl))
                    have hle : B ≤ wr.heap.size := Nat.le_trans (Nat.le_trans hB hwW) hG.touch.size
                    have hbd : ((bs (R2 i ++ List.replicate j (mkB i))).length + 1) * 1 ≤ 140737488355328 := by rw [bs_length, List.length_append, List.length_replicate]; omega
                    have HCUR := Lib.hid hcur
                    clear hG hH hLl hcur
                    rcases (show j < 16 ∨ (16 ≤ j ∧ j = 65) ∨ (16 ≤ j ∧ j ≠ 65) by omega) with h16 | ⟨h16, h65⟩ | ⟨h16, h65⟩
                    · have d1 : decide ((j : Int) < 16) = true := decide_eq_true (by omega)
                      clear h16
                      go_wp2_with (at_builtin; refine wpList_push2 wr eltU8 rfl _ _ (by rfl) B v _ (by rfl) (by exact HCUR.out) (.int .u8 (128 + (r : Int))) wr.heap.size rfl (by rfl) rfl hbd hle ?_)
                      intro v1 w1 h1 h2 h3 h4
                      obtain ⟨A1, n1, c1, rfl⟩ : ∃ A n c, v1 = Value.slice A n c := by obtain ⟨A, c, h⟩ := h1.anySlice; exact ⟨_, _, _, h⟩
                      have h1' : Own w1 B 5 (.slice A1 n1 c1) (bs (R2 i ++ List.replicate (j + 1) (mkB i))) := by
                        rw [List.replicate_succ', ← List.append_assoc, bs_append]
                        rw [← HMB.out] at h1
                        exact h1
                      have HG1 := Lib.hid (HG.out.cur_ hT (by decide) (fun s hs hl => by rw [bs_length, List.length_append, List.length_replicate]; exact (HH.out s hs).len hl) (by show (R2 i).length ≤ (bs _).length; rw [bs_length, List.length_append]; exact Nat.le_add_right _ _) h1' h2 h4)
                      clear h1 h1' h2 h3 h4 hle hbd
                      have hle1 : W.heap.size ≤ w1.heap.size := HG1.out.touch.size
                      have hbd1 : ((L.map Kin.val).length + 1) * 24 ≤ 140737488355328 := by rw [List.length_map]; have := HLL.out; omega
                      go_wp2_with (at_builtin; refine wpList_push2 w1 eltRowU8 rfl _ _ (by rfl) W.heap.size VL _ (by rfl) (by exact HG1.out.vl) (.slice A1 n1 c1) w1.heap.size rfl (by rfl) rfl hbd1 hle1 ?_)
                      intro vl2 w2 h1 h2 h3 h4
                      have HG2 := Lib.hid (HG1.out.long_ hT (by decide) h1 h2)
                      have hle2 : W.heap.size ≤ w2.heap.size := HG2.out.touch.size
                      have hbd2 : ((L.map fun s => Value.int .i64 (s.lab : Int)).length + 1) * 8 ≤ 140737488355328 := by rw [List.length_map]; have := HLL.out; omega
                      clear h1 h2 h3 h4 hle1 hbd1
                      go_wp2_with (at_builtin; refine wpList_push2 w2 eltInt rfl _ _ (by rfl) W.heap.size VW _ (by rfl) (by exact HG2.out.vw) (.int .i64 (i : Int)) w2.heap.size rfl (by rfl) rfl hbd2 hle2 ?_)
                      intro vw3 w3 h1 h2 h3 h4
                      have HG3 := Lib.hid (HG2.out.whose_ (by decide) (by decide) h1 h2)
                      have HH3 : Hid (∀ s, s ∈ L ++ [⟨i, .slice A1 n1 c1, bs (R2 i ++ List.replicate (j + 1) (mkB i))⟩] → Hist R2 mkB T 66 i (j + 1) s) := Lib.hid fun s hs => by
                        rcases List.mem_append.1 hs with hs | hs
                        · exact (HH.out s hs).more
                        · obtain rfl : s = ⟨i, .slice A1 n1 c1, bs (R2 i ++ List.replicate (j + 1) (mkB i))⟩ := by simpa using hs
                          exact ⟨hiN, Nat.le_refl _, j + 1, by omega, fun _ => Nat.le_refl _, rfl⟩
                      clear h1 h2 h3 h4 hle2 hbd2
                      go_wp2_with fail
                      go_roundw
                      case rel => exact ⟨j + 1, .slice A1 n1 c1, vl2, vw3, _, rfl, rfl, rfl, by omega, by go_num, HG3.out, by rw [List.length_append]; have := HLL.out; simp; omega, HH3.out⟩
                      case measure => simp [intOf]; omega
                    · have d1 : decide ((j : Int) < 16) = false := decide_eq_false (by omega)
                      have d1n : decide (j < 16) = false := decide_eq_false (by omega)
                      have d2 : ((j : Int) == 65) = true := by rw [beq_iff_eq]; omega
                      clear h16 h65
                      go_wp2_with (at_builtin; refine wpList_push2 wr eltU8 rfl _ _ (by rfl) B v _ (by rfl) (by exact HCUR.out) (.int .u8 (128 + (r : Int))) wr.heap.size rfl (by rfl) rfl hbd hle ?_)
                      intro v1 w1 h1 h2 h3 h4
                      obtain ⟨A1, n1, c1, rfl⟩ : ∃ A n c, v1 = Value.slice A n c := by obtain ⟨A, c, h⟩ := h1.anySlice; exact ⟨_, _, _, h⟩
                      have h1' : Own w1 B 5 (.slice A1 n1 c1) (bs (R2 i ++ List.replicate (j + 1) (mkB i))) := by
                        rw [List.replicate_succ', ← List.append_assoc, bs_append]
                        rw [← HMB.out] at h1
                        exact h1
                      have HG1 := Lib.hid (HG.out.cur_ hT (by decide) (fun s hs hl => by rw [bs_length, List.length_append, List.length_replicate]; exact (HH.out s hs).len hl) (by show (R2 i).length ≤ (bs _).length; rw [bs_length, List.length_append]; exact Nat.le_add_right _ _) h1' h2 h4)
                      clear h1 h1' h2 h3 h4 hle hbd
                      have hle1 : W.heap.size ≤ w1.heap.size := HG1.out.touch.size
                      have hbd1 : ((L.map Kin.val).length + 1) * 24 ≤ 140737488355328 := by rw [List.length_map]; have := HLL.out; omega
                      go_wp2_with (at_builtin; refine wpList_push2 w1 eltRowU8 rfl _ _ (by rfl) W.heap.size VL _ (by rfl) (by exact HG1.out.vl) (.slice A1 n1 c1) w1.heap.size rfl (by rfl) rfl hbd1 hle1 ?_)
                      intro vl2 w2 h1 h2 h3 h4
                      have HG2 := Lib.hid (HG1.out.long_ hT (by decide) h1 h2)
                      have hle2 : W.heap.size ≤ w2.heap.size := HG2.out.touch.size
                      have hbd2 : ((L.map fun s => Value.int .i64 (s.lab : Int)).length + 1) * 8 ≤ 140737488355328 := by rw [List.length_map]; have := HLL.out; omega
                      clear h1 h2 h3 h4 hle1 hbd1
                      go_wp2_with (at_builtin; refine wpList_push2 w2 eltInt rfl _ _ (by rfl) W.heap.size VW _ (by rfl) (by exact HG2.out.vw) (.int .i64 (i : Int)) w2.heap.size rfl (by rfl) rfl hbd2 hle2 ?_)
                      intro vw3 w3 h1 h2 h3 h4
                      have HG3 := Lib.hid (HG2.out.whose_ (by decide) (by decide) h1 h2)
                      have HH3 : Hid (∀ s, s ∈ L ++ [⟨i, .slice A1 n1 c1, bs (R2 i ++ List.replicate (j + 1) (mkB i))⟩] → Hist R2 mkB T 66 i (j + 1) s) := Lib.hid fun s hs => by
                        rcases List.mem_append.1 hs with hs | hs
                        · exact (HH.out s hs).more
                        · obtain rfl : s = ⟨i, .slice A1 n1 c1, bs (R2 i ++ List.replicate (j + 1) (mkB i))⟩ := by simpa using hs
                          exact ⟨hiN, Nat.le_refl _, j + 1, by omega, fun _ => Nat.le_refl _, rfl⟩
                      clear h1 h2 h3 h4 hle2 hbd2
                      go_wp2_with fail
                      go_roundw
                      case rel => exact ⟨j + 1, .slice A1 n1 c1, vl2, vw3, _, rfl, rfl, rfl, by omega, by go_num, HG3.out, by rw [List.length_append]; have := HLL.out; simp; omega, HH3.out⟩
                      case measure => simp [intOf]; omega
                    · have d1 : decide ((j : Int) < 16) = false := decide_eq_false (by omega)
                      have d1n : decide (j < 16) = false := decide_eq_false (by omega)
                      have d2 : ((j : Int) == 65) = false := by rw [beq_eq_false_iff_ne]; omega
                      clear h16 h65
                      go_wp2_with (at_builtin; refine wpList_push2 wr eltU8 rfl _ _ (by rfl) B v _ (by rfl) (by exact HCUR.out) (.int .u8 (128 + (r : Int))) wr.heap.size rfl (by rfl) rfl hbd hle ?_)
                      intro v1 w1 h1 h2 h3 h4
                      obtain ⟨A1, n1, c1, rfl⟩ : ∃ A n c, v1 = Value.slice A n c := by obtain ⟨A, c, h⟩ := h1.anySlice; exact ⟨_, _, _, h⟩
                      have h1' : Own w1 B 5 (.slice A1 n1 c1) (bs (R2 i ++ List.replicate (j + 1) (mkB i))) := by
                        rw [List.replicate_succ', ← List.append_assoc, bs_append]
                        rw [← HMB.out] at h1
                        exact h1
                      have HG1 := Lib.hid (HG.out.cur_ hT (by decide) (fun s hs hl => by rw [bs_length, List.length_append, List.length_replicate]; exact (HH.out s hs).len hl) (by show (R2 i).length ≤ (bs _).length; rw [bs_length, List.length_append]; exact Nat.le_add_right _ _) h1' h2 h4)
                      clear h1 h1' h2 h3 h4 hle hbd
                      have HH3 : Hid (∀ s, s ∈ L → Hist R2 mkB T 66 i (j + 1) s) := Lib.hid fun s hs => (HH.out s hs).more
                      go_wp2_with fail
                      go_roundw
                      case rel => exact ⟨j + 1, .slice A1 n1 c1, VL, VW, L, rfl, rfl, rfl, by omega, by go_num, HG1.out, by have := HLL.out; omega, HH3.out⟩
                      case measure => simp [intOf]; omega
                  · obtain rfl : j = 66 := by omega
                    have HG := Lib.hid hG
                    have HH : Hid (∀ s, s ∈ L → Hist R2 mkB T 66 (i + 1) 0 s) := Lib.hid fun s hs => (hH s hs).next
                    have HLL := Lib.hid hLl
                    clear hG hH hLl
                    go_wp2_with fail
                    go_roundw
                    case rel => exact ⟨i + 1, _, VL, VW, L, rfl, rfl, by omega, by go_num, HG.out, by have := HLL.out; omega, HH.out⟩
                    case measure => simp [intOf]; omega
              · obtain rfl : T = i := by omega
                obtain ⟨Am, cm, rfl, -, -, -, -⟩ := hG.vl.opened
                obtain ⟨Aw, cw, rfl, -, -, -, -⟩ := hG.vw.opened
                rw [List.length_map] at hG ⊢
                rw [List.length_map] at hG ⊢
                obtain ⟨M, hM⟩ : ∃ M, L.length = M := ⟨_, rfl⟩
                have hMT : M ≤ 66 * T := by omega
                rw [hM] at hG ⊢
                have W3T := Lib.hid hG.fin
                have OF := Lib.hid hG.own
                have OWN3 : Hid (Own wr BG 77 (.slice (some ⟨G, 0, none⟩) N cap) vs) := Lib.hid (HOWN1.out.notRows HROWS1.out (by decide) hG.fin)
                have LS3 : Hid (OwnVs wr B 24 vs (fun i => Vs.getD i [])) := Lib.hid ⟨fun i v h => (HLS1.out.own i v h).notRows HROWS1.out (by decide) hG.fin⟩
                have ROWS3 : Hid (OwnRows wr B 5 V R2) := Lib.hid ⟨fun i v h => hG.fam.own ⟨i, v, _⟩ (.inl ⟨h, rfl⟩)⟩
                have MO := Lib.hid (hG.vl.mono hwW)
                have WH := Lib.hid (hG.vw.mono hwW)
                have FAM : Hid (∀ s, s ∈ L → Own wr B 5 s.val s.xs) := Lib.hid (fun s hs => hG.fam.own s (.inr (.inl hs)))
                have HH : Hid (∀ s, s ∈ L → Hist R2 mkB T 66 T 0 s) := Lib.hid hH
                have HLL := Lib.hid hM
                clear hG hH hLl hM
                obtain ⟨Af, hAf⟩ : ∃ A : Option Addr, A = some ⟨gf, 0, none⟩ := ⟨_, rfl⟩
                rw [← hAf] at OF ⊢
                clear hAf
                go_wp2_with fail
                refine (grown_n G cap N vs (fun i => Vs.getD i []) B BG _ HVN.out OWN3.out LS3.out HLFAR.out hN (fun i => Nat.le_trans (HVLEN.out i) (by omega)) (Nat.le_trans hB (Nat.le_trans hwW W3T.out.size)) hN0).mono ?_
                rintro e W4 ⟨gl, cl, LL, rfl, hgo⟩
                have hnf : ∀ g, w.heap.size ≤ g → ¬ InRows vs g := fun g h1 h2 => by have := HVLT.out g h2; omega
                have W4T := Lib.hid hgo.touch
                have OF4 := Lib.hid (OF.out.touch hgo.touch fun g hg => hnf g (OF.out.lt g hg).1)
                have MO4 := Lib.hid (MO.out.touch hgo.touch fun g hg => hnf g (MO.out.lt g hg).1)
                have WH4 := Lib.hid (WH.out.touch hgo.touch fun g hg => hnf g (WH.out.lt g hg).1)
                have ROWS4 : Hid (OwnRows W4 B 5 V R2) := Lib.hid ⟨fun i u hi => (ROWS3.out.own i u hi).notVs LS3.out (by decide) hgo.touch⟩
                have FAM4 : Hid (∀ s, s ∈ L → Own W4 B 5 s.val s.xs) := Lib.hid (fun s hs => (FAM.out s hs).notVs LS3.out (by decide) hgo.touch)
                have OWN4 : Hid (Own W4 BG 77 (.slice (some ⟨G, 0, none⟩) N cap) vs) := Lib.hid (OWN3.out.notVs LS3.out (by decide) hgo.touch)
                have GO := Lib.hid hgo
                clear hgo hnf OF MO WH ROWS3 FAM OWN3 LS3
                go_wp2_with fail
                go_loop [13, 14] (fun i g => ∃ k : Nat, k ≤ M ∧ i = .int .i64 k) (fun i _ => M - (intOf i).toNat)
                case atStart => exact ⟨0, by omega, rfl⟩
                case round =>
                  obtain ⟨k, hk, rfl⟩ := hrel
                  by_cases hlt3 : k < M
                  · have hkL : k < L.length := by rw [HLL.out]; exact hlt3
                    obtain ⟨s, hs⟩ : ∃ s, L[k]? = some s := ⟨_, List.getElem?_eq_getElem hkL⟩
                    have hsm : s ∈ L := List.mem_of_getElem? hs
                    obtain ⟨m, hm, hxs⟩ := kin_len (HH.out s hsm)
                    have hlab := (HH.out s hsm).lt
                    obtain ⟨am, e1, hcl⟩ := MO4.out.rd.at_ (k := k) (u := s.val) (by rw [List.getElem?_map, hs]; rfl)
                    obtain ⟨aw, e2, hcw⟩ := WH4.out.rd.at_ (k := k) (u := .int .i64 (s.lab : Int)) (by rw [List.getElem?_map, hs]; rfl)
                    subst e1
                    subst e2
                    obtain ⟨A, c, hsv, hrd, hlc, hcm2, -⟩ := (FAM4.out s hsm).slice
                    rw [hsv] at hcl
                    rw [hxs] at hcl hrd
                    obtain ⟨i, hi⟩ : ∃ i, s.lab = i := ⟨_, rfl⟩
                    rw [hi] at hcl hcw hrd hlab
                    obtain ⟨v0, hv0⟩ : ∃ v, V[i]? = some v := ⟨_, List.getElem?_eq_getElem (by rw [HVT.out]; exact hlab)⟩
                    obtain ⟨A0, c0, rfl, hrd0, -, -, -⟩ := ROWS4.out.at_ hv0
                    obtain ⟨af, e3, hc0⟩ := OF4.out.rd.at_ hv0
                    subst e3
                    obtain ⟨n, hn⟩ : ∃ n, (R2 i).length = n := ⟨_, rfl⟩
                    have hnb : n ≤ 1048576 := by rw [← hn]; exact HR2L.out i
                    have hR2i : R2 i = List.replicate n (mkA i) := by rw [← hn, HR2.out]; simp
                    rw [bs_length, List.length_append, List.length_replicate, hn] at hcl
                    rw [hn] at hc0
                    rw [hR2i] at hrd hrd0
                    obtain ⟨r, hr⟩ : ∃ r, r = i % 125 := ⟨_, rfl⟩
                    have hr5 : r < 125 := by omega
                    have hmd : Int.tmod (i : Int) 125 = (r : Int) := by rw [hr]; exact tmod125 i
                    have hmd2 : (i : Int) % 125 = (r : Int) := by omega
                    have hma : bv (mkA i) = .int .u8 (r : Int) := by rw [hr]; exact mkA_val i
                    have hmb : bv (mkB i) = .int .u8 (128 + (r : Int)) := by rw [hr]; exact mkB_val i
                    have HMA := Lib.hid hma
                    have HMB := Lib.hid hmb
                    have HRD := Lib.hid hrd
                    have HRD0 := Lib.hid hrd0
                    have hib : i < 1530 := by omega
                    have hkM : (k : Int) < (M : Int) := by omega
                    have hiT : (i : Int) < (T : Int) := by omega
                    clear hs hsm hxs hsv hrd hlc hcm2 hi hv0 hrd0 hn hR2i hr hma hmb
                    go_wp2_with fail
                    go_loop [15, 16] (fun jj g => ∃ j : Nat, j ≤ n + m ∧ jj = .int .i64 j) (fun jj _ => n + m - (intOf jj).toNat)
                    case atStart => exact ⟨0, by omega, rfl⟩
                    case round =>
                      obtain ⟨j, hj, rfl⟩ := hrel
                      by_cases hlt4 : j < n + m
                      · have hjn2 : (j : Int) < (n : Int) + (m : Int) := by omega
                        obtain ⟨ad, rfl, hb⟩ := HRD.out.byte (k := j) (by simp; omega)
                        by_cases hjn : j < n
                        · obtain ⟨ad0, rfl, hb0⟩ := HRD0.out.byte (k := j) (by simp; omega)
                          rw [List.getElem_append_left (by simpa using hjn), List.getElem_replicate] at hb
                          rw [List.getElem_replicate] at hb0
                          have e1 := HMA.out
                          rw [bv] at e1
                          rw [e1] at hb hb0
                          have hjn3 : (j : Int) < (n : Int) := by omega
                          clear e1
                          go_wp2_with fail
                          go_round
                          case rel => exact ⟨j + 1, by omega, by go_num⟩
                          case measure => simp [intOf]; omega
                        · rw [List.getElem_append_right (by simp; omega), List.getElem_replicate] at hb
                          have e1 := HMB.out
                          rw [bv] at e1
                          rw [e1] at hb
                          have hjn3 : decide ((j : Int) < (n : Int)) = false := decide_eq_false (by omega)
                          have hjn4 : decide (j < n) = false := decide_eq_false (by omega)
                          clear e1
                          go_wp2_with fail
                          go_round
                          case rel => exact ⟨j + 1, by omega, by go_num⟩
                          case measure => simp [intOf]; omega
                      · obtain rfl : j = n + m := by omega
                        go_wp2_with fail
                        go_round
                        case rel => exact ⟨k + 1, by omega, by go_num⟩
                        case measure => simp [intOf]; omega
                  · obtain rfl : M = k := by omega
                    clear MO4 WH4 FAM4 HH HLL
                    go_wp2_with fail
                    go_loopw [17, 18] (fun nn i wr => ∃ q : Nat, q ≤ N ∧ i = .int .i64 q ∧ nn = .int .i64 ((Vs.take q).flatten.length : Nat) ∧ Ext W4 wr) (fun _ i _ => N - (intOf i).toNat)
                    case atStart => exact ⟨0, by omega, rfl, rfl, Ext.refl _⟩
                    case round =>
                      obtain ⟨W5, rfl⟩ : ∃ W, W = wr := ⟨_, rfl⟩
                      obtain ⟨q, hq1, rfl, rfl, hx⟩ := hrel
                      by_cases hlt5 : q < N
                      · obtain ⟨u, hu⟩ : ∃ u, vs[q]? = some u := ⟨_, List.getElem?_eq_getElem (by rw [HVN.out]; exact hlt5)⟩
                        obtain ⟨A, c, rfl, hrd, -, -, -⟩ := GO.out.old.at_ hu
                        have hc0 := OWN4.out.cell hu
                        obtain ⟨m, hm⟩ : ∃ m, m = (Vs.getD q []).length := ⟨_, rfl⟩
                        have hm255 : m ≤ 255 := by rw [hm]; exact HVLEN.out q
                        rw [← hm] at hc0
                        obtain ⟨off, hoff⟩ : ∃ f, f = (Vs.take q).flatten.length := ⟨_, rfl⟩
                        have hfs : (Vs.take (q + 1)).flatten.length = off + m := by rw [flatten_step, List.length_append, hoff, hm]
                        have HFS := Lib.hid hfs
                        have HOFF := Lib.hid hoff
                        have HM := Lib.hid hm
                        have HRD := Lib.hid hrd
                        have HX := Lib.hid hx
                        have hqN : (q : Int) < (N : Int) := by omega
                        have hc1 : W5.cell? ⟨G, q, none⟩ = some (.slice A m c) := (hx.cell (World.block_lt_of_cell? _ _ hc0)).trans hc0
                        rw [← hoff]
                        clear hrd hx hu hoff hm hfs
                        go_wp2_with fail
                        clear hc1
                        go_loopw [17, 19] (fun nn i wr => ∃ p : Nat, p ≤ m ∧ i = .int .i64 p ∧ nn = .int .i64 ((off + p : Nat)) ∧ Ext W4 wr) (fun _ i _ => m - (intOf i).toNat)
                        case atStart => exact ⟨0, by omega, rfl, rfl, HX.out⟩
                        case round =>
                          obtain ⟨W6, rfl⟩ : ∃ W, W = wr := ⟨_, rfl⟩
                          obtain ⟨pp, hp1, rfl, rfl, hx⟩ := hrel
                          have hc1 : W6.cell? ⟨G, q, none⟩ = some (.slice A m c) := (hx.cell (World.block_lt_of_cell? _ _ hc0)).trans hc0
                          obtain ⟨n2, hn2⟩ : ∃ n, n = off + pp := ⟨_, rfl⟩
                          rw [← hn2]
                          by_cases hlt6 : pp < m
                          · have hpl : pp < (Vs.getD q []).length := by rw [← HM.out]; exact hlt6
                            obtain ⟨u, hu⟩ : ∃ u, (Vs.getD q [])[pp]? = some u := ⟨_, List.getElem?_eq_getElem hpl⟩
                            have hVu : V[n2]? = some u := by rw [HV.out, hn2, HOFF.out, flatten_at _ _ _ hpl, hu]
                            have hnT : n2 < T := by rw [← HVT.out]; exact (List.getElem?_eq_some_iff.1 hVu).1
                            obtain ⟨au, cu, rfl, hrb, -, -, -⟩ := ROWS4.out.at_ hVu
                            obtain ⟨aq, rfl, hcq⟩ := HRD.out.at_ hu
                            obtain ⟨af, e3, hcf⟩ := OF4.out.rd.at_ hVu
                            subst e3
                            obtain ⟨ln, hln⟩ : ∃ n, (R2 n2).length = n := ⟨_, rfl⟩
                            have hlnb : ln ≤ 1048576 := by rw [← hln]; exact HR2L.out n2
                            rw [hln] at hcq hcf
                            have c0 : ∀ u : Beyond W6, u.1.cell? ⟨G, q, none⟩ = some (.slice (some aq) m c) := fun u => (u.2.cell (World.block_lt_of_cell? _ _ hc1)).trans hc1
                            have c1 : ∀ u : Beyond W6, u.1.cell? (aq.add pp) = some (.slice au ln cu) := fun u => (((hx.trans u.2).cell (p := aq.add pp) (World.block_lt_of_cell? _ _ hcq)).trans hcq)
                            have c2 : ∀ u : Beyond W6, u.1.cell? (af.add n2) = some (.slice au ln cu) := fun u => (((hx.trans u.2).cell (p := af.add n2) (World.block_lt_of_cell? _ _ hcf)).trans hcf)
                            have HQ : Hid (∀ u : Beyond W6, Calls Try.prog 80 #[.slice au ln cu, .slice au ln cu] u.1 fun e w' => e = .returned (.bool true) ∧ Ext u.1 w') := Lib.hid (fun u => by
                              have := sameBytes_any au au ln ln (R2 n2) (R2 n2) cu cu u.1 hln hln ((hrb.ext hx).ext u.2) ((hrb.ext hx).ext u.2) (by omega) (by omega)
                              exact this.mono fun e w' ⟨h, hx⟩ => ⟨by rw [h, eqB_true rfl], hx⟩)
                            have hpm : (pp : Int) < (m : Int) := by omega
                            have hnT2 : (n2 : Int) < (T : Int) := by omega
                            have HX2 := Lib.hid hx
                            have HN2 := Lib.hid hn2
                            clear hrb hcq hcf hln hu hVu hx hn2
                            go_wp2_with fail
                            refine region_beyond_plain hmo (by kernel_rfl) (by kernel_rfl) ?_
                            repeat (gi_big_quiet_step ((gi_at_call 80; with_reducible exact call_beyond (HQ.out _))))
                            refine wpQuietIn_nil ?_
                            rintro _ ⟨⟨w7, hx7⟩, rfl⟩
                            clear c0 c1 c2 hc1
                            go_wp2_with fail
                            go_roundw
                            case rel => exact ⟨pp + 1, by omega, by go_num, by have := HN2.out; subst this; go_num, HX2.out.trans hx7⟩
                            case measure => simp [intOf]; omega
                          · obtain rfl : pp = m := by omega
                            have HX2 := Lib.hid hx
                            have HN2 := Lib.hid hn2
                            clear hx hn2
                            go_wp2_with fail
                            go_roundw
                            case rel => exact ⟨q + 1, by omega, by go_num, by rw [HFS.out, ← HN2.out], HX2.out⟩
                            case measure => simp [intOf]; omega
                      · obtain rfl : N = q := by omega
                        have HX := Lib.hid hx
                        clear hx
                        go_wp2_with fail
                        refine (whole_n G cap N gl cl B BG _ _ vs (fun i => Vs.getD i []) LL _ HVN.out (OWN4.out.ext HX.out) (GO.out.old.ext HX.out) GO.out.len (GO.out.list.ext HX.out) (fun s hs => (GO.out.own s hs).ext HX.out) (fun s hs => (GO.out.marks s hs).keep fun u xs h => h.ext HX.out) GO.out.labs hN (fun i => Nat.le_trans (HVLEN.out i) (by omega))).mono ?_
                        rintro e W8 ⟨rfl, hx8⟩
                        have HT : Hid (Touch (fun k => InRows vs k ∨ InRows V k) w W8) := Lib.hid (((HX1.out.touch.trans (W3T.out.mono fun k _ h => .inr h)).trans (W4T.out.mono fun k _ h => .inl h)).trans (HX.out.trans hx8).touch)
                        clear hx8
                        go_wp2_with fail
                        go_ret
                        exact ⟨rfl, HT.out⟩
end Go.Proofs.Ytemnlcfabaocbaa
/-
  Layer 5: rows that are lent, as a group; their bytes written over in their place.
-/
namespace Go.Proofs.Ytemnlcfabaocbaa
open Go.RowKit Gf
set_option linter.unusedVariables false

theorem Own.cut {w : World} {B : Nat} {T : TypeId} {g n c k : Nat} {xs : List Value} (h : Own w B T (.slice (some ⟨g, 0, none⟩) n c) xs) (hk : k ≤ xs.length) : Own w B T (.slice (some ⟨g, 0, none⟩) k c) (xs.take k) := by
  obtain ⟨cap, cur, e, h1, h2, h3, h4, h5⟩ := h.cellsAt (g := g) rfl
  injection e with e1 e2 e3
  subst e3
  have hl : (xs.take k).length = k := by rw [List.length_take]; omega
  refine ⟨by rw [hl, Nat.mul_one], .inr ⟨g, c, cur, by rw [hl], (h.lt g rfl).1, h1, by rw [hl]; omega, h3, by omega, ?_⟩⟩
  rw [hl, Nat.mul_one]
  rw [← h5, List.take_take, Nat.min_eq_left (by rw [← h5, List.length_take] at hk; omega)]
theorem FarApart.take {V : List Value} (h : FarApart V) (n : Nat) : FarApart (V.take n) := fun i j vi vj hi hj hne => by
  rw [List.getElem?_take] at hi hj
  split at hi
  · split at hj
    · exact h i j vi vj hi hj hne
    · cases hj
  · cases hi
theorem Lent.grp {w : World} {B G cap : Nat} {V : List Value} {rs : List (List E)} (h : Lent w B G cap V rs) : Grp w B w.heap.size (.slice (some ⟨G, 0, none⟩) rs.length cap) (V.take rs.length) rs := by
  have hrow : ∀ (i : Nat) (u : Value), (V.take rs.length)[i]? = some u → Own w B 5 u (bs (rs.getD i [])) := fun i u hi => by
    have hl : i < rs.length := by
      have := (List.getElem?_eq_some_iff.1 hi).1
      rw [List.length_take] at this; omega
    rw [List.getElem?_take_of_lt hl] at hi
    obtain ⟨g, c, h1, h2, h3, h4⟩ := h.rows i hl
    rw [h1] at hi
    injection hi with hi
    subst hi
    have hg : rs.getD i [] = rs[i] := by rw [List.getD_eq_getElem?_getD, List.getElem?_eq_getElem hl]; rfl
    rw [hg]
    have := h2.cut (k := rs[i].length) (by rw [bs_length, List.length_append]; omega)
    rwa [← bs_take, List.take_left] at this
  refine ⟨Span.of (h.list.cut (by rw [h.len]; omega)), by rw [List.length_map, List.length_take, h.len]; omega, fun i u hi => ?_, fun i u g hi hg => ((hrow i u hi).lt g hg).2, h.far.take _⟩
  rw [getD_bs]
  exact hrow i u hi
/-- The rows of a list while they are written over, place by place. -/
structure Xors (w0 w : World) (B G N cap : Nat) (V : List Value) (len : Nat → Nat) : Prop where
  touch : Touch (InRows V) w0 w
  list : Own w B 24 (.slice (some ⟨G, 0, none⟩) N cap) V
  rows : ∃ R : Nat → List E, OwnRows w B 5 V R ∧ ∀ i, (R i).length = len i
section
variable {w0 w w' : World} {B G N cap lo hi : Nat} {V : List Value} {len : Nat → Nat} {rs : List (List E)}
theorem Xors.start (h : Grp w lo hi (.slice (some ⟨G, 0, none⟩) N cap) V rs) : Xors w w lo G N cap V (fun i => (rs.getD i []).length) :=
  ⟨Touch.refl _, h.list.own, fun i => rs.getD i [], ⟨fun i u hi => by rw [← getD_bs]; exact h.rows.rows i u hi⟩, fun _ => rfl⟩
theorem Xors.drewN (h : Xors w0 w B G N cap V len) (n : Nat) : Xors w0 (w.drewN n) B G N cap V len := by
  obtain ⟨R, h1, h2⟩ := h.rows
  exact ⟨h.touch.trans (((Ext.refl w).drewN n).touch), h.list.ext ((Ext.refl w).drewN n), R, h1.ext ((Ext.refl w).drewN n), h2⟩
theorem Xors.at_ (h : Xors w0 w B G N cap V len) {i : Nat} {u : Value} (hi : V[i]? = some u) : ∃ A c, u = .slice A (len i) c ∧ w.cell? ⟨G, i, none⟩ = some (.slice A (len i) c) ∧ (0 < len i → ∃ g, A = some ⟨g, 0, none⟩) := by
  obtain ⟨R, h1, h2⟩ := h.rows
  obtain ⟨A, c, hv, -, -, -, h4⟩ := h1.at_ hi
  rw [h2] at hv h4
  exact ⟨A, c, hv, by rw [h.list.cell hi, hv], h4⟩
theorem Xors.old (h : Xors w0 w B G N cap V len) {i g n c j : Nat} (hi : V[i]? = some (.slice (some ⟨g, 0, none⟩) n c)) (hj : j < len i) : ∃ x : E, w.cell? ⟨g, j, none⟩ = some (.int .u8 (x.val : Int)) := by
  obtain ⟨R, h1, h2⟩ := h.rows
  exact ⟨_, (h1.own i _ hi).cell (bs_get _ j (by rw [h2]; exact hj))⟩
theorem Xors.frozen (h : Xors w0 w B G N cap V len) {i g n c : Nat} (hi : V[i]? = some (.slice (some ⟨g, 0, none⟩) n c)) (j : Nat) : w.frozen? ⟨g, j, none⟩ = false := by
  obtain ⟨R, h1, h2⟩ := h.rows
  exact (h1.own i _ hi).frozen j
theorem Xors.step (h : Xors w0 w B G N cap V len) (hf : FarApart V) {i g n c : Nat} (hi : V[i]? = some (.slice (some ⟨g, 0, none⟩) n c)) (j : Nat) (x : E) : Xors w0 (w.setCell ⟨g, j, none⟩ (.int .u8 (x.val : Int))) B G N cap V len := by
  obtain ⟨R, h1, h2⟩ := h.rows
  refine ⟨h.touch.trans (touch_set w ⟨g, j, none⟩ _ ⟨i, _, hi, rfl⟩), h.list.far (p := ⟨g, j, none⟩) (fun e => ?_) _, _, h1.set hf hi j x, fun k => ?_⟩
  · rcases (h1.own i _ hi).types h.list (by decide) with e1 | e1
    · cases e1
    · exact e1 e.symm
  · by_cases e : k = i
    · subst e; rw [updR_same, List.length_set, h2]
    · rw [updR_other _ _ _ e, h2]
theorem Xors.fin (h : Xors w0 w B G N cap V len) (hN : V.length = N) : ∃ rs : List (List E), rs.length = N ∧ (∀ i, i < N → (rs.getD i []).length = len i) ∧ RdRows w (some ⟨G, 0, none⟩) rs := by
  obtain ⟨R, h1, h2⟩ := h.rows
  refine ⟨(List.range N).map R, by simp, fun i hi => ?_, V, by simp [hN], h.list.rd, fun i r hi => ?_⟩
  · rw [List.getD_eq_getElem?_getD, List.getElem?_map, List.getElem?_range hi]; exact h2 i
  · have hlt : i < N := by have := (List.getElem?_eq_some_iff.1 hi).1; simpa using this
    rw [List.getElem?_map, List.getElem?_range hlt] at hi
    simp at hi
    subst hi
    obtain ⟨A, c, hv, k1, k2, k3, -⟩ := h1.at_ (List.getElem?_eq_getElem (show i < V.length by rw [hN]; exact hlt))
    exact ⟨A, c, by rw [List.getElem?_eq_getElem (by rw [hN]; exact hlt), hv], k1, k2, k3⟩
end
theorem rows_bound {rs : List (List E)} {N X : Nat} {len : Nat → Nat} (hN : rs.length = N) (h : ∀ i, i < N → (rs.getD i []).length = len i) (hl : ∀ i, len i ≤ X) : ∀ r ∈ rs, r.length ≤ X := fun r hr => by
  obtain ⟨i, hi⟩ := List.mem_iff_getElem?.1 hr
  have hlt : i < rs.length := (List.getElem?_eq_some_iff.1 hi).1
  have := h i (by omega)
  rw [List.getD_eq_getElem?_getD, hi] at this
  rw [show r.length = len i from this]
  exact hl i
theorem getR_len {rs : List (List E)} {n : Nat} (h : ∀ r ∈ rs, r.length ≤ n) (i : Nat) : (rs.getD i []).length ≤ n := by
  rw [List.getD_eq_getElem?_getD]
  cases e : rs[i]? with
  | none => simp
  | some r => exact h r (List.mem_of_getElem? e)
theorem xor1 (x : E) : bits .xor .u8 (x.val : Int) 1 = ((x + E.of 1).val : Int) := by
  have := bits_u8_xor x (E.of 1)
  rwa [show ((E.of 1).val : Int) = 1 from by rw [E.val_of (by omega)]; rfl] at this
theorem xor2 (x : E) : bits .xor .u8 (x.val : Int) 2 = ((x + E.of 2).val : Int) := by
  have := bits_u8_xor x (E.of 2)
  rwa [show ((E.of 2).val : Int) = 2 from by rw [E.val_of (by omega)]; rfl] at this
end Go.Proofs.Ytemnlcfabaocbaa
