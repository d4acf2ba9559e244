/-
  Texts of mine, merged: Enc Hurt0 Hurt1 Hurt2 HalfP HalfW OpenU3.
-/
import Derived.Test.YtemnlcfabaocbaaG9
import Derived.Test.YtemnlcfabaocbaaG12
/-
  Layer 5: rows of a code from data of any lengths (the laws' encoded).
-/
namespace Go.Proofs.Ytemnlcfabaocbaa
open Go.RowKit Gf
set_option maxRecDepth 20000
set_option linter.unusedVariables false

/-- A row of that length, cut or filled up with zeros. -/
def padR (L : Nat) (r : List E) : List E := r.take L ++ List.replicate (L - r.length) 0
theorem padR_length (L : Nat) (r : List E) : (padR L r).length = L := by simp [padR]; omega
theorem padR_same {L : Nat} {r : List E} (h : r.length = L) : padR L r = r := by
  subst h; simp [padR]
section
variable {P : Program} {w : World}
/-- copy into a new row of zeros. -/
theorem wpList_copyPad {t e : TypeId} {bytes : Nat} (E : Elt P t e (.int .u8 0) bytes) {ops : Array Oper} {rest : List Oper} {o : Oper} {a : Act} {Q : Exit → Act → World → Prop} (hgd : o.guard = none) (d s : Operand)
    (ho : o.op = .call { callee := .builtin .copy, args := #[d, s], argTypes := #[t, t] })
    (g N cap : Nat) (T : TypeId) (hb : Blk w g T (zrow (.int .u8 0) N)) (hd : a.eval d = .slice (some ⟨g, 0, none⟩) N cap)
    (A : Option Addr) (n c : Nat) (r : List Gf.E) (hs : a.eval s = .slice A n c) (hr : Rd w A (bs r)) (hn : r.length = n)
    (B : Nat) (w0 : World) (hbel : Below B w0 w) (hBg : B ≤ g) (hN : N ≤ maxLen)
    (h : ∀ w' k, Own w' B T (.slice (some ⟨g, 0, none⟩) N N) (bs (padR N r)) → Below B w0 w' → wpList P ops Q rest (a.put o.dst (goInt k)) w') : wpList P ops Q (o :: rest) a w := by
  obtain ⟨i, hi, _, hs1, _⟩ := E.info
  subst hn
  refine wpList_copy_splice hgd d s t t ho e E.ty (by rw [hi, Option.map_some, hs1]) (some ⟨g, 0, none⟩) A N cap r.length c hd hs g 0 (zrow (.int .u8 0) N).toList T (by simpa [Blk] using hb) (bs (r.take N)) ?_ ?_ ?_ (bs_ones _) B w0 hbel hBg ?_
  · rw [bs_length, List.length_take, Nat.min_comm]
  · intro hp
    rw [bs_length, List.length_take] at hp
    obtain ⟨ad, hA, hc⟩ := hr (by rw [bs_length]; omega)
    refine ⟨rfl, ad, hA, fun j v hj => hc j v ?_⟩
    rw [bs_take, List.getElem?_take] at hj
    split at hj
    · exact hj
    · cases hj
  · rw [bs_length, List.length_take, zrow_list, List.length_replicate]; omega
  · intro w' hg hbel'
    refine h w' _ ?_ hbel'
    have hg := hg.out
    have hbk : Blk w' g T (splice (zrow (.int .u8 0) N).toList 0 (bs (r.take N))).toArray := hg
    have hl : splice (zrow (.int .u8 0) N).toList 0 (bs (r.take N)) = bs (padR N r) := by
      rw [zrow_list]
      simp only [splice, List.take_zero, List.nil_append, Nat.zero_add, padR, bs_append]
      rw [bs_length, List.length_take, List.drop_replicate]
      congr 1
      rw [bs, List.map_replicate, show N - min N r.length = N - r.length by omega]
      rfl
    rw [hl] at hbk
    have := hbk.own (B := B) (n := N) (cap := N) hBg (Nat.le_refl _) hN (by rw [List.size_toArray, bs_length, padR_length])
    rw [List.take_of_length_le (by rw [bs_length, padR_length]; exact Nat.le_refl _)] at this
    exact this
end
/-- Which data are spoken of. -/
def GoodS (N : Nat) (M : Int) (data : List (List E)) : Prop := 1 ≤ N ∧ 1 ≤ M ∧ M ≤ N ∧ (N : Int) + M ≤ 255 ∧ (data.getD 0 []).length ≠ 0
def firstL (data : List (List E)) : Nat := (data.getD 0 []).length
/-- The rows of the data. -/
def encS (N m : Nat) (data : List (List E)) : List (List E) := encM N (N + m) (firstL data) (data.map (padR (firstL data)))
/-- What encoded answers. -/
def EncOut (N : Nat) (M : Int) (data : List (List E)) (w : World) (e : Ending) (w' : World) : Prop :=
  (¬ GoodS N M data ∧ e = .returned (.slice none 0 0) ∧ Ext w w') ∨
  (∃ m g c, GoodS N M data ∧ M = ((m : Nat) : Int) ∧ e = .returned (.slice (some ⟨g, 0, none⟩) (N + m) c) ∧ RowsOut w' w.heap.size (.slice (some ⟨g, 0, none⟩) (N + m) c) (encS N m data) ∧ Ext w w')
/-- The rows of a length while they are made. -/
structure Padding (w wr : World) (L : Nat) (data : List (List E)) (q : Nat) (v : Value) (V : List Value) : Prop where
  ext : Ext w wr
  len : V.length = q
  list : Own wr w.heap.size 24 v V
  rows : ∀ (i : Nat) (u : Value), V[i]? = some u → Own wr w.heap.size 5 u (bs (padR L (data.getD i [])))
theorem Padding.rd {w wr : World} {L : Nat} {data : List (List E)} {v : Value} {V : List Value} (h : Padding w wr L data data.length v V) : ∃ A c, v = .slice A data.length c ∧ RdRows wr A (data.map (padR L)) := by
  obtain ⟨A, c, rfl, h1, h2, h3, -⟩ := h.list.slice
  rw [h.len]
  refine ⟨A, c, rfl, V, by rw [h.len, List.length_map], h1, fun i r hi => ?_⟩
  have hlt : i < V.length := by rw [h.len]; have := (List.getElem?_eq_some_iff.1 hi).1; rwa [List.length_map] at this
  have h4 := h.rows i V[i] (List.getElem?_eq_getElem hlt)
  have hr : padR L (data.getD i []) = r := by
    rw [List.getElem?_map, List.getElem?_eq_getElem (by rw [← h.len]; exact hlt)] at hi
    rw [List.getD_eq_getElem?_getD, List.getElem?_eq_getElem (by rw [← h.len]; exact hlt)]
    exact Option.some.inj hi
  rw [hr] at h4
  obtain ⟨A', c', hv, k1, k2, k3, -⟩ := h4.slice
  rw [bs_length] at hv k2
  exact ⟨A', c', by rw [List.getElem?_eq_getElem hlt, hv], k1, k2, k3⟩
set_option maxHeartbeats 8000000 in
theorem encoded_n (A : Option Addr) (N ca : Nat) (M : Int) (v2 v3 : Value) (data : List (List E)) (w : World) (hN : data.length = N) (hr : RdRows w A data) (hwm : (Lit.int .i64 M).wf = true) (hN2 : N ≤ 1048576) (hb : ∀ r ∈ data, r.length ≤ 1048576)
    (hv2 : ∃ B n c, v2 = .slice B n c) (hv3 : ∃ B n c, v3 = .slice B n c) :
    Calls Try.prog 78 #[.agg #[.slice A N ca, .int .i64 M, v2, v3]] w (EncOut N M data w) := by
  obtain ⟨B2, n2, c2, rfl⟩ := hv2
  obtain ⟨B3, n3, c3, rfl⟩ := hv3
  have HN := Lib.hid hN
  have HB := Lib.hid hb
  have HR := Lib.hid hr
  obtain ⟨wb, hwb⟩ : ∃ wb, wb = w.alloc (.cells #[.slice A N ca, .int .i64 M, .slice B2 n2 c2, .slice B3 n3 c3] 96) := ⟨_, rfl⟩
  have BK : Hid (Blk wb w.heap.size 96 #[.slice A N ca, .int .i64 M, .slice B2 n2 c2, .slice B3 n3 c3]) := Lib.hid (by rw [hwb]; exact Blk.new _ _ _)
  have Y : Hid (Ext w wb) := Lib.hid (by rw [hwb]; exact (Ext.refl w).alloc _)
  have q0 : World.cell? wb ⟨w.heap.size, 0, none⟩ = some (.slice A N ca) := BK.out.cell 0
  have q1 : World.cell? wb ⟨w.heap.size, 1, none⟩ = some (.int .i64 M) := BK.out.cell 1
  rw [hwb] at q0 q1
  have HWB := Lib.hid hwb
  clear hN hb hr hwb
  rcases (show N < 1 ∨ 1 ≤ N by omega) with h1 | h1
  · have d1 : decide ((N : Int) < 1) = true := decide_eq_true (by omega)
    go_enter Try.func78, Try.ntmps78
    go_wp2_with fail
    go_ret
    exact .inl ⟨fun h => by have := h.1; omega, rfl, by rw [← HWB.out]; exact Y.out⟩
  have d1 : decide ((N : Int) < 1) = false := decide_eq_false (by omega)
  rcases (show M < 1 ∨ 1 ≤ M by omega) with h2 | h2
  · have d2 : decide (M < 1) = true := decide_eq_true (by omega)
    go_enter Try.func78, Try.ntmps78
    go_wp2_with fail
    go_ret
    exact .inl ⟨fun h => by have := h.2.1; omega, rfl, by rw [← HWB.out]; exact Y.out⟩
  obtain ⟨m, rfl⟩ := Int.eq_ofNat_of_zero_le (show 0 ≤ M by omega)
  have d2 : decide ((m : Int) < 1) = false := decide_eq_false (by omega)
  rcases (show N < m ∨ m ≤ N by omega) with h3 | h3
  · have d3 : decide ((N : Int) < (m : Int)) = true := decide_eq_true (by omega)
    go_enter Try.func78, Try.ntmps78
    go_wp2_with fail
    go_ret
    exact .inl ⟨fun h => by have := h.2.2.1; omega, rfl, by rw [← HWB.out]; exact Y.out⟩
  have d3 : decide ((N : Int) < (m : Int)) = false := decide_eq_false (by omega)
  have d3n : decide (N < m) = false := decide_eq_false (by omega)
  rcases (show 255 < N + m ∨ N + m ≤ 255 by omega) with h4 | h4
  · have d4 : decide (255 < (N : Int) + (m : Int)) = true := decide_eq_true (by omega)
    go_enter Try.func78, Try.ntmps78
    go_wp2_with fail
    go_ret
    exact .inl ⟨fun h => by have := h.2.2.2.1; omega, rfl, by rw [← HWB.out]; exact Y.out⟩
  have d4 : decide (255 < (N : Int) + (m : Int)) = false := decide_eq_false (by omega)
  have hd0 : 0 < data.length := by rw [HN.out]; omega
  obtain ⟨ad, D0, e0, hA, hz0, -, -, -⟩ := HR.out.at_ hd0
  subst hA
  rw [add_zero'] at hz0
  have hfl : data[0].length = firstL data := by rw [firstL, List.getD_eq_getElem?_getD, List.getElem?_eq_getElem hd0]; rfl
  obtain ⟨L, hL⟩ : ∃ L, L = firstL data := ⟨_, rfl⟩
  have hLb : L ≤ 1048576 := by rw [hL, ← hfl]; exact HB.out _ (List.getElem_mem hd0)
  rw [hfl, ← hL] at hz0
  have HL := Lib.hid hL
  have hz0b : wb.cell? ad = some (.slice D0 L e0) := Y.out.cell (World.block_lt_of_cell? _ _ hz0) ▸ hz0
  have hz1 := hz0b
  rw [HWB.out] at hz1
  have hN0 : (0 : Int) < (N : Int) := by omega
  clear hL hfl
  rcases (show L = 0 ∨ 0 < L by omega) with h5 | h5
  · subst h5
    go_enter Try.func78, Try.ntmps78
    go_wp2_with fail
    go_ret
    exact .inl ⟨fun h => h.2.2.2.2 HL.out.symm, rfl, by rw [← HWB.out]; exact Y.out⟩
  have g5 : ((L : Int) == 0) = false := by rw [beq_eq_false_iff_ne]; omega
  have HG : Hid (GoodS N (m : Int) data) := Lib.hid ⟨by omega, by omega, by omega, by omega, by have := HL.out; rw [firstL] at this; omega⟩
  have hmkL : ∀ w, (Instr.makeSlice 24 (.int .i64 (L : Int)) (.int .i64 (L : Int))).run Try.prog w = .ok (.slice (some ⟨w.heap.size, 0, none⟩) L L) (w.alloc (.cells (zrow (.int .u8 0) L) 5)) := fun w => run_make_elt eltU8 _ _ L (by omega) w
  go_enter Try.func78, Try.ntmps78
  go_wp2_with fail
  rw [← HWB.out]
  clear q0 q1 hz1
  go_loopw [4, 5] (fun v i wr => ∃ (q : Nat) (v' : Value) (V : List Value), v' = v ∧ q ≤ N ∧ i = .int .i64 q ∧ Padding wb wr L data q v' V) (fun _ i _ => N - (intOf i).toNat)
  case atStart => exact ⟨0, _, [], rfl, by omega, rfl, Ext.refl _, rfl, Own.nil _ _ _, fun i u h => by simp at h⟩
  case round =>
    obtain ⟨W, rfl⟩ : ∃ W, W = wr := ⟨_, rfl⟩
    obtain ⟨q, v, V, rfl, hq, rfl, hC⟩ := hrel
    have hz : W.cell? ad = some (.slice D0 L e0) := hC.ext.cell (World.block_lt_of_cell? _ _ hz0b) ▸ hz0b
    have q0 : World.cell? W ⟨w.heap.size, 0, none⟩ = some (.slice (some ad) N ca) := (BK.out.below hC.ext BK.out.lt).cell 0
    have q1 : World.cell? W ⟨w.heap.size, 1, none⟩ = some (.int .i64 (m : Int)) := (BK.out.below hC.ext BK.out.lt).cell 1
    by_cases hlt : q < N
    · have hqd : q < data.length := by rw [HN.out]; exact hlt
      obtain ⟨ad', D1, e1, hA, hz2, hr2, -, -⟩ := (HR.out.ext (Y.out.trans hC.ext)).at_ hqd
      cases hA
      have hqN : (q : Int) < (N : Int) := by omega
      have hxa : Ext W (W.alloc (.cells (zrow (.int .u8 0) L) 5)) := (Ext.refl W).alloc _
      have p0 : (W.alloc (.cells (zrow (.int .u8 0) L) 5)).cell? ⟨w.heap.size, 0, none⟩ = some (.slice (some ad) N ca) := hxa.cell (World.block_lt_of_cell? _ _ q0) ▸ q0
      have p2 : (W.alloc (.cells (zrow (.int .u8 0) L) 5)).cell? (ad.add q) = some (.slice D1 data[q].length e1) := hxa.cell (World.block_lt_of_cell? _ _ hz2) ▸ hz2
      have HR2 := Lib.hid (hr2.ext hxa)
      have HC := Lib.hid hC
      obtain ⟨Av, nv, cv, rfl⟩ : ∃ A n c, v = Value.slice A n c := by obtain ⟨A, c, h⟩ := hC.list.anySlice; exact ⟨_, _, _, h⟩
      have hgd : data.getD q [] = data[q] := by rw [List.getD_eq_getElem?_getD, List.getElem?_eq_getElem hqd]; rfl
      have HGD := Lib.hid hgd
      clear hr2 hC hgd hz2
      go_wp2_with (with_reducible refine wpList_copyPad eltU8 rfl _ _ rfl W.heap.size L L 5 (Blk.new _ _ _) rfl D1 data[q].length e1 data[q] rfl HR2.out rfl W.heap.size W (Below.alloc (Below.refl _ _) (Nat.le_refl _) _) (Nat.le_refl _) (by simp only [maxLen]; omega) ?_)
      intro w1 kk ho hbl
      have hx1 : Ext W w1 := hbl
      have hV1 := HC.out.list.ext hx1
      have hle1 : wb.heap.size ≤ w1.heap.size := (HC.out.ext.trans hx1).le
      have hbd2 : (V.length + 1) * 24 ≤ 140737488355328 := by rw [HC.out.len]; omega
      have HO := Lib.hid ho
      have HX := Lib.hid hx1
      have q0 : World.cell? w1 ⟨w.heap.size, 0, none⟩ = some (.slice (some ad) N ca) := (BK.out.below (HC.out.ext.trans hx1) BK.out.lt).cell 0
      clear ho hbl hx1 p0 p2
      go_wp2_with (at_builtin; refine wpList_push2 w1 eltRowU8 rfl _ _ (by rfl) wb.heap.size (.slice Av nv cv) _ (by rfl) (by exact hV1) (.slice (some ⟨W.heap.size, 0, none⟩) L L) w1.heap.size rfl (by rfl) rfl hbd2 hle1 ?_)
      intro v2 w3 k1 k2 k3 k4
      have HP : Hid (Padding wb w3 L data (q + 1) v2 (V ++ [.slice (some ⟨W.heap.size, 0, none⟩) L L])) := Lib.hid (by
        have hV1' := hV1.alloc (.cells #[.slice (some ⟨W.heap.size, 0, none⟩) L L] 24)
        have hu1 := HO.out.alloc (.cells #[.slice (some ⟨W.heap.size, 0, none⟩) L L] 24)
        refine ⟨(HC.out.ext.trans HX.out).below.trans k3, by simp [HC.out.len], k1, fun i u hu => ?_⟩
        rcases Nat.lt_trichotomy i V.length with h1 | h1 | h1
        · rw [List.getElem?_append_left h1] at hu
          have := ((HC.out.rows i u hu).ext HX.out).alloc (.cells #[.slice (some ⟨W.heap.size, 0, none⟩) L L] 24)
          exact this.kept k2.grown (this.types hV1' (by decide))
        · subst h1
          rw [List.getElem?_append_right (Nat.le_refl _)] at hu
          simp at hu
          subst hu
          rw [HC.out.len, HGD.out]
          exact (hu1.kept k2.grown (hu1.types hV1' (by decide))).mono HC.out.ext.le
        · rw [List.getElem?_eq_none (by simp; omega)] at hu; cases hu)
      clear k1 k2 k3 k4 hV1 hle1 hbd2 q0
      go_wp2_with fail
      go_roundw
      case rel => exact ⟨q + 1, v2, _, rfl, by omega, by go_num, HP.out⟩
      case measure => simp [intOf]; omega
    · obtain rfl : q = N := by omega
      have HQD : q = data.length := HN.out.symm
      have hC' : Padding wb W L data data.length v V := by rw [← HQD]; exact hC
      obtain ⟨Ad, cd, rfl, hrd⟩ := hC'.rd
      rw [HN.out]
      have HRD := Lib.hid hrd
      have HX := Lib.hid (Y.out.trans hC.ext)
      clear hC hC' hrd HQD hz
      go_wp2_with fail
      refine (new_n q m _ (by omega) h3 h4).mono ?_
      rintro e W4 ⟨g, rfl, hcode, hx4⟩
      have HCODE := Lib.hid hcode
      have HX4 := Lib.hid (HX.out.trans hx4)
      have HRD4 := Lib.hid (HRD.out.ext hx4)
      clear hcode hx4
      go_wp2_with (go_at_call 64; with_reducible refine (num5_any 0 (by decide) _).mono ?_; rintro e w' ⟨rfl, rfl⟩)
      refine (encode_n g q (q + m) Ad cd L (data.map (padR L)) _ HCODE.out (by rw [List.length_map, HN.out]) HRD4.out (fun r hr => by
        obtain ⟨r', -, rfl⟩ := List.mem_map.1 hr
        exact padR_length L r') (by omega) h5 h4 (by omega) (by omega)).mono ?_
      rintro e W5 ⟨v5, rfl, ho5, hx5⟩
      obtain ⟨A5, c5, rfl, hr5, -, -⟩ := ho5.rd
      have hlen5 : (encM q (q + m) L (data.map (padR L))).length = q + m := encM_length _ _ _ _
      rw [hlen5] at ho5 ⊢
      obtain ⟨av5, -, -, hA5, -⟩ := hr5.at_ (show 0 < (encM q (q + m) L (data.map (padR L))).length by rw [hlen5]; omega)
      subst hA5
      have hgv : ∃ g5, av5 = ⟨g5, 0, none⟩ := by
        obtain ⟨V5, k1, k2, -⟩ := ho5.vals
        obtain ⟨g5, cap5, e5, -⟩ := k1.some_ (fun e => by rw [e, hlen5] at k2; simp at k2; omega)
        injection e5 with e5
        injection e5 with e5
        exact ⟨g5, e5⟩
      obtain ⟨g5, rfl⟩ := hgv
      have hsz : w.heap.size ≤ W4.heap.size := HX4.out.le
      have HFIN : Hid (RowsOut W5 w.heap.size (.slice (some ⟨g5, 0, none⟩) (q + m) c5) (encS q m data) ∧ Ext w W5) := Lib.hid ⟨by
        rw [encS, ← HL.out]
        obtain ⟨V5, k1, k2, k3, k4⟩ := ho5.vals
        exact ⟨V5, k1.mono hsz, k2, fun i u hu => (k3 i u hu).mono hsz, k4⟩, HX4.out.trans hx5⟩
      clear ho5 hr5 hx5 hlen5 hsz
      go_wp2_with (go_at_call 64; with_reducible refine (num5_any 0 (by decide) _).mono ?_; rintro e w' ⟨rfl, rfl⟩)
      go_ret
      exact .inr ⟨m, g5, c5, HG.out, rfl, rfl, HFIN.out.1, HFIN.out.2⟩
end Go.Proofs.Ytemnlcfabaocbaa
/-
  Layer 5: sameBytes only draws; what is known of rows while they are spoilt.
-/
namespace Go.Proofs.Ytemnlcfabaocbaa
open Go.RowKit Gf
set_option maxRecDepth 20000
set_option linter.unusedVariables false

def SameQ (xs ys : List E) (w : World) (e : Ending) (w' : World) : Prop := e = .returned (.bool (eqB xs ys)) ∧ ∃ k, w' = w.drewN k
set_option maxHeartbeats 1000000 in
theorem sameBytes_q (A B : Option Addr) (n m : Nat) (xs ys : List E) (ca cb : Nat) (w : World) (hn : xs.length = n) (hm : ys.length = m) (hr : Rd w A (bs xs)) (hs : Rd w B (bs ys)) (hlen : n ≤ 9000000000000000000) (hlen2 : m ≤ 9000000000000000000) :
    Calls Try.prog 80 #[.slice A n ca, .slice B m cb] w (SameQ xs ys w) := by
  subst hn
  subst hm
  by_cases hl : xs.length = ys.length
  case neg =>
    have d : ((xs.length : Int) != (ys.length : Int)) = true := by rw [bne_iff_ne]; omega
    have HL := Lib.hid hl
    clear hl
    go_enter Try.func80, Try.ntmps80
    go_wp2
    go_ret
    exact ⟨ret_bool (eqB_false (fun e => HL.out (by rw [e]))).symm, 0, rfl⟩
  have d : ((xs.length : Int) != (ys.length : Int)) = false := by rw [bne_eq_false_iff_eq]; omega
  have HL := Lib.hid hl
  clear hl
  go_enter Try.func80, Try.ntmps80
  go_wp2_with fail
  go_loopw [5] (fun i wr => ∃ k a : Nat, k ≤ xs.length ∧ i = .int .i64 k ∧ wr = w.drewN a ∧ xs.take k = ys.take k) (fun i _ => xs.length - (intOf i).toNat)
  case atStart => exact ⟨0, 0, by omega, rfl, rfl, rfl⟩
  case round =>
    obtain ⟨k, a, hk, rfl, rfl, ht⟩ := hrel
    have HT := Lib.hid ht
    clear ht
    by_cases hlt : k < xs.length
    · have hlt2 : k < ys.length := by rw [← HL.out]; exact hlt
      obtain ⟨ad, rfl, hc1⟩ := hr.byte hlt
      obtain ⟨bd, rfl, hc2⟩ := hs.byte hlt2
      have hl0 : (0 : Int) ≤ (k : Int) := by omega
      have hl1 : (k : Int) < (xs.length : Int) := by omega
      have hl2 : (k : Int) < (ys.length : Int) := by omega
      have hv1 := (xs[k]).lt
      have hv2 := (ys[k]).lt
      by_cases he : xs[k] = ys[k]
      · have hb : (((xs[k]).val : Int) != ((ys[k]).val : Int)) = false := by rw [he]; simp
        have HT2 := Lib.hid (take_same hlt HL.out HT.out he)
        clear he
        go_wp2_with fail
        go_quiet (fail)
        go_wp2
        go_roundw
        case rel => exact ⟨k + 1, a + nq, by omega, by go_num, by first | rfl | (rw [World.drewN_drewN]) | simp, HT2.out⟩
        case measure => simp [intOf]; omega
      · have hb : (((xs[k]).val : Int) != ((ys[k]).val : Int)) = true := by
          rw [bne_iff_ne]
          intro e
          exact he (E.ext (by omega))
        have HE : Hid (xs ≠ ys) := Lib.hid (fun e => he (by subst e; rfl))
        clear he
        go_wp2_with fail
        go_quiet (fail)
        go_wp2
        go_ret
        exact ⟨ret_bool (eqB_false HE.out).symm, a + nq, by first | rfl | (rw [World.drewN_drewN]) | simp⟩
    · obtain rfl : k = xs.length := by omega
      have HE : Hid (xs = ys) := Lib.hid (by
        have h := HT.out
        rwa [List.take_length, List.take_of_length_le (by rw [HL.out]; exact Nat.le_refl _)] at h)
      go_wp2
      go_ret
      exact ⟨ret_bool (eqB_true HE.out).symm, a, rfl⟩
end Go.Proofs.Ytemnlcfabaocbaa
/-
  Layer 5: what is known of rows while they are spoilt.
-/
namespace Go.Proofs.Ytemnlcfabaocbaa
open Go.RowKit Gf
set_option maxRecDepth 20000
set_option linter.unusedVariables false

/-- Rows copied into memory of their own, q of them. -/
structure Copying (w wr : World) (rs : List (List E)) (q : Nat) (v : Value) (V : List Value) : Prop where
  ext : Ext w wr
  len : V.length = q
  list : Own wr w.heap.size 24 v V
  rows : ∀ (i : Nat) (u : Value), V[i]? = some u → Own wr w.heap.size 5 u (bs (rs.getD i []))
  far : FarApart V
theorem Copying.hang {w W w1 w2 : World} {rs : List (List E)} {q : Nat} {v v2 : Value} {V : List Value} {A1 : Option Addr} {n1 cu : Nat} (h : Copying w W rs q v V) (hx1 : Ext W w1) (ho : Own w1 W.heap.size 5 (.slice A1 n1 cu) (bs (rs.getD q [])))
    (k1 : Own w2 w.heap.size 24 v2 (V ++ [.slice A1 n1 cu])) (k2 : Moved (w1.alloc (.cells #[.slice A1 n1 cu] 24)) w2 v v2) (k3 : Below w.heap.size w1 w2) : Copying w w2 rs (q + 1) v2 (V ++ [.slice A1 n1 cu]) := by
  have hV1 := h.list.ext hx1
  have hu1 : Own (w1.alloc (.cells #[.slice A1 n1 cu] 24)) W.heap.size 5 (.slice A1 n1 cu) (bs (rs.getD q [])) := ho.alloc _
  have hV1' := hV1.alloc (.cells #[.slice A1 n1 cu] 24)
  have hle := h.ext.le
  refine ⟨(h.ext.trans hx1).below.trans k3, by simp [h.len], k1, fun i u hi => ?_, h.far.snoc fun i u hi => ?_⟩
  · rcases Nat.lt_trichotomy i V.length with h1 | h1 | h1
    · rw [List.getElem?_append_left h1] at hi
      have := ((h.rows i u hi).ext hx1).alloc (.cells #[.slice A1 n1 cu] 24)
      exact this.kept k2.grown (this.types hV1' (by decide))
    · subst h1
      rw [List.getElem?_append_right (Nat.le_refl _)] at hi
      simp at hi
      subst hi
      rw [h.len]
      exact (hu1.kept k2.grown (hu1.types hV1' (by decide))).mono hle
    · rw [List.getElem?_eq_none (by simp; omega)] at hi; cases hi
  · have hu0 := h.rows i u hi
    have hne : ∀ g g', u.ownBlock = some g → (Value.slice A1 n1 cu).ownBlock = some g' → g ≠ g' := fun g g' e e' => by
      have := (hu0.lt g e).2
      have := (ho.lt g' e').1
      omega
    constructor
    · cases e : u.ownBlock with
      | none => exact .inl rfl
      | some g => exact .inr fun e' => hne g g e e'.symm rfl
    · cases e : (Value.slice A1 n1 cu).ownBlock with
      | none => exact .inl rfl
      | some g => exact .inr fun e' => hne g g e'.symm e rfl
/-- Spoilt rows: which are lost; the others are of the length they were of. -/
structure HSt (w wr : World) (n L go cap gl gt : Nat) (V : List Value) (os : Nat → List E) (Ls Os : List Bool) : Prop where
  ext : Ext w wr
  len : V.length = n
  list : Own wr w.heap.size 24 (.slice (some ⟨go, 0, none⟩) n cap) V
  rows : OwnRows wr w.heap.size 5 V os
  far : FarApart V
  lost : Own wr w.heap.size 4 (.slice (some ⟨gl, 0, none⟩) n n) (bools Ls)
  oth : Own wr w.heap.size 4 (.slice (some ⟨gt, 0, none⟩) n n) (bools Os)
  ne : gl ≠ gt
  shape : ∀ i, i < n → (Ls.getD i false = true ∧ os i = []) ∨ (Ls.getD i false = false ∧ (os i).length = L)
section
variable {w wr w2 : World} {n L go cap gl gt : Nat} {V : List Value} {os : Nat → List E} {Ls Os : List Bool}
theorem HSt.beyond (h : HSt w wr n L go cap gl gt V os Ls Os) (hx : Ext wr w2) : HSt w w2 n L go cap gl gt V os Ls Os :=
  ⟨h.ext.trans hx, h.len, h.list.ext hx, ⟨fun i v hi => (h.rows.own i v hi).ext hx⟩, h.far, h.lost.ext hx, h.oth.ext hx, h.ne, h.shape⟩
theorem own_ge {B : Nat} {T : TypeId} {g m c : Nat} {xs : List Value} (h : Own wr B T (.slice (some ⟨g, 0, none⟩) m c) xs) : B ≤ g := (h.lt g rfl).1
theorem HSt.mark (h : HSt w wr n L go cap gl gt V os Ls Os) (i : Nat) (b : Bool) : HSt w (wr.setCell ⟨gt, i, none⟩ (.bool b)) n L go cap gl gt V os Ls (Os.set i b) := by
  refine ⟨h.ext.new (p := ⟨gt, i, none⟩) (own_ge h.oth) _, h.len, h.list.far (p := ⟨gt, i, none⟩) (ne_some (h.list.types h.oth (by decide))) _, ⟨fun j v hj => (h.rows.own j v hj).far (p := ⟨gt, i, none⟩) (ne_some ((h.rows.own j v hj).types h.oth (by decide))) _⟩, h.far,
    h.lost.far (p := ⟨gt, i, none⟩) (by simp only [Value.ownBlock, ne_eq, Option.some.injEq]; exact h.ne) _, ?_, h.ne, h.shape⟩
  have := h.oth.set i (.bool b)
  rwa [bools_set] at this
theorem HSt.put (h : HSt w wr n L go cap gl gt V os Ls Os) {i g m c : Nat} (hV : V[i]? = some (.slice (some ⟨g, 0, none⟩) m c)) (j : Nat) (x : E) : HSt w (wr.setCell ⟨g, j, none⟩ (.int .u8 (x.val : Int))) n L go cap gl gt V (updR os i ((os i).set j x)) Ls Os := by
  have hr := h.rows.own i _ hV
  refine ⟨h.ext.new (p := ⟨g, j, none⟩) (own_ge hr) _, h.len, h.list.far (p := ⟨g, j, none⟩) (ne_some (h.list.types hr (by decide))) _, h.rows.set h.far hV j x, h.far, h.lost.far (p := ⟨g, j, none⟩) (ne_some (h.lost.types hr (by decide))) _, h.oth.far (p := ⟨g, j, none⟩) (ne_some (h.oth.types hr (by decide))) _, h.ne, fun k hk => ?_⟩
  by_cases e : k = i
  · subst e
    rw [updR_same]
    rcases h.shape k hk with ⟨h1, h2⟩ | ⟨h1, h2⟩
    · left; rw [h2]; exact ⟨h1, rfl⟩
    · right; rw [List.length_set]; exact ⟨h1, h2⟩
  · rw [updR_other _ _ _ e]; exact h.shape k hk
theorem HSt.lose (h : HSt w wr n L go cap gl gt V os Ls Os) {i : Nat} (hi : i < n) : HSt w ((wr.setCell ⟨gl, i, none⟩ (.bool true)).setCell ⟨go, i, none⟩ (.slice none 0 0)) n L go cap gl gt (V.set i (.slice none 0 0)) (updR os i []) (Ls.set i true) Os := by
  have hLl : Ls.length = n := by have := h.lost.len; rw [bools_length] at this; exact this.symm
  have h1 : ∀ {T : TypeId} {v : Value} {xs : List Value}, T ≠ 4 → Own wr w.heap.size T v xs → Own (wr.setCell ⟨gl, i, none⟩ (.bool true)) w.heap.size T v xs := fun hT ho => ho.far (p := ⟨gl, i, none⟩) (ne_some (ho.types h.lost hT)) _
  have hl := h1 (by decide) h.list
  have hlo := h.lost.set i (.bool true)
  rw [bools_set] at hlo
  have hot := h.oth.far (p := ⟨gl, i, none⟩) (by simp only [Value.ownBlock, ne_eq, Option.some.injEq]; exact fun e => h.ne e.symm) (.bool true)
  have h2 : ∀ {T : TypeId} {v : Value} {xs : List Value}, T ≠ 24 → Own (wr.setCell ⟨gl, i, none⟩ (.bool true)) w.heap.size T v xs → Own ((wr.setCell ⟨gl, i, none⟩ (.bool true)).setCell ⟨go, i, none⟩ (.slice none 0 0)) w.heap.size T v xs := fun hT ho => ho.far (p := ⟨go, i, none⟩) (ne_some (ho.types hl hT)) _
  have hil : i < V.length := by rw [h.len]; exact hi
  have old : ∀ j u, j ≠ i → (V.set i (.slice none 0 0))[j]? = some u → V[j]? = some u := fun j u e hu => by rwa [List.getElem?_set_ne (fun h => e h.symm)] at hu
  refine ⟨(h.ext.new (p := ⟨gl, i, none⟩) (own_ge h.lost) _).new (p := ⟨go, i, none⟩) (own_ge h.list) _, by rw [List.length_set]; exact h.len, hl.set i _, ⟨fun j u hj => ?_⟩, fun j l a b ha hb hne => ?_, h2 (by decide) hlo, h2 (by decide) hot, h.ne, fun k hk => ?_⟩
  · by_cases e : j = i
    · subst e
      rw [List.getElem?_set_self hil] at hj; cases hj
      rw [updR_same]; exact Own.nil _ _ _
    · rw [updR_other _ _ _ e]
      exact h2 (by decide) (h1 (by decide) (h.rows.own j u (old j u e hj)))
  · by_cases e1 : j = i
    · subst e1
      rw [List.getElem?_set_self hil] at ha; cases ha
      left; rfl
    · by_cases e2 : l = i
      · subst e2
        rw [List.getElem?_set_self hil] at hb; cases hb
        have := h.far j l
        cases e : a.ownBlock with
        | none => exact .inl rfl
        | some g => right; simp [Value.ownBlock]
      · exact h.far j l a b (old j a e1 ha) (old l b e2 hb) hne
  · by_cases e : k = i
    · subst e
      left
      rw [updR_same, List.getD_eq_getElem?_getD, List.getElem?_set_self (by rw [hLl]; exact hk)]
      exact ⟨rfl, rfl⟩
    · rw [updR_other _ _ _ e, List.getD_eq_getElem?_getD, List.getElem?_set_ne (fun h => e h.symm), ← List.getD_eq_getElem?_getD]
      exact h.shape k hk
end
/-- Which are other than they were. -/
def otherB (Ls : List Bool) (os : Nat → List E) (rs : List (List E)) (i : Nat) : Bool := !(Ls.getD i false) && !(eqB (os i) (rs.getD i []))
def lossN (Ls : List Bool) (q : Nat) : Nat := ((List.range q).filter fun i => Ls.getD i false).length
def othN (b : Nat → Bool) (q : Nat) : Nat := ((List.range q).filter b).length
theorem filter_yes {b : Nat → Bool} {q : Nat} (h : b q = true) : ((List.range (q + 1)).filter b).length = ((List.range q).filter b).length + 1 := by
  simp only [List.range_succ, List.filter_append, List.filter_cons, h, if_true, List.filter_nil, List.length_append]; rfl
theorem filter_no {b : Nat → Bool} {q : Nat} (h : b q = false) : ((List.range (q + 1)).filter b).length = ((List.range q).filter b).length := by
  simp only [List.range_succ, List.filter_append, List.filter_cons, h, Bool.false_eq_true, if_false, List.filter_nil, List.append_nil]
theorem filter_le (b : Nat → Bool) (q : Nat) : ((List.range q).filter b).length ≤ q := by
  have := List.length_filter_le b (List.range q)
  simpa using this
end Go.Proofs.Ytemnlcfabaocbaa
/-
  Layer 5: the walk of the laws' hurt.
-/
namespace Go.Proofs.Ytemnlcfabaocbaa
open Go.RowKit Gf
set_option maxRecDepth 20000
set_option linter.unusedVariables false

def intsZ (l : List Int) : List Value := l.map (Value.int .i64)
theorem intsZ_length (l : List Int) : (intsZ l).length = l.length := List.length_map _
theorem intsZ_get (l : List Int) (j : Nat) (h : j < l.length) : (intsZ l)[j]? = some (.int .i64 l[j]) := by simp [intsZ, h]
def othTo (Ls : List Bool) (os : Nat → List E) (rs : List (List E)) (n q : Nat) : List Bool := (List.range n).map fun t => if t < q then otherB Ls os rs t else false
theorem othTo_zero (Ls : List Bool) (os : Nat → List E) (rs : List (List E)) (n : Nat) : othTo Ls os rs n 0 = List.replicate n false := by
  apply List.ext_getElem
  · simp [othTo]
  · intro j h1 h2; simp [othTo]
theorem othTo_all (Ls : List Bool) (os : Nat → List E) (rs : List (List E)) (n : Nat) : othTo Ls os rs n n = (List.range n).map (otherB Ls os rs) := by
  apply List.map_congr_left
  intro t ht
  rw [if_pos (List.mem_range.1 ht)]
theorem othTo_step (Ls : List Bool) (os : Nat → List E) (rs : List (List E)) {n q : Nat} (hq : q < n) : (othTo Ls os rs n q).set q (otherB Ls os rs q) = othTo Ls os rs n (q + 1) := by
  apply List.ext_getElem?
  intro j
  rw [List.getElem?_set]
  by_cases e : q = j
  · subst e; simp [othTo, hq]
  · rw [if_neg e]
    by_cases hj : j < n
    · simp only [othTo, List.getElem?_map, List.getElem?_range hj, Option.map_some, Option.some.injEq]
      by_cases h : j < q
      · rw [if_pos h, if_pos (by omega)]
      · rw [if_neg h, if_neg (by omega)]
    · rw [List.getElem?_eq_none (by simp [othTo]; omega), List.getElem?_eq_none (by simp [othTo]; omega)]
def HurtOut (rs : List (List E)) (n L : Nat) (M : Int) (w : World) (e : Ending) (w' : World) : Prop :=
  ∃ go cap gl gt V os Ls, e = .returned (.tuple #[.slice (some ⟨go, 0, none⟩) n cap, .slice (some ⟨gl, 0, none⟩) n n, .slice (some ⟨gt, 0, none⟩) n n, .bool (decide (((lossN Ls n + 2 * othN (otherB Ls os rs) n : Nat) : Int) ≤ M))]) ∧
    HSt w w' n L go cap gl gt V os Ls ((List.range n).map (otherB Ls os rs))
set_option maxHeartbeats 16000000 in
theorem hurt_n (Ar Ad At Ay : Option Addr) (n L cr nd cd na cat ny cay : Nat) (M : Int) (rs by_ : List (List E)) (at_ : List Int) (w : World) (hn : rs.length = n) (hrl : ∀ r ∈ rs, r.length = L) (hr : RdRows w Ar rs) (hat : Rd w At (intsZ at_)) (hna : at_.length = na) (haw : ∀ x ∈ at_, (Lit.int .i64 x).wf = true)
    (hby : RdRows w Ay by_) (hny : by_.length = ny) (hyb : ∀ r ∈ by_, r.length ≤ 1048576) (hwm : (Lit.int .i64 M).wf = true) (hn0 : 0 < n) (hn2 : n ≤ 255) (hL0 : 0 < L) (hL : L ≤ 1048576) (hna2 : na ≤ 1048576) (hny2 : ny ≤ 1048576) :
    Calls Try.prog 79 #[.slice Ar n cr, .agg #[.slice Ad nd cd, .int .i64 M, .slice At na cat, .slice Ay ny cay]] w (HurtOut rs n L M w) := by
  have HN := Lib.hid hn
  have HRL := Lib.hid hrl
  have HR := Lib.hid hr
  have HAT := Lib.hid hat
  have HNA := Lib.hid hna
  have HAW := Lib.hid haw
  have HBY := Lib.hid hby
  have HNY := Lib.hid hny
  have HYB := Lib.hid hyb
  have hmo : Try.prog.follows Departure.mixedOrders = true := by kernel_rfl
  have hwd : Fence.wide.depth = none := rfl
  have hwf : ∀ f, Fence.wide.fn f := fun _ => trivial
  clear hn hrl hr hat hna haw hby hny hyb
  have hmkB : ∀ w, (Instr.makeSlice 67 (.int .i64 (n : Int)) (.int .i64 (n : Int))).run Try.prog w = .ok (.slice (some ⟨w.heap.size, 0, none⟩) n n) (w.alloc (.cells (zrow (.bool false) n) 4)) := fun w => run_make_elt eltBool _ _ n (by omega) w
  obtain ⟨W0, hW0⟩ : ∃ x, x = ((w.alloc (.cells #[.slice Ad nd cd, .int .i64 M, .slice At na cat, .slice Ay ny cay] 96)).alloc (.cells (zrow (.bool false) n) 4)).alloc (.cells (zrow (.bool false) n) 4) := ⟨_, rfl⟩
  have hx0 : Ext w W0 := by rw [hW0]; exact (((Ext.refl w).alloc _).alloc _).alloc _
  have hb0 : Blk W0 w.heap.size 96 #[.slice Ad nd cd, .int .i64 M, .slice At na cat, .slice Ay ny cay] := by rw [hW0]; exact ((Blk.new _ _ _).alloc _).alloc _
  have hl0 : Own W0 w.heap.size 4 (.slice (some ⟨w.heap.size + 1, 0, none⟩) n n) (bools (List.replicate n false)) := by
    have h1 := (Blk.new (w.alloc (.cells #[.slice Ad nd cd, .int .i64 M, .slice At na cat, .slice Ay ny cay] 96)) 4 (zrow (.bool false) n)).own (B := w.heap.size) (n := n) (cap := n) (by simp) (Nat.le_refl _) (by simp only [maxLen]; omega) (zrow_size _ _)
    rw [zrow_list, List.take_of_length_le (by simp), World.size_alloc] at h1
    rw [hW0, bools, List.map_replicate]
    exact h1.alloc _
  have ho0 : Own W0 w.heap.size 4 (.slice (some ⟨w.heap.size + 2, 0, none⟩) n n) (bools (List.replicate n false)) := by
    have h1 := (Blk.new ((w.alloc (.cells #[.slice Ad nd cd, .int .i64 M, .slice At na cat, .slice Ay ny cay] 96)).alloc (.cells (zrow (.bool false) n) 4)) 4 (zrow (.bool false) n)).own (B := w.heap.size) (n := n) (cap := n) (by simp; omega) (Nat.le_refl _) (by simp only [maxLen]; omega) (zrow_size _ _)
    rw [zrow_list, List.take_of_length_le (by simp), World.size_alloc, World.size_alloc] at h1
    rw [hW0, bools, List.map_replicate]
    exact h1
  have HS0 := Lib.hid (And.intro hx0 (And.intro hb0 (And.intro hl0 ho0)))
  have HW0 := Lib.hid hW0
  clear hx0 hb0 hl0 ho0 hW0
  go_enter Try.func79, Try.ntmps79
  go_wp2_with fail
  rw [← HW0.out]
  go_loopw [11, 12] (fun v i wr => ∃ (q : Nat) (v' : Value) (V : List Value), v' = v ∧ q ≤ n ∧ i = .int .i64 q ∧ Copying W0 wr rs q v' V) (fun _ i _ => n - (intOf i).toNat)
  case atStart => exact ⟨0, _, [], rfl, by omega, rfl, Ext.refl _, rfl, Own.nil _ _ _, fun i u h => by simp at h, FarApart.nil⟩
  case round =>
    obtain ⟨W, rfl⟩ : ∃ W, W = wr := ⟨_, rfl⟩
    obtain ⟨q, v, V, rfl, hq, rfl, hC⟩ := hrel
    by_cases hlt : q < n
    · have hqr : q < rs.length := by rw [HN.out]; exact hlt
      obtain ⟨ad, B1, c1, hA, hc1, hr1, -, -⟩ := (HR.out.ext (HS0.out.1.trans hC.ext)).at_ hqr
      subst hA
      have hql : rs[q].length = L := HRL.out _ (List.getElem_mem hqr)
      rw [hql] at hc1
      have hgd : rs.getD q [] = rs[q] := by rw [List.getD_eq_getElem?_getD, List.getElem?_eq_getElem hqr]; rfl
      have h0 : Own (W.alloc (.cells #[] 5)) W.heap.size 5 (.slice (some ⟨W.heap.size, 0, none⟩) 0 0) [] := (Blk.new W 5 #[]).own (Nat.le_refl _) (Nat.le_refl _) (Nat.zero_le _) rfl
      have hbd1 : (([] : List Value).length + L) * 1 ≤ 140737488355328 := by simp; omega
      have f1 : (W.alloc (.cells #[] 5)).cell? (ad.add q) = some (.slice B1 L c1) := by rw [World.cell?_alloc_lt W _ _ (World.block_lt_of_cell? _ _ hc1)]; exact hc1
      have H1 := Lib.hid hr1
      have HC := Lib.hid hC
      have HQL := Lib.hid hql
      have HGD := Lib.hid hgd
      have hqN : (q : Int) < (n : Int) := by omega
      clear hr1 hC hql hgd
      go_wp2_with (at_builtin; refine wpList_app (W.alloc (.cells #[] 5)) eltU8 rfl _ _ (by rfl) W.heap.size (.slice (some ⟨W.heap.size, 0, none⟩) 0 0) [] (by rfl) (by exact h0) B1 L c1 (bs rs[q]) (by rfl) (H1.out.alloc _) (by rw [bs_length, HQL.out]) (bs_ones _) hbd1 (by simp) ?_)
      intro u w1 ho hmv
      have hx1 : Ext W w1 := ((Ext.refl W).alloc _).below.trans (hmv.below (by simp) fun g hg => by simp [Value.ownBlock] at hg; omega)
      obtain ⟨A1, n1, cu, rfl⟩ : ∃ A n c, u = Value.slice A n c := by obtain ⟨A, c, h⟩ := ho.anySlice; exact ⟨_, _, _, h⟩
      have ho' : Own w1 W.heap.size 5 (.slice A1 n1 cu) (bs (rs.getD q [])) := by rw [HGD.out]; exact ho
      have hV1 := HC.out.list.ext hx1
      have hle1 : W0.heap.size ≤ w1.heap.size := (HC.out.ext.trans hx1).le
      have hbd2 : (V.length + 1) * 24 ≤ 140737488355328 := by rw [HC.out.len]; omega
      have HO := Lib.hid ho'
      have HX1 := Lib.hid hx1
      clear h0 hbd1 f1 hc1 ho ho' hmv hx1
      go_wp2_with (at_builtin; refine wpList_push2 w1 eltRowU8 rfl _ _ (by rfl) W0.heap.size v _ (by rfl) (by exact hV1) (.slice A1 n1 cu) w1.heap.size rfl (by rfl) rfl hbd2 hle1 ?_)
      intro v2 w2 k1 k2 k3 k4
      have HP := Lib.hid (HC.out.hang HX1.out HO.out k1 k2 k3)
      clear k1 k2 k3 k4 hV1 hle1 hbd2
      go_wp2_with fail
      go_roundw
      case rel => exact ⟨q + 1, v2, _, rfl, by omega, by go_num, HP.out⟩
      case measure => simp [intOf]; omega
    · obtain rfl : n = q := by omega
      obtain ⟨go, cap, rfl, -, -, -, -⟩ := hC.list.some_ (fun e => by have := hC.len; rw [e] at this; simp at this; omega)
      rw [hC.len]
      have HST : Hid (HSt w W n L go cap (w.heap.size + 1) (w.heap.size + 2) V (fun i => rs.getD i []) (List.replicate n false) (List.replicate n false)) := Lib.hid (by
        have hle := HS0.out.1.le
        have hl := hC.list.mono hle
        rw [hC.len] at hl
        refine ⟨HS0.out.1.trans hC.ext, hC.len, hl, ⟨fun i u hu => (hC.rows i u hu).mono hle⟩, hC.far, HS0.out.2.2.1.ext hC.ext, HS0.out.2.2.2.ext hC.ext, by omega, fun i hi => .inr ⟨?_, ?_⟩⟩
        · rw [List.getD_eq_getElem?_getD, List.getElem?_replicate, if_pos hi]; rfl
        · show (rs.getD i []).length = L
          rw [List.getD_eq_getElem?_getD, List.getElem?_eq_getElem (by rw [HN.out]; exact hi), Option.getD_some]
          exact HRL.out _ (List.getElem_mem _))
      have HBX : Hid (Blk W w.heap.size 96 #[.slice Ad nd cd, .int .i64 M, .slice At na cat, .slice Ay ny cay]) := Lib.hid (HS0.out.2.1.below hC.ext HS0.out.2.1.lt)
      clear hC HS0 HW0
      have hn00 : ((n : Int) == 0) = false := by rw [beq_eq_false_iff_ne]; omega
      go_wp2_with fail
      go_loopw [13] (fun i wr => ∃ (q : Nat) (V : List Value) (os : Nat → List E) (Ls : List Bool), q ≤ na ∧ i = .int .i64 q ∧ HSt w wr n L go cap (w.heap.size + 1) (w.heap.size + 2) V os Ls (List.replicate n false) ∧ Blk wr w.heap.size 96 #[.slice Ad nd cd, .int .i64 M, .slice At na cat, .slice Ay ny cay]) (fun i _ => na - (intOf i).toNat)
      case atStart => exact ⟨0, _, _, _, by omega, rfl, HST.out, HBX.out⟩
      case round =>
        clear HST HBX
        obtain ⟨W2, rfl⟩ : ∃ W, W = wr := ⟨_, rfl⟩
        obtain ⟨q, V, os, Ls, hq, rfl, hst, hbx⟩ := hrel
        have q1 : World.cell? W2 ⟨w.heap.size, 1, none⟩ = some (.int .i64 M) := hbx.cell 1
        have q2 : World.cell? W2 ⟨w.heap.size, 2, none⟩ = some (.slice At na cat) := hbx.cell 2
        have q3 : World.cell? W2 ⟨w.heap.size, 3, none⟩ = some (.slice Ay ny cay) := hbx.cell 3
        have HST := Lib.hid hst
        have HBX := Lib.hid hbx
        clear hst hbx
        by_cases hlt : q < na
        · have hqa : q < at_.length := by rw [HNA.out]; exact hlt
          obtain ⟨aa, rfl, hc1⟩ := (HAT.out.ext HST.out.ext).at_ (intsZ_get at_ q hqa)
          obtain ⟨x, hx⟩ : ∃ x, x = at_[q] := ⟨_, rfl⟩
          rw [← hx] at hc1
          have hqi : (q : Int) < (na : Int) := by omega
          clear hx
          have hr1 : x.tmod (n : Int) < n := Int.tmod_lt_of_pos x (by omega)
          have hr2 : -(n : Int) < x.tmod (n : Int) := by
            have h := Int.tmod_lt_of_pos (-x) (show (0 : Int) < (n : Int) by omega)
            rw [Int.neg_tmod] at h
            omega
          obtain ⟨r, hrx⟩ : ∃ r, x.tmod (n : Int) = r := ⟨_, rfl⟩
          rw [hrx] at hr1 hr2
          obtain ⟨a, ha⟩ : ∃ a : Nat, (0 ≤ r ∧ r = (a : Int)) ∨ (r < 0 ∧ r + (n : Int) = (a : Int)) := by
            rcases (show 0 ≤ r ∨ r < 0 by omega) with h | h
            · exact ⟨r.toNat, .inl ⟨h, by omega⟩⟩
            · exact ⟨(r + n).toNat, .inr ⟨h, by omega⟩⟩
          have han : a < n := by rcases ha with ⟨_, h⟩ | ⟨_, h⟩ <;> omega
          have hani : (a : Int) < (n : Int) := by omega
          obtain ⟨v, hV⟩ : ∃ v, V[a]? = some v := ⟨_, List.getElem?_eq_getElem (by rw [HST.out.len]; exact han)⟩
          have hLs : Ls.length = n := by have := HST.out.lost.len; rw [bools_length] at this; exact this.symm
          have f1 := HST.out.lost.frozen a
          obtain ⟨u1, c1⟩ : ∃ u, W2.cell? ⟨w.heap.size + 1, a, none⟩ = some u := ⟨_, HST.out.lost.cell (List.getElem?_eq_getElem (by rw [bools_length, hLs]; exact han))⟩
          have hl1 := HST.out.list.far (p := ⟨w.heap.size + 1, a, none⟩) (ne_some (HST.out.list.types HST.out.lost (by decide))) (.bool true)
          have f2 := hl1.frozen a
          have c2 := hl1.cell hV
          have hp := HST.out.lose (i := a) han
          have hgo : go ≠ w.heap.size := fun e => by
            have := HST.out.list.notBlk HBX.out (by decide)
            exact this (by rw [← e]; rfl)
          have hbp : Blk ((W2.setCell ⟨w.heap.size + 1, a, none⟩ (.bool true)).setCell ⟨go, a, none⟩ (.slice none 0 0)) w.heap.size 96 #[.slice Ad nd cd, .int .i64 M, .slice (some aa) na cat, .slice Ay ny cay] := (HBX.out.far (p := ⟨w.heap.size + 1, a, none⟩) (by show w.heap.size ≠ w.heap.size + 1; omega) _).far (p := ⟨go, a, none⟩) (fun e => hgo e.symm) _
          have HP := Lib.hid (And.intro hp hbp)
          have HV := Lib.hid hV
          clear hp hbp hl1 hLs hgo hV
          rcases (show ny ≤ q ∨ q < ny by omega) with h6 | h6
          · have d6 : decide ((ny : Int) ≤ (q : Int)) = true := decide_eq_true (by omega)
            have d6n : decide (ny ≤ q) = true := decide_eq_true h6
            rcases ha with ⟨h7, rfl⟩ | ⟨h7, h8⟩
            all_goals
              go_wp2_with fail
              go_roundw
              case rel => exact ⟨q + 1, _, _, _, by omega, by go_num, HP.out.1, HP.out.2⟩
              case measure => simp [intOf]; omega
          · have d6 : decide ((ny : Int) ≤ (q : Int)) = false := decide_eq_false (by omega)
            have d6n : decide (ny ≤ q) = false := decide_eq_false (by omega)
            have hqb : q < by_.length := by rw [HNY.out]; exact h6
            obtain ⟨ab, Db, cb, hA, hcb, hrb, -, -⟩ := (HBY.out.ext HST.out.ext).at_ hqb
            subst hA
            have hqy : (q : Int) < (ny : Int) := by omega
            by_cases h9 : by_[q].length = 0
            · rw [h9] at hcb
              rcases ha with ⟨h7, rfl⟩ | ⟨h7, h8⟩
              all_goals
                go_wp2_with fail
                go_roundw
                case rel => exact ⟨q + 1, _, _, _, by omega, by go_num, HP.out.1, HP.out.2⟩
                case measure => simp [intOf]; omega
            · have hyb := HYB.out _ (List.getElem_mem hqb)
              obtain ⟨lb, hlb⟩ : ∃ n, n = by_[q].length := ⟨_, rfl⟩
              rw [← hlb] at hcb h9 hyb
              have HLB := Lib.hid hlb
              have g9 : ((lb : Int) == 0) = false := by rw [beq_eq_false_iff_ne]; omega
              clear hlb c1 f1 c2 f2 HP
              have HA := Lib.hid ha
              rcases ha with ⟨h7, rfl⟩ | ⟨h7, h8⟩
              all_goals
                go_wp2_with fail
                rcases HST.out.shape a han with ⟨hlo, hos⟩ | ⟨hlo, hos⟩
                · have hown := HST.out.rows.own a v HV.out
                  rw [hos] at hown
                  obtain ⟨Av, cv, rfl⟩ : ∃ A c, v = Value.slice A 0 c := by obtain ⟨A, c, h⟩ := hown.anySlice; exact ⟨_, _, h⟩
                  have c2 := HST.out.list.cell HV.out
                  clear hown hos hlo
                  go_loopw [15] (fun i wr => i = .int .i64 0 ∧ W2 = wr) (fun _ _ => 0)
                  case atStart => exact ⟨rfl, rfl⟩
                  case round =>
                    obtain ⟨rfl, rfl⟩ := hrel
                    go_wp2_with fail
                    go_roundw
                    case rel => exact ⟨q + 1, V, os, Ls, by omega, by go_num, HST.out, HBX.out⟩
                    case measure => simp [intOf]; omega
                · have hown := HST.out.rows.own a v HV.out
                  obtain ⟨g, cv, rfl, -, -, -, -⟩ := hown.some_ (fun e => by
                    have := congrArg List.length e
                    rw [bs_length, hos, List.length_nil] at this
                    omega)
                  rw [bs_length, hos] at HV
                  clear hown hos
                  have HLO := Lib.hid hlo
                  clear hlo q1 q2 q3 hcb hrb hc1
                  go_loopw [15] (fun i wr => ∃ (j : Nat) (os' : Nat → List E), j ≤ L ∧ i = .int .i64 j ∧ HSt w wr n L go cap (w.heap.size + 1) (w.heap.size + 2) V os' Ls (List.replicate n false) ∧ Blk wr w.heap.size 96 #[.slice Ad nd cd, .int .i64 M, .slice (some aa) na cat, .slice (some ab) ny cay]) (fun i _ => L - (intOf i).toNat)
                  case atStart => exact ⟨0, os, by omega, rfl, HST.out, HBX.out⟩
                  case round =>
                    clear HST HBX
                    obtain ⟨W3, rfl⟩ : ∃ W, W = wr := ⟨_, rfl⟩
                    obtain ⟨j, os', hj, rfl, hst, hbx⟩ := hrel
                    have q3 : World.cell? W3 ⟨w.heap.size, 3, none⟩ = some (.slice (some ab) ny cay) := hbx.cell 3
                    have c2 := hst.list.cell HV.out
                    obtain ⟨ab', Db', cb', hA, hcb, hrb, -, -⟩ := (HBY.out.ext hst.ext).at_ hqb
                    cases hA
                    have hll : by_[q].length = lb := HLB.out.symm
                    rw [hll] at hcb
                    have HLL := Lib.hid hll
                    clear hll
                    by_cases hj1 : j < L
                    · have hj1i : (j : Int) < (L : Int) := by omega
                      by_cases hj2 : j < lb
                      · have hj2i : (j : Int) < (lb : Int) := by omega
                        have hj3 : j < by_[q].length := by rw [HLL.out]; exact hj2
                        obtain ⟨yd, rfl, hcy⟩ := hrb.byte hj3
                        have hoa : (os' a).length = L := by
                          rcases hst.shape a han with ⟨h, _⟩ | ⟨_, h⟩
                          · rw [HLO.out] at h; cases h
                          · exact h
                        have hown := hst.rows.own a _ HV.out
                        have hjo : j < (os' a).length := by rw [hoa]; exact hj1
                        have hcx := hown.cell (bs_get _ j hjo)
                        obtain ⟨xv, hxv⟩ : ∃ y, y = (os' a)[j] := ⟨_, rfl⟩
                        obtain ⟨yv, hyv⟩ : ∃ y, y = (by_[q])[j] := ⟨_, rfl⟩
                        rw [← hxv] at hcx
                        rw [← hyv] at hcy
                        have hxo := bits_u8_xor xv yv
                        have hl1 := xv.lt
                        have hl2 := yv.lt
                        have hl3 := (xv + yv).lt
                        have HS3 := Lib.hid (And.intro hst hbx)
                        have HJO := Lib.hid hjo
                        clear hst hbx hown hrb hxv hyv hoa hjo
                        go_wp2_with fail
                        refine region_store_plain hmo (by kernel_rfl) (by kernel_rfl) (by kernel_rfl) ?_
                        dsimp only [muted, mute, List.dropLast]
                        repeat (gi_big_quiet_step (fail))
                        refine wpQuietIn_nil ?_
                        rintro _ ⟨nq, rfl⟩ s hs'
                        simp only [List.getLast?_cons_cons, List.getLast?_singleton, Option.some.injEq] at hs'
                        subst hs'
                        obtain ⟨W4, hW4⟩ : ∃ x, x = W3.drewN nq := ⟨_, rfl⟩
                        have hst4 : HSt w W4 n L go cap (w.heap.size + 1) (w.heap.size + 2) V os' Ls (List.replicate n false) := by rw [hW4]; exact HS3.out.1.beyond ((Ext.refl W3).drewN nq)
                        have hbx4 : Blk W4 w.heap.size 96 #[.slice Ad nd cd, .int .i64 M, .slice (some aa) na cat, .slice (some ab) ny cay] := by rw [hW4]; exact HS3.out.2.drewN nq
                        rw [← hW4]
                        clear hW4 q3 c2 hcb hcy hcx hxo HS3
                        have hown := hst4.rows.own a _ HV.out
                        have f1 := hown.frozen j
                        obtain ⟨u1, c1⟩ : ∃ u, W4.cell? ⟨g, j, none⟩ = some u := ⟨_, hown.cell (bs_get _ j HJO.out)⟩
                        have hgb : g ≠ w.heap.size := fun e => hown.notBlk hbx4 (by decide) (by rw [← e]; rfl)
                        have HP := Lib.hid (And.intro (hst4.put HV.out j (xv + yv)) (hbx4.far (p := ⟨g, j, none⟩) (fun e => hgb e.symm) (.int .u8 ((xv + yv).val : Int))))
                        clear hst4 hbx4 hown hgb
                        go_simp
                        go_wp2_with fail
                        go_roundw
                        case rel => exact ⟨j + 1, _, by omega, by go_num, HP.out.1, HP.out.2⟩
                        case measure => simp [intOf]; omega
                      · have g2 : decide ((j : Int) < (lb : Int)) = false := decide_eq_false (by omega)
                        have g2n : decide (j < lb) = false := decide_eq_false hj2
                        have HS3 := Lib.hid (And.intro hst hbx)
                        clear hst hbx hrb
                        go_wp2_with fail
                        go_roundw
                        case rel => exact ⟨q + 1, V, os', Ls, by omega, by go_num, HS3.out.1, HS3.out.2⟩
                        case measure => simp [intOf]; omega
                    · have g2 : decide ((j : Int) < (L : Int)) = false := decide_eq_false (by omega)
                      have g2n : decide (j < L) = false := decide_eq_false hj1
                      have HS3 := Lib.hid (And.intro hst hbx)
                      clear hst hbx hrb
                      go_wp2_with fail
                      go_roundw
                      case rel => exact ⟨q + 1, V, os', Ls, by omega, by go_num, HS3.out.1, HS3.out.2⟩
                      case measure => simp [intOf]; omega
        · obtain rfl : q = na := by omega
          have HST2 : Hid (HSt w W2 n L go cap (w.heap.size + 1) (w.heap.size + 2) V os Ls (othTo Ls os rs n 0)) := Lib.hid (by rw [othTo_zero]; exact HST.out)
          clear HST
          go_wp2_with fail
          clear q1 q2 q3
          go_loopw [16, 17] (fun wt i wr => ∃ p : Nat, p ≤ n ∧ i = .int .i64 p ∧ wt = .int .i64 ((lossN Ls p + 2 * othN (otherB Ls os rs) p : Nat) : Int) ∧ HSt w wr n L go cap (w.heap.size + 1) (w.heap.size + 2) V os Ls (othTo Ls os rs n p) ∧ Blk wr w.heap.size 96 #[.slice Ad nd cd, .int .i64 M, .slice At q cat, .slice Ay ny cay]) (fun _ i _ => n - (intOf i).toNat)
          case atStart => exact ⟨0, by omega, rfl, rfl, HST2.out, HBX.out⟩
          case round =>
            clear HST2 HBX
            obtain ⟨W3, rfl⟩ : ∃ W, W = wr := ⟨_, rfl⟩
            obtain ⟨p, hp, rfl, rfl, hst, hbx⟩ := hrel
            have hle1 := filter_le (fun i => Ls.getD i false) p
            have hle2 := filter_le (otherB Ls os rs) p
            obtain ⟨wt, hwt⟩ : ∃ x, x = lossN Ls p + 2 * othN (otherB Ls os rs) p := ⟨_, rfl⟩
            have hwtb : wt ≤ 3 * p := by rw [hwt, lossN, othN]; omega
            rw [← hwt]
            by_cases hlt2 : p < n
            · have hpi : (p : Int) < (n : Int) := by omega
              have hLs : Ls.length = n := by have := hst.lost.len; rw [bools_length] at this; exact this.symm
              have hLg : Ls.getD p false = Ls[p]'(by rw [hLs]; exact hlt2) := by rw [List.getD_eq_getElem?_getD, List.getElem?_eq_getElem (by rw [hLs]; exact hlt2)]; rfl
              have c0 := hst.lost.cell (bools_get Ls p (by rw [hLs]; exact hlt2))
              rw [← hLg] at c0
              obtain ⟨v, hV⟩ : ∃ v, V[p]? = some v := ⟨_, List.getElem?_eq_getElem (by rw [hst.len]; exact hlt2)⟩
              have hown := hst.rows.own p v hV
              have c2 := hst.list.cell hV
              rcases hst.shape p hlt2 with ⟨hlo, hos⟩ | ⟨hlo, hos⟩
              · rw [hlo] at c0
                have hB : otherB Ls os rs p = false := by rw [otherB, hlo]; rfl
                have HNX : Hid (lossN Ls (p + 1) + 2 * othN (otherB Ls os rs) (p + 1) = wt + 1) := Lib.hid (by
                  rw [lossN, othN, filter_yes (b := fun i => Ls.getD i false) hlo, filter_no hB, hwt, lossN, othN]; omega)
                have HS3 := Lib.hid (And.intro hst hbx)
                have HBB := Lib.hid hB
                clear hst hbx hown hLs hLg hlo hos hwt hB c2
                go_wp2_with fail
                refine region_store_plain hmo (by kernel_rfl) (by kernel_rfl) (by kernel_rfl) ?_
                dsimp only [muted, mute, List.dropLast]
                repeat (gi_big_quiet_step (fail))
                refine wpQuietIn_nil ?_
                rintro _ ⟨nq, rfl⟩ s hs'
                simp only [List.getLast?_cons_cons, List.getLast?_singleton, Option.some.injEq] at hs'
                subst hs'
                obtain ⟨W4, hW4⟩ : ∃ x, x = W3.drewN nq := ⟨_, rfl⟩
                have hst4 := HS3.out.1.beyond ((Ext.refl W3).drewN nq)
                have hbx4 : Blk (W3.drewN nq) w.heap.size 96 #[.slice Ad nd cd, .int .i64 M, .slice At q cat, .slice Ay ny cay] := HS3.out.2.drewN nq
                have c0 : W4.cell? ⟨w.heap.size + 1, p, none⟩ = some (.bool true) := by rw [hW4]; exact c0
                rw [← hW4] at hst4 hbx4 ⊢
                clear hW4 HS3
                have f1 := hst4.oth.frozen p
                obtain ⟨u1, c1⟩ : ∃ u, W4.cell? ⟨w.heap.size + 2, p, none⟩ = some u := ⟨_, hst4.oth.cell (List.getElem?_eq_getElem (show p < (bools (othTo Ls os rs n p)).length by rw [bools_length, othTo, List.length_map, List.length_range]; exact hlt2))⟩
                have hmk := hst4.mark p false
                rw [show (false : Bool) = otherB Ls os rs p from HBB.out.symm, othTo_step _ _ _ hlt2, HBB.out] at hmk
                have HP := Lib.hid (And.intro hmk (hbx4.far (p := ⟨w.heap.size + 2, p, none⟩) (by show w.heap.size ≠ w.heap.size + 2; omega) (.bool false)))
                clear hst4 hbx4 hmk
                go_simp
                go_wp2_with fail
                go_roundw
                case rel => exact ⟨p + 1, by omega, by go_num, by rw [HNX.out]; go_num, HP.out.1, HP.out.2⟩
                case measure => simp [intOf]; omega
              · rw [hlo] at c0
                have hpr : p < rs.length := by rw [HN.out]; exact hlt2
                obtain ⟨Av, cv, hv⟩ : ∃ A c, v = Value.slice A L c := by obtain ⟨A, c, h⟩ := hown.anySlice; exact ⟨A, c, by rw [h, bs_length, hos]⟩
                subst hv
                obtain ⟨ar, Dr, er, hA, hcr, hrr, -, -⟩ := (HR.out.ext hst.ext).at_ hpr
                subst hA
                have hrl := HRL.out _ (List.getElem_mem hpr)
                rw [hrl] at hcr
                have hgd : rs.getD p [] = rs[p] := by rw [List.getD_eq_getElem?_getD, List.getElem?_eq_getElem hpr]; rfl
                obtain ⟨b, hb⟩ : ∃ b, b = eqB (os p) rs[p] := ⟨_, rfl⟩
                have hB : otherB Ls os rs p = !b := by rw [otherB, hlo, hgd, hb]; rfl
                have hl0 : lossN Ls (p + 1) = lossN Ls p := filter_no (b := fun i => Ls.getD i false) hlo
                have HQ : Hid (∀ nn, Calls Try.prog 80 #[.slice Av L cv, .slice Dr L er] (W3.drewN nn) fun e w' => e = .returned (.bool b) ∧ ∃ m, w' = W3.drewN m) := Lib.hid (fun nn => by
                  have := sameBytes_q Av Dr L L (os p) rs[p] cv er (W3.drewN nn) hos hrl (hown.rd.ext ((Ext.refl W3).drewN nn)) (hrr.ext ((Ext.refl W3).drewN nn)) (by omega) (by omega)
                  exact this.mono fun e w' ⟨h, k, hx⟩ => ⟨by rw [h, hb], nn + k, by rw [hx, World.drewN_drewN]⟩)
                have HS3 := Lib.hid (And.intro hst hbx)
                have HBB := Lib.hid hB
                have hBl : b = true → otherB Ls os rs p = false := fun h => by rw [hB, h]; rfl
                have hBl2 : b = false → otherB Ls os rs p = true := fun h => by rw [hB, h]; rfl
                cases b
                · have HNX : Hid (lossN Ls (p + 1) + 2 * othN (otherB Ls os rs) (p + 1) = wt + 2) := Lib.hid (by
                    rw [hl0, othN, filter_yes (hBl2 rfl), hwt, othN]; omega)
                  clear hst hbx hown hLs hLg hlo hos hwt hB hrr hrl hgd hb hl0 hBl hBl2
                  go_wp2_with fail
                  refine region_store_plain hmo (by kernel_rfl) (by kernel_rfl) (by kernel_rfl) ?_
                  dsimp only [muted, mute, List.dropLast]
                  repeat (gi_big_quiet_step ((gi_at_call 80; with_reducible exact callsIn_wide.2 (HQ.out _))))
                  refine wpQuietIn_nil ?_
                  rintro _ ⟨nq, rfl⟩ s hs'
                  simp only [List.getLast?_cons_cons, List.getLast?_singleton, Option.some.injEq] at hs'
                  subst hs'
                  obtain ⟨W4, hW4⟩ : ∃ x, x = W3.drewN nq := ⟨_, rfl⟩
                  have hst4 := HS3.out.1.beyond ((Ext.refl W3).drewN nq)
                  have hbx4 : Blk (W3.drewN nq) w.heap.size 96 #[.slice Ad nd cd, .int .i64 M, .slice At q cat, .slice Ay ny cay] := HS3.out.2.drewN nq
                  have c0 : W4.cell? ⟨w.heap.size + 1, p, none⟩ = some (.bool false) := by rw [hW4]; exact c0
                  rw [← hW4] at hst4 hbx4 ⊢
                  clear hW4 HS3 HQ c2 hcr
                  have f1 := hst4.oth.frozen p
                  obtain ⟨u1, c1⟩ : ∃ u, W4.cell? ⟨w.heap.size + 2, p, none⟩ = some u := ⟨_, hst4.oth.cell (List.getElem?_eq_getElem (show p < (bools (othTo Ls os rs n p)).length by rw [bools_length, othTo, List.length_map, List.length_range]; exact hlt2))⟩
                  have hmk := hst4.mark p true
                  rw [show (true : Bool) = otherB Ls os rs p from HBB.out.symm, othTo_step _ _ _ hlt2, HBB.out] at hmk
                  have HP := Lib.hid (And.intro hmk (hbx4.far (p := ⟨w.heap.size + 2, p, none⟩) (by show w.heap.size ≠ w.heap.size + 2; omega) (.bool true)))
                  clear hst4 hbx4 hmk
                  go_simp
                  go_wp2_with fail
                  go_roundw
                  case rel => exact ⟨p + 1, by omega, by go_num, by rw [HNX.out]; go_num, HP.out.1, HP.out.2⟩
                  case measure => simp [intOf]; omega
                · have HNX : Hid (lossN Ls (p + 1) + 2 * othN (otherB Ls os rs) (p + 1) = wt) := Lib.hid (by
                    rw [hl0, othN, filter_no (hBl rfl), hwt, othN])
                  clear hst hbx hown hLs hLg hlo hos hwt hB hrr hrl hgd hb hl0 hBl hBl2
                  go_wp2_with fail
                  refine region_store_plain hmo (by kernel_rfl) (by kernel_rfl) (by kernel_rfl) ?_
                  dsimp only [muted, mute, List.dropLast]
                  repeat (gi_big_quiet_step ((gi_at_call 80; with_reducible exact callsIn_wide.2 (HQ.out _))))
                  refine wpQuietIn_nil ?_
                  rintro _ ⟨nq, rfl⟩ s hs'
                  simp only [List.getLast?_cons_cons, List.getLast?_singleton, Option.some.injEq] at hs'
                  subst hs'
                  obtain ⟨W4, hW4⟩ : ∃ x, x = W3.drewN nq := ⟨_, rfl⟩
                  have hst4 := HS3.out.1.beyond ((Ext.refl W3).drewN nq)
                  have hbx4 : Blk (W3.drewN nq) w.heap.size 96 #[.slice Ad nd cd, .int .i64 M, .slice At q cat, .slice Ay ny cay] := HS3.out.2.drewN nq
                  have c0 : W4.cell? ⟨w.heap.size + 1, p, none⟩ = some (.bool false) := by rw [hW4]; exact c0
                  rw [← hW4] at hst4 hbx4 ⊢
                  clear hW4 HS3 HQ c2 hcr
                  have f1 := hst4.oth.frozen p
                  obtain ⟨u1, c1⟩ : ∃ u, W4.cell? ⟨w.heap.size + 2, p, none⟩ = some u := ⟨_, hst4.oth.cell (List.getElem?_eq_getElem (show p < (bools (othTo Ls os rs n p)).length by rw [bools_length, othTo, List.length_map, List.length_range]; exact hlt2))⟩
                  have hmk := hst4.mark p false
                  rw [show (false : Bool) = otherB Ls os rs p from HBB.out.symm, othTo_step _ _ _ hlt2, HBB.out] at hmk
                  have HP := Lib.hid (And.intro hmk (hbx4.far (p := ⟨w.heap.size + 2, p, none⟩) (by show w.heap.size ≠ w.heap.size + 2; omega) (.bool false)))
                  clear hst4 hbx4 hmk
                  go_simp
                  go_wp2_with fail
                  go_roundw
                  case rel => exact ⟨p + 1, by omega, by go_num, by rw [HNX.out], HP.out.1, HP.out.2⟩
                  case measure => simp [intOf]; omega
            · obtain rfl : p = n := by omega
              rw [othTo_all] at hst
              have HS3 := Lib.hid (And.intro hst hbx)
              have q1 : World.cell? W3 ⟨w.heap.size, 1, none⟩ = some (.int .i64 M) := hbx.cell 1
              have HWT := Lib.hid hwt
              clear hst hbx hwt
              go_wp2_with fail
              go_quiet (fail)
              have HF := Lib.hid (HS3.out.1.beyond ((Ext.refl W3).drewN nq))
              go_wp2_with fail
              (try simp only [Exit.inBlock, Exit.then]); refine bodyPost_ret (results_tmp4 rfl _ _ _) rfl ?_
              exact ⟨go, cap, _, _, V, os, Ls, by rw [← HWT.out]; rfl, HF.out⟩
end Go.Proofs.Ytemnlcfabaocbaa
/-
  Layer 5, plain: rows of the code, spoilt within half the distance, come back.
-/
namespace Go.Proofs.Ytemnlcfabaocbaa
open Go.RowKit Gf
set_option maxRecDepth 20000
set_option linter.unusedVariables false

theorem enc_poly {N n L : Nat} {Z : List (List E)} (hZ : Z.length = N) (hN : N ≤ 256) {c : Nat} (hc : c < L) : ∃ p : List E, p.length = N ∧ ∀ i, i < n → ((encM N n L Z).getD i []).getD c 0 = evL p (E.of i) := by
  have hpn : (ptsK N).Nodup := ptsK_nodup hN
  obtain ⟨f, f1, f2, f3⟩ := lagrange hpn (Z.map fun r => r.getD c 0) (ptsK N).length (Nat.le_refl _)
  rw [ptsK_length] at f1 f2 f3
  refine ⟨f, f1, fun i hi => ?_⟩
  have e1 : (encM N n L Z).getD i [] = prodRow (wrow (ptsK N) N i) Z L N := by
    rw [List.getD_eq_getElem?_getD, encM, prodM, List.getElem?_map, codeR_get hi, hZ]; rfl
  rw [e1, List.getD_eq_getElem?_getD, prodRow_get _ _ _ _ _ hc, Option.getD_some, f3]
  apply sumN_congr
  intro t ht
  have e3 : (wrow (ptsK N) N i).getD t 0 = wgt (ptsK N) (E.of i) t := by
    rw [List.getD_eq_getElem?_getD, List.getElem?_eq_getElem (by rw [wrow_length]; exact ht), wrow_get]; rfl
  have e4 : (Z.getD t []).getD c 0 = (Z.map fun r => r.getD c 0).getD t 0 := by
    rw [List.getD_eq_getElem?_getD (l := Z), List.getElem?_eq_getElem (by omega), Option.getD_some, List.getD_eq_getElem?_getD (l := Z.map _), List.getElem?_map, List.getElem?_eq_getElem (by omega)]; rfl
  rw [e3, e4]
theorem filter_sub {p q : Nat → Bool} (l : List Nat) (h : ∀ i ∈ l, p i = true → q i = true) : (l.filter p).length ≤ (l.filter q).length := by
  induction l with
  | nil => exact Nat.le_refl _
  | cons a l ih =>
    have ih := ih fun i hi => h i (List.mem_cons_of_mem _ hi)
    have ha := h a List.mem_cons_self
    rw [List.filter_cons, List.filter_cons]
    cases hp : p a with
    | true => rw [ha hp, if_pos rfl, if_pos rfl, List.length_cons, List.length_cons]; omega
    | false =>
      rw [if_neg (by simp)]
      split
      · rw [List.length_cons]; omega
      · exact ih
section
variable {N n L : Nat} {os : Nat → List E} {Ls : List Bool} {rs : List (List E)}
def osL (os : Nat → List E) (n : Nat) : List (List E) := (List.range n).map os
theorem osL_length (os : Nat → List E) (n : Nat) : (osL os n).length = n := by simp [osL]
theorem osL_get {i : Nat} (h : i < (osL os n).length) : (osL os n)[i] = os i := by simp [osL]
theorem osL_getD {i : Nat} (h : i < n) : (osL os n).getD i [] = os i := by
  rw [List.getD_eq_getElem?_getD, List.getElem?_eq_getElem (by rw [osL_length]; exact h), osL_get]; rfl
theorem half_mended (hn : rs.length = n) (hrl : ∀ r ∈ rs, r.length = L) (hL : 0 < L) (hN : 1 ≤ N) (hNn : N ≤ n) (hn2 : n ≤ 255) (hsh : ∀ i, i < n → (Ls.getD i false = true ∧ os i = []) ∨ (Ls.getD i false = false ∧ (os i).length = L))
    (hw : lossN Ls n + 2 * othN (otherB Ls os rs) n + N ≤ n) (hp : ∀ c, c < L → ∃ p : List E, p.length = N ∧ ∀ i, i < n → (rs.getD i []).getD c 0 = evL p (E.of i)) :
    MendSpec (N : Int) (osL os n) rs ((List.range n).filter (otherB Ls os rs)) 0 := by
  have hol := osL_length os n
  have hlost : ∀ i, i < n → decide ((os i).length = 0) = Ls.getD i false := fun i hi => by
    rcases hsh i hi with ⟨h1, h2⟩ | ⟨h1, h2⟩
    · rw [h1, h2]; rfl
    · rw [h1, decide_eq_false (by omega)]
  have hln : lostN (osL os n) n = lossN Ls n := by
    rw [lostN, lossN]
    congr 1
    apply List.filter_congr
    intro i hi
    have hi := List.mem_range.1 hi
    rw [osL_getD hi, hlost i hi]
  have hth := lost_there (osL os n)
  rw [hol, hln] at hth
  have hg : GoodR (N : Int) (osL os n) := ⟨by omega, by rw [hol]; omega, by rw [hol]; exact hn2⟩
  have hmeas : Meas (osL os n) L := by
    refine ⟨fun r hr => ?_, ?_⟩
    · obtain ⟨i, hi, rfl⟩ := List.mem_map.1 hr
      rcases hsh i (List.mem_range.1 hi) with ⟨_, h⟩ | ⟨_, h⟩
      · left; rw [h]; rfl
      · exact .inr h
    · right
      obtain ⟨i, hi⟩ : ∃ i, i ∈ thereL (lostL (osL os n)) := by
        have : 0 < (thereL (lostL (osL os n))).length := by omega
        exact ⟨_, List.getElem_mem this⟩
      have hlt := there_mem hi
      rw [lostL_length] at hlt
      have h3 := (there_row hlt).1 hi
      refine ⟨_, List.getElem_mem hlt, ?_⟩
      rw [osL_get] at h3 ⊢
      rcases hsh i (by rw [← hol]; exact hlt) with ⟨_, h⟩ | ⟨_, h⟩
      · rw [h] at h3; exact absurd rfl h3
      · exact h
  -- the polynomials
  let P : Nat → List E := fun c => if h : c < L then Classical.choose (hp c h) else []
  have hP : ∀ c, c < L → (P c).length = N ∧ ∀ i, i < n → (rs.getD i []).getD c 0 = evL (P c) (E.of i) := fun c h => by
    have := Classical.choose_spec (hp c h)
    show (if h : c < L then Classical.choose (hp c h) else []).length = N ∧ ∀ i, i < n → (rs.getD i []).getD c 0 = evL (if h : c < L then Classical.choose (hp c h) else []) (E.of i)
    rw [dif_pos h]; exact this
  let O : Nat → List E := fun c => colTo (P c) n
  let B : Nat → List Nat := fun c => badAt (P c) (colL (osL os n) c) (thereL (lostL (osL os n)))
  have hbad : ∀ c, c < L → (B c).length ≤ othN (otherB Ls os rs) n := fun c hc => by
    show (badAt (P c) (colL (osL os n) c) (thereL (lostL (osL os n)))).length ≤ _
    rw [there_eq, badAt, List.filter_filter, hol, othN]
    apply filter_sub
    intro i hi hpi
    have hi := List.mem_range.1 hi
    have hio : i < (osL os n).length := by rw [hol]; exact hi
    rw [Bool.and_eq_true, colL_getD hio, osL_get, osL_getD hi, hlost i hi, ← (hP c hc).2 i hi] at hpi
    obtain ⟨h1, h2⟩ := hpi
    rw [otherB, h2, Bool.true_and, eqB_false]
    · rfl
    · intro e
      rw [e] at h1
      simp at h1
  have hM : Mended N (osL os n) L O B := ⟨hg, hmeas, by omega, fun c hc => .inr (.inr (.inr ⟨hg.col c, by omega, P c, ⟨by have := dg_le (P c); have := (hP c hc).1; rw [Int.toNat_natCast]; omega, by
    rw [wrongs_bad, pts_length, Int.toNat_natCast]
    have := hbad c hc
    have : (badAt (P c) (colL (osL os n) c) (thereL (lostL (osL os n)))).length ≤ othN (otherB Ls os rs) n := hbad c hc
    omega⟩, by rw [colL_length, hol], rfl, rfl⟩))⟩
  have hout : outTo (osL os n) O L = rs := by
    apply List.ext_getElem
    · rw [outTo_length, hol, hn]
    intro i h1 h2
    have hi : i < n := by rw [← hn]; exact h2
    rw [outTo_get]
    apply List.ext_getElem?
    intro c
    by_cases hc : c < L
    · have hrc : c < rs[i].length := by rw [hrl _ (List.getElem_mem h2)]; exact hc
      have := (hP c hc).2 i hi
      rw [List.getD_eq_getElem?_getD (l := rs), List.getElem?_eq_getElem h2, Option.getD_some, List.getD_eq_getElem?_getD, List.getElem?_eq_getElem hrc] at this
      rw [List.getElem?_map, List.getElem?_range hc, List.getElem?_eq_getElem hrc, Option.map_some]
      show some ((colTo (P c) n).getD i 0) = _
      rw [colTo_getD hi, ← this]; rfl
    · rw [List.getElem?_eq_none (by simp; omega), List.getElem?_eq_none (by rw [hrl _ (List.getElem_mem h2)]; omega)]
  have hbt : (List.range n).filter (otherB Ls os rs) = badTo n B L := by
    have e1 : badTo n B L = (List.range n).filter fun i => decide (i ∈ badTo n B L) := by
      conv => lhs; rw [badTo]
      apply List.filter_congr
      intro i hi
      rw [Bool.eq_iff_iff, decide_eq_true_iff, badTo, List.mem_filter]
      exact ⟨fun h => ⟨hi, h⟩, fun h => h.2⟩
    rw [e1]
    apply List.filter_congr
    intro i hi
    have hi := List.mem_range.1 hi
    have hio : i < (osL os n).length := by rw [hol]; exact hi
    have h1 := hM.named hio
    have h0 : badTo n B L = badTo (osL os n).length B L := by rw [hol]
    rw [h0, h1, otherB, ← hlost i hi]
    have e2 : (outTo (osL os n) O L)[i]'(by rw [outTo_length]; exact hio) = rs.getD i [] := by
      rw [List.getD_eq_getElem?_getD, List.getElem?_eq_getElem (by omega)]
      have : ∀ (l : List (List E)) (e : l = rs) (h : i < l.length) (h2 : i < rs.length), l[i] = rs[i] := fun l e h h2 => by subst e; rfl
      exact this _ hout _ _
    rw [e2, osL_get]
    simp
  refine .inr (.inr (.inr (.inr ⟨L, O, B, hg, hmeas, by omega, hM.col, hout.symm, by rw [hol]; exact hbt, rfl⟩)))
end
end Go.Proofs.Ytemnlcfabaocbaa
/-
  Layer 5: the walk of the statement MendHalf.
-/
namespace Go.Proofs.Ytemnlcfabaocbaa
open Go.RowKit Gf
set_option maxRecDepth 20000
set_option linter.unusedVariables false

theorem HSt.rd {w wr : World} {n L go cap gl gt : Nat} {V : List Value} {os : Nat → List E} {Ls Os : List Bool} (h : HSt w wr n L go cap gl gt V os Ls Os) : RdRows wr (some ⟨go, 0, none⟩) (osL os n) := by
  refine ⟨V, by rw [h.len, osL_length], h.list.rd, fun i r hi => ?_⟩
  have hlt : i < V.length := by rw [h.len]; have := (List.getElem?_eq_some_iff.1 hi).1; rwa [osL_length] at this
  have h4 := h.rows.own i V[i] (List.getElem?_eq_getElem hlt)
  have hr : os i = r := by
    rw [← osL_getD (os := os) (n := n) (by rw [← h.len]; exact hlt), List.getD_eq_getElem?_getD, hi]; rfl
  rw [hr] at h4
  obtain ⟨A', c', hv, k1, k2, k3, -⟩ := h4.slice
  rw [bs_length] at hv k2
  exact ⟨A', c', by rw [List.getElem?_eq_getElem hlt, hv], k1, k2, k3⟩
theorem encS_rows {N m : Nat} {data : List (List E)} : ∀ r ∈ encS N m data, r.length = firstL data := fun r hr => by
  obtain ⟨r', _, rfl⟩ := List.mem_map.1 hr
  exact prodRow_length _ _ _ _
theorem encS_length (N m : Nat) (data : List (List E)) : (encS N m data).length = N + m := encM_length _ _ _ _
set_option maxHeartbeats 16000000 in
theorem halfWalk_n (Ad At Ay : Option Addr) (N cd na cat ny cay : Nat) (M : Int) (data by_ : List (List E)) (at_ : List Int) (w : World) (hN : data.length = N) (hr : RdRows w Ad data) (hN2 : N ≤ 1048576) (hb : ∀ r ∈ data, r.length ≤ 1048576) (hat : Rd w At (intsZ at_)) (hna : at_.length = na) (haw : ∀ x ∈ at_, (Lit.int .i64 x).wf = true)
    (hby : RdRows w Ay by_) (hny : by_.length = ny) (hyb : ∀ r ∈ by_, r.length ≤ 1048576) (hwm : (Lit.int .i64 M).wf = true) (hna2 : na ≤ 1048576) (hny2 : ny ≤ 1048576) :
    Calls Try.prog 20 #[.agg #[.slice Ad N cd, .int .i64 M, .slice At na cat, .slice Ay ny cay]] w fun e w' => e = .returned (.bool true) ∧ Ext w w' := by
  have HN := Lib.hid hN
  have HB := Lib.hid hb
  have HR := Lib.hid hr
  have HAT := Lib.hid hat
  have HNA := Lib.hid hna
  have HAW := Lib.hid haw
  have HBY := Lib.hid hby
  have HNY := Lib.hid hny
  have HYB := Lib.hid hyb
  clear hN hb hr hat hna haw hby hny hyb
  have hq := fun (w : World) (a : Option Addr) (l c : Nat) => Lib.run_eql_slice_nil (P := Try.prog) w 77 24 a l c 0 0 Try.underlying77
  obtain ⟨wb, hwb⟩ : ∃ wb, wb = w.alloc (.cells #[.slice Ad N cd, .int .i64 M, .slice At na cat, .slice Ay ny cay] 96) := ⟨_, rfl⟩
  have hbk : Blk wb w.heap.size 96 #[.slice Ad N cd, .int .i64 M, .slice At na cat, .slice Ay ny cay] := by rw [hwb]; exact Blk.new _ _ _
  have hy : Ext w wb := by rw [hwb]; exact (Ext.refl w).alloc _
  have BK := Lib.hid hbk
  have Y := Lib.hid hy
  have HWB := Lib.hid hwb
  clear hbk hy hwb
  go_enter Try.func20, Try.ntmps20
  go_wp2_with fail
  rw [← HWB.out]
  clear HWB
  refine (awake_n _).mono ?_
  rintro e w1 ⟨rfl, hx1⟩
  replace BK := Lib.hid (BK.out.below hx1 BK.out.lt)
  replace Y := Lib.hid (Y.out.trans hx1)
  clear hx1
  have q0 : World.cell? w1 ⟨w.heap.size, 0, none⟩ = some (.slice Ad N cd) := BK.out.cell 0
  have q1 : World.cell? w1 ⟨w.heap.size, 1, none⟩ = some (.int .i64 M) := BK.out.cell 1
  have q2 : World.cell? w1 ⟨w.heap.size, 2, none⟩ = some (.slice At na cat) := BK.out.cell 2
  have q3 : World.cell? w1 ⟨w.heap.size, 3, none⟩ = some (.slice Ay ny cay) := BK.out.cell 3
  go_wp2_with fail
  clear q0 q1 q2 q3
  refine (encoded_n Ad N cd M (.slice At na cat) (.slice Ay ny cay) data _ HN.out (HR.out.ext Y.out) hwm hN2 HB.out ⟨_, _, _, rfl⟩ ⟨_, _, _, rfl⟩).mono ?_
  rintro e w2 (⟨-, rfl, hx2⟩ | ⟨m, g, c, hG, rfl, rfl, hro, hx2⟩)
  · have hx := Y.out.trans hx2
    have HX := Lib.hid hx
    clear hx hx2
    go_wp2_with fail
    go_ret
    exact ⟨rfl, HX.out⟩
  obtain ⟨hg1, hg2, hg3, hg4, hg5⟩ := hG
  obtain ⟨L, hL⟩ : ∃ L, L = firstL data := ⟨_, rfl⟩
  have hL0 : 0 < L := by rw [hL, firstL]; omega
  have hLb : L ≤ 1048576 := by
    rw [hL, firstL, List.getD_eq_getElem?_getD, List.getElem?_eq_getElem (show 0 < data.length by rw [HN.out]; omega), Option.getD_some]
    exact HB.out _ (List.getElem_mem _)
  obtain ⟨A', c', e', hrr, -, -⟩ := hro.rd
  rw [encS_length] at e'
  injection e' with eA eN eC
  subst eA
  subst eC
  clear eN
  replace BK := Lib.hid (BK.out.below hx2 BK.out.lt)
  replace Y := Lib.hid (Y.out.trans hx2)
  have HRR := Lib.hid hrr
  have HL := Lib.hid hL
  clear hx2 hro hrr hL hg5
  have q0 : World.cell? w2 ⟨w.heap.size, 0, none⟩ = some (.slice Ad N cd) := BK.out.cell 0
  have q1 : World.cell? w2 ⟨w.heap.size, 1, none⟩ = some (.int .i64 (m : Int)) := BK.out.cell 1
  have q2 : World.cell? w2 ⟨w.heap.size, 2, none⟩ = some (.slice At na cat) := BK.out.cell 2
  have q3 : World.cell? w2 ⟨w.heap.size, 3, none⟩ = some (.slice Ay ny cay) := BK.out.cell 3
  go_wp2_with fail
  clear q0 q1 q2 q3
  have HURT := hurt_n (some ⟨g, 0, none⟩) Ad At Ay (N + m) L c N cd na cat ny cay (m : Int) (encS N m data) by_ at_ w2 (encS_length _ _ _) (fun r hr => by rw [HL.out]; exact encS_rows r hr) HRR.out (HAT.out.ext Y.out) HNA.out HAW.out (HBY.out.ext Y.out) HNY.out HYB.out hwm (by omega) (by omega) hL0 hLb hna2 hny2
  with_reducible refine HURT.mono ?_
  clear HURT
  rintro e w3 ⟨go, cap, gl, gt, V, os, Ls, rfl, hst⟩
  have HST := Lib.hid hst
  replace BK := Lib.hid (BK.out.below hst.ext BK.out.lt)
  replace Y := Lib.hid (Y.out.trans hst.ext)
  replace HRR := Lib.hid (HRR.out.ext hst.ext)
  clear hst
  rcases (show m < lossN Ls (N + m) + 2 * othN (otherB Ls os (encS N m data)) (N + m) ∨ lossN Ls (N + m) + 2 * othN (otherB Ls os (encS N m data)) (N + m) ≤ m by omega) with h5 | h5
  · have d5 : decide (((lossN Ls (N + m) + 2 * othN (otherB Ls os (encS N m data)) (N + m) : Nat) : Int) ≤ (m : Int)) = false := decide_eq_false (by omega)
    rw [d5]
    clear d5 h5
    go_wp2_with fail
    go_ret
    exact ⟨rfl, Y.out⟩
  have d5 : decide (((lossN Ls (N + m) + 2 * othN (otherB Ls os (encS N m data)) (N + m) : Nat) : Int) ≤ (m : Int)) = true := decide_eq_true (by omega)
  rw [d5]
  have H5 := Lib.hid h5
  obtain ⟨n, hn⟩ : ∃ n, n = N + m := ⟨_, rfl⟩
  obtain ⟨rs, hrs⟩ : ∃ rs, rs = encS N m data := ⟨_, rfl⟩
  have hrl : rs.length = n := by rw [hrs, encS_length, hn]
  rw [← hn, ← hrs] at HST
  rw [← hrs] at HRR
  rw [← hn]
  have HSP : Hid (MendSpec (N : Int) (osL os n) rs ((List.range n).filter (otherB Ls os rs)) 0) := Lib.hid (half_mended hrl (fun r hr => by rw [hrs] at hr; rw [HL.out]; exact encS_rows r hr) hL0 hg1 (by omega) (by omega) HST.out.shape (by rw [hn, hrs]; omega) (fun c hc => by
    rw [hrs, hn]
    rw [HL.out] at hc
    obtain ⟨p, h1, h2⟩ := enc_poly (n := N + m) (Z := data.map (padR (firstL data))) (N := N) (by rw [List.length_map, HN.out]) (by omega) hc
    exact ⟨p, h1, h2⟩))
  have hn255 : n ≤ 255 := by omega
  have HRLN := Lib.hid hrl
  have HRSL : Hid (∀ r ∈ rs, r.length = L) := Lib.hid (fun r hr => by rw [hrs] at hr; rw [HL.out]; exact encS_rows r hr)
  clear d5 h5 H5 hrs hrl hn
  go_wp2_with fail
  go_loopw [9, 10] (fun v i wr => ∃ (q : Nat) (v' : Value), v' = v ∧ q ≤ n ∧ i = .int .i64 q ∧ Ext w3 wr ∧ Own wr w3.heap.size 3 v' (ints ((List.range q).filter (otherB Ls os rs)))) (fun _ i _ => n - (intOf i).toNat)
  case atStart => exact ⟨0, _, rfl, by omega, rfl, Ext.refl _, Own.nil _ _ _⟩
  case round =>
    obtain ⟨W, rfl⟩ : ∃ W, W = wr := ⟨_, rfl⟩
    obtain ⟨q, v, rfl, hq, rfl, hx, ho⟩ := hrel
    by_cases hlt : q < n
    · have c0 : W.cell? ⟨gt, q, none⟩ = some (.bool (otherB Ls os rs q)) := (HST.out.oth.ext hx).cell (by
        rw [bools, List.getElem?_map, List.getElem?_map, List.getElem?_range hlt]; rfl)
      have hle := hx.le
      have hbd : ((ints ((List.range q).filter (otherB Ls os rs))).length + 1) * 8 ≤ 140737488355328 := by rw [ints_length]; have := filter_le (otherB Ls os rs) q; omega
      have hqN : (q : Int) < (n : Int) := by omega
      obtain ⟨b, hb⟩ : ∃ b, b = otherB Ls os rs q := ⟨_, rfl⟩
      rw [← hb] at c0
      have HX := Lib.hid hx
      have HO := Lib.hid ho
      cases b with
      | true =>
        have HT : Hid ((List.range (q + 1)).filter (otherB Ls os rs) = (List.range q).filter (otherB Ls os rs) ++ [q]) := Lib.hid (by
          simp only [List.range_succ, List.filter_append, List.filter_cons, hb.symm, List.filter_nil, if_true])
        clear hb hx ho
        go_wp2_with (at_builtin; refine wpList_push W eltInt rfl _ _ (by rfl) w3.heap.size v _ (by rfl) (by exact HO.out) (.int .i64 q) (by rfl) rfl hbd hle ?_; intro v' w' ho' _ hb' _)
        go_roundw
        case rel => exact ⟨q + 1, _, rfl, by omega, by go_num, Below.trans HX.out hb', by rw [HT.out, ints_snoc]; exact ho'⟩
        case measure => simp [intOf]; omega
      | false =>
        have HT : Hid ((List.range (q + 1)).filter (otherB Ls os rs) = (List.range q).filter (otherB Ls os rs)) := Lib.hid (by
          simp only [List.range_succ, List.filter_append, List.filter_cons, hb.symm, List.filter_nil, Bool.false_eq_true, if_false, List.append_nil])
        clear hb hx ho
        go_wp2_with fail
        go_roundw
        case rel => exact ⟨q + 1, _, rfl, by omega, by go_num, HX.out, by rw [HT.out]; exact HO.out⟩
        case measure => simp [intOf]; omega
    · obtain rfl : n = q := by omega
      obtain ⟨Aw, cw, rfl, hrw, -, -, -⟩ := ho.slice
      rw [ints_length]
      obtain ⟨bad, hbad⟩ : ∃ l, l = (List.range n).filter (otherB Ls os rs) := ⟨_, rfl⟩
      rw [← hbad] at HSP hrw ⊢
      have hbl : bad.length ≤ n := by rw [hbad]; exact filter_le _ _
      have HRW := Lib.hid hrw
      have HX := Lib.hid hx
      have q0 : World.cell? W ⟨w.heap.size, 0, none⟩ = some (.slice Ad N cd) := (BK.out.below hx BK.out.lt).cell 0
      clear hrw hx ho hbad
      go_wp2_with fail
      clear q0
      have hol : ∀ r ∈ osL os n, r.length ≤ 1000000000 := fun r hr => by
        obtain ⟨i, hi, rfl⟩ := List.mem_map.1 hr
        rcases HST.out.shape i (List.mem_range.1 hi) with ⟨_, h⟩ | ⟨_, h⟩
        · rw [h]; simp
        · omega
      refine (mendR_n (N : Int) (some ⟨go, 0, none⟩) n cap (osL os n) _ (osL_length _ _) (HST.out.rd.ext HX.out) (wf_nat N (by omega)) (by omega) hol).mono ?_
      rintro e W4 ⟨va, vb, out, bad2, ee, rfl, hsp, hoa, hob, hx4⟩
      have hfine := hsp.fine (X := 1000000000) hol
      obtain ⟨rfl, rfl, rfl⟩ := HSP.out.uniq hsp
      obtain ⟨Av, cv, rfl, hrv, -, -⟩ := hoa.rd
      obtain ⟨Ab, cb, rfl, hrb, -, -, -⟩ := hob.slice
      rw [ints_length, HRLN.out]
      have HRV := Lib.hid hrv
      have HRB := Lib.hid hrb
      have F4 := Lib.hid hfine.2.2.2.1
      have HXF := Lib.hid (Y.out.trans (HX.out.trans hx4))
      replace HRR := Lib.hid ((HRR.out.ext HX.out).ext hx4)
      replace HRW := Lib.hid (HRW.out.ext hx4)
      clear hsp hoa hob hrv hrb hfine hx4 hol HSP HST
      go_wp2_with (go_at_call 64; with_reducible refine (num5_any 0 (by decide) _).mono ?_; rintro e w' ⟨rfl, rfl⟩)
      refine (sameRows_n Av (some ⟨g, 0, none⟩) n n cv c rs _ HRLN.out HRLN.out HRV.out HRR.out (by omega) (fun r hr => by have := HRSL.out r hr; omega)).mono ?_
      rintro e W5 ⟨rfl, hx5⟩
      replace HXF := Lib.hid (HXF.out.trans hx5)
      replace HRB := Lib.hid (HRB.out.ext hx5)
      replace HRW := Lib.hid (HRW.out.ext hx5)
      clear hx5
      go_wp2_with fail
      refine (sameInts_n Ab Aw _ _ bad cb cw _ rfl rfl HRB.out HRW.out (by omega) F4.out).mono ?_
      rintro e W6 ⟨rfl, hx6⟩
      replace HXF := Lib.hid (HXF.out.trans hx6)
      clear hx6
      go_wp2_with fail
      go_ret
      exact ⟨rfl, HXF.out⟩
end Go.Proofs.Ytemnlcfabaocbaa
/-
  The arguments of a law opened where they are together of a bulk that is bounded: numbers, a struct of four.
-/
namespace Go.Proofs.Ytemnlcfabaocbaa
open Go.ChangeShapes Go.WideShapes Go.ChangeAt Go.RowKit Gf Go.Deep
set_option linter.unusedVariables false

section
variable {H : Type} {enc : TypeId × Value → H} {P : Program} {w : World}
theorem open_ints_u {base : Nat} {held : Bool} {t e : TypeId} {fuel : Nat} {cs : List Value} {y : DataW H × List MemPlace} (ht : P.underlying t = some (.slice e)) (he : P.underlying e = some (.int .i64)) (hc : P.cellsOf e = 1)
    (h : DataW.trod enc P w base (fun _ => true) held fuel t cs = some y) (hB : Rows.uptoBulk y.1 ≤ 1048576) :
    ∃ (A : Option Addr) (cap : Nat) (xs : List Int), cs = [.slice A xs.length cap] ∧ Rd w A (intsZ xs) ∧ xs.length ≤ cap ∧ cap ≤ 1048576 ∧ ∀ x ∈ xs, (Lit.int .i64 x).wf = true := by
  rcases open_ints ht he hc h with ⟨hcs, _⟩ | ⟨x, l, c', zs, hcs, _, hl, hm, hz, hx, hcell, hwz⟩
  · exact ⟨none, 0, [], hcs, Rd.nil _ _, Nat.le_refl _, by omega, by simp⟩
  · simp only [if_true] at hz
    have hcap : c' ≤ 1048576 := by
      rw [hx] at hB
      simp only [Rows.uptoBulk] at hB
      have h1 := bulk_len (H := H) (lits .i64 (zs.take l))
      have h2 := bulk_len (H := H) (lits .i64 (zs.drop l))
      rw [lits_length, List.length_take] at h1
      rw [lits_length, List.length_drop] at h2
      omega
    have hlz : (zs.take l).length = l := by rw [List.length_take]; omega
    refine ⟨some x, c', zs.take l, by rw [hlz]; exact hcs, fun _ => ⟨x, rfl, fun j u hu => ?_⟩, by rw [hlz]; exact hl, hcap, fun z hzm => hwz z (List.mem_of_mem_take hzm)⟩
    have hj : j < l := by
      have := (List.getElem?_eq_some_iff.1 hu).1
      rw [intsZ_length, hlz] at this; exact this
    rw [hcell j (by omega)]
    rw [intsZ_get _ _ (by rw [hlz]; exact hj)] at hu
    rw [← hu, List.getElem_take, List.getD_eq_getElem?_getD, List.getElem?_eq_getElem (by omega)]
    rfl
theorem array4 {α : Type} {cs : Array α} (h : cs.size = 4) : ∃ c0 c1 c2 c3, cs = #[c0, c1, c2, c3] := by
  obtain ⟨l⟩ := cs
  match l, h with
  | [c0, c1, c2, c3], _ => exact ⟨c0, c1, c2, c3, rfl⟩
theorem open_agg4u {base : Nat} {spare : Nat → Bool} {held : Bool} {r : Reach} {b0 : Nat} {t : TypeId} {f0 f1 f2 f3 : Field} {v : Value} {d : DataW H} {p : List MemPlace} (hs : P.underlying t = some (.struct #[f0, f1, f2, f3])) (hone : oneCellFields P #[f0, f1, f2, f3] = true) (hC : P.cellsOf t = 4)
    (hv : Value.okWide P w r b0 t v) (h : DataW.Trod enc P w base spare held t v d p) :
    ∃ (v0 v1 v2 v3 : Value) (y0 y1 y2 y3 : DataW H × List MemPlace) (n : Nat), v = .agg #[v0, v1, v2, v3] ∧ d = .agg [y0.1, y1.1, y2.1, y3.1] ∧
      DataW.trod enc P w base spare held n f0.type [v0] = some y0 ∧ DataW.trod enc P w base spare held n f1.type [v1] = some y1 ∧ DataW.trod enc P w base spare held n f2.type [v2] = some y2 ∧ DataW.trod enc P w base spare held n f3.type [v3] = some y3 := by
  obtain ⟨cs, rfl, hsz⟩ := okWide_struct hs hv
  obtain ⟨c0, c1, c2, c3, rfl⟩ := array4 (hsz.trans hC)
  obtain ⟨fuel, hf⟩ := h
  obtain ⟨xs, n, _, hx, hl, hlen, hff⟩ := DataW.trod_struct hs hf
  obtain ⟨o0, k0⟩ := hone_of hone 0 f0 rfl
  obtain ⟨o1, k1⟩ := hone_of hone 1 f1 rfl
  obtain ⟨o2, k2⟩ := hone_of hone 2 f2 rfl
  obtain ⟨o3, k3⟩ := hone_of hone 3 f3 rfl
  match xs, hlen with
  | [y0, y1, y2, y3], _ =>
    simp only [Prod.mk.injEq] at hx
    exact ⟨c0, c1, c2, c3, y0, y1, y2, y3, n, rfl, by simpa using hx.1, by simpa [Value.cells, o0, k0] using hff 0 f0 rfl, by simpa [Value.cells, o1, k1] using hff 1 f1 rfl, by simpa [Value.cells, o2, k2] using hff 2 f2 rfl, by simpa [Value.cells, o3, k3] using hff 3 f3 rfl⟩
end
end Go.Proofs.Ytemnlcfabaocbaa
