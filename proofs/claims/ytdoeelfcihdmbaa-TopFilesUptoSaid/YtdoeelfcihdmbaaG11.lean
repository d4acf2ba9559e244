/-
  Texts of mine, merged: BJoin StrpA StrpB StrpC StrpD.
-/
import Derived.Test.YtdoeelfcihdmbaaG7
import Derived.Test.YtdoeelfcihdmbaaG9
import Derived.Test.YtdoeelfcihdmbaaG10
import Derived.Lib.MakeNoZero
import Derived.Laws.Externs
/-
  The library: bytes.Join of rows, nothing between them.
-/
namespace Go.Proofs.Ytdoeelfcihdmbaa
open Go.RowKit Gf
set_option maxRecDepth 20000
set_option linter.unusedVariables false

section
variable {P : Program}
theorem wpList_copied {ops : Array Oper} {rest : List Oper} {o : Oper} {a : Act} {w : World} {Q : Exit → Act → World → Prop} (hgd : o.guard = none) (d s : Operand) (t : TypeId)
    (ho : o.op = .call { callee := .builtin .copy, args := #[d, s], argTypes := #[t, t] }) (v u : Value) (hd : a.eval d = v) (hs : a.eval s = u) {v' : Value} {w' : World}
    (hr : (Builtin.copy_ #[t, t] o.type #[v, u]).run P w = .ok v' w') (h : wpList P ops Q rest (a.put o.dst v') w') : wpList P ops Q (o :: rest) a w := by
  refine wpList_plain hgd fun _ hK => ?_
  unfold Oper.wp execOp
  simp only [ho, resolve, invoke, builtin, Sem.run_bind, Sem.run_pure, Result.andThen_ok, List.map_toArray, List.map_cons, List.map_nil, hd, hs, hr]
  exact hK _ _ h
end
theorem RdRows.cut {w : World} {A : Option Addr} {rs : List (List E)} {c l : Nat} (h : RdRows w A rs) (hl : l ≤ rs.length) (hc : rs.length ≤ c) : RdRows w (cutA A c l) (rs.drop l) := by
  obtain ⟨V, h1, h2, h3⟩ := h
  refine ⟨V.drop l, by rw [List.length_drop, List.length_drop, h1], h2.cutA (by rw [h1]; exact hl) (by rw [h1]; exact hc), fun i r hi => ?_⟩
  rw [List.getElem?_drop] at hi ⊢
  exact h3 (l + i) r hi
/-- The buffer while it is filled. -/
structure JBuf (w wr : World) (g T : Nat) (acc : List E) : Prop where
  ext : Ext w wr
  hg : w.heap.size ≤ g
  fits : acc.length ≤ T
  blk : ∃ cs, Blk wr g 5 cs ∧ T ≤ cs.size ∧ cs.toList.take acc.length = bs acc
/-- One part more. -/
theorem JBuf.put {w wr : World} {g T : Nat} {acc : List E} (h : JBuf w wr g T acc) (D A : Option Addr) (dc m c : Nat) (x : List E) (hx : x.length = m) (hr : Rd wr A (bs x)) (hT : acc.length + m ≤ T) (hD : 0 < m → D = some ⟨g, acc.length, none⟩) :
    ∃ w', (Builtin.copy_ #[24, 24] 3 #[.slice D (T - acc.length) dc, .slice A m c]).run Try.prog wr = .ok (.int .i64 (m : Int)) w' ∧ JBuf w w' g T (acc ++ x) := by
  obtain ⟨cs, hb, hT2, htk⟩ := h.blk
  obtain ⟨w', h1, h2, h3⟩ := copy_at (P := Try.prog) eltU8 3 wr D g acc.length (T - acc.length) dc A m c 5 cs (bs x) hb (by rw [bs_length, hx]; exact hD) (by rw [bs_length, hx]; exact (Nat.min_eq_left (by omega)).symm) hr (by rw [bs_length, hx]; omega) (bs_ones _)
  rw [bs_length, hx] at h1
  refine ⟨w', h1, h3.extNew h.ext h.hg, h.hg, by rw [List.length_append, hx]; exact hT, _, h2, by rw [seg_size _ _ _ (by rw [bs_length, hx]; omega)]; exact hT2, ?_⟩
  rw [seg, List.toList_toArray, List.length_append, bs_append, ← htk, List.append_assoc]
  have hl : (cs.toList.take acc.length).length = acc.length := by rw [htk, bs_length]
  rw [List.take_append, hl, List.take_of_length_le (by rw [hl]; omega), show acc.length + x.length - acc.length = (bs x).length by rw [bs_length]; omega, List.take_left]
theorem copy_nil (w : World) (D : Option Addr) (n c : Nat) : (Builtin.copy_ #[24, 24] 3 #[.slice D n c, .slice none 0 0]).run Try.prog w = .ok (.int .i64 0) w := by
  obtain ⟨i, hi, _, hs1, _⟩ := (eltU8).info
  exact run_copy_none (P := Try.prog) w _ _ _ 5 D none n c 0 0 (eltU8).ty (by rw [hi, Option.map_some, hs1]) (Nat.zero_min _)
def BJoinOut (bls : List (List E)) (w : World) (e : Ending) (w' : World) : Prop := (∃ A' c', e = .returned (.slice A' bls.flatten.length c') ∧ Rd w' A' (bs bls.flatten) ∧ bls.flatten.length ≤ c' ∧ c' ≤ maxLen ∧ ∀ ad, A' = some ad → w.heap.size ≤ ad.block) ∧ Ext w w'
set_option maxHeartbeats 8000000 in
theorem bjoin_n (A : Option Addr) (q c : Nat) (bls : List (List E)) (w : World) (hn : bls.length = q) (hr : RdRows w A bls) (hq : 1 ≤ q) (hc : q ≤ c) (hq2 : q ≤ 100000) (ht : bls.flatten.length ≤ 1000000000) :
    Calls Try.prog 117 #[.slice A q c, .slice none 0 0] w (BJoinOut bls w) := by
  have HN := Lib.hid hn
  have HR := Lib.hid hr
  have h0l : 0 < bls.length := by omega
  obtain ⟨ad, A0, c0, rfl, hz0, hr0, -, -⟩ := hr.at_ h0l
  rw [add_zero'] at hz0
  obtain ⟨m0, hm0⟩ : ∃ m, m = bls[0].length := ⟨_, rfl⟩
  obtain ⟨x0, hx0⟩ : ∃ x, x = bls[0] := ⟨_, rfl⟩
  have hm0b : m0 ≤ bls.flatten.length := by have := flatten_mid_le bls 0 h0l; omega
  rw [← hm0] at hz0
  rw [← hx0] at hr0 hm0
  have HX0 := Lib.hid (And.intro hx0 hm0)
  have HR0 := Lib.hid hr0
  have e1 : (q : Int) ≠ 0 := by omega
  have hqb : ((q : Int) == 0) = false := by rw [beq_eq_false_iff_ne]; omega
  have hq0 : (0 : Int) < (q : Int) := by omega
  clear hn hr hr0 hx0 hm0 e1
  by_cases hq1 : q = 1
  · subst hq1
    have HF : Hid (bls.flatten = x0) := Lib.hid (by
      obtain ⟨b, hb⟩ := List.length_eq_one_iff.1 HN.out
      have h := HX0.out.1
      subst hb
      simpa using h.symm)
    have hbd : (([] : List Value).length + m0) * 1 ≤ 140737488355328 := by simp; omega
    go_enter Try.func117, Try.ntmps117
    go_wp2_with (at_builtin; refine wpList_app w eltU8 rfl _ _ (by rfl) w.heap.size (.slice none 0 0) [] (by rfl) (by exact Own.nil _ _ _) A0 m0 c0 (bs x0) (by rfl) HR0.out (by rw [bs_length, HX0.out.2]) (bs_ones _) hbd (Nat.le_refl _) ?_)
    intro v w' ho hm
    have hx' : Ext w w' := hm.below (Nat.le_refl _) fun g hg => by cases hg
    obtain ⟨A', c', rfl, h1, h2, h3, h4⟩ := ho.slice
    rw [bs_length, ← HX0.out.2] at h2 ⊢
    have HFIN : Hid (BJoinOut bls w (.returned (.slice A' m0 c')) w') := Lib.hid ⟨⟨A', c', by rw [HF.out, HX0.out.2], by rw [HF.out]; exact h1, by rw [HF.out, ← HX0.out.2]; exact h2, h3, fun ad e => (h4 ad e).1⟩, hx'⟩
    clear ho hm hx' h1 h2 h3 h4
    go_wp2_with fail
    go_ret
    exact HFIN.out
  · have hqb1 : ((q : Int) == 1) = false := by rw [beq_eq_false_iff_ne]; omega
    go_enter Try.func117, Try.ntmps117
    go_wp2_with fail
    go_loop [5, 44] (fun s i => ∃ j : Nat, j ≤ q ∧ i = .int .i64 j ∧ s = .int .i64 (((bls.take j).flatten.length : Nat) : Int)) (fun _ i => q - (intOf i).toNat)
    case atStart => exact ⟨0, by omega, rfl, by simp⟩
    case round =>
      obtain ⟨j, hj, rfl, rfl⟩ := hrel
      by_cases hlt : j < q
      · have hjl : j < bls.length := by rw [HN.out]; exact hlt
        obtain ⟨ad', B1, c1, e1, hz1, -, -, -⟩ := HR.out.at_ hjl
        cases e1
        obtain ⟨m1, hm1⟩ : ∃ m, m = bls[j].length := ⟨_, rfl⟩
        obtain ⟨sm, hsm⟩ : ∃ s, s = (bls.take j).flatten.length := ⟨_, rfl⟩
        have h5 := flatten_mid_le bls j hjl
        have hs1 : Hid ((bls.take (j + 1)).flatten.length = sm + m1) := Lib.hid (by rw [flatten_snoc bls j hjl, List.length_append, hsm, hm1])
        rw [← hsm, ← hm1] at h5
        rw [← hm1] at hz1
        rw [← hsm]
        have hd : decide (9223372036854775807 - (sm : Int) < (m1 : Int)) = false := decide_eq_false (by omega)
        clear hsm hm1
        go_wp2_with fail
        go_round
        case rel => exact ⟨j + 1, by omega, by go_num, by rw [hs1.out]; go_num⟩
        case measure => simp [intOf]; omega
      · obtain rfl : q = j := by omega
        rw [List.take_of_length_le (by rw [HN.out]; exact Nat.le_refl _)]
        obtain ⟨T, hT⟩ : ∃ T, T = bls.flatten.length := ⟨_, rfl⟩
        rw [← hT] at ht hm0b ⊢
        obtain ⟨cs, hrunM, hle, -⟩ := Lib.run_makeNoZero (P := Try.prog) w #[3] 24 5 (eltU8).ty T (by omega)
        have hcall : (callFunc 171 #[.int .i64 (T : Int)]).run Try.prog w = .ok (.value (.slice (some ⟨w.heap.size, 0, none⟩) T cs.size)) ((w.alloc (.cells cs 5)).drewN 2) := by
          rw [run_callFunc_extern Try.func171 (by kernel_rfl) (by kernel_rfl) (by kernel_rfl) (e := Extern.BytealgMakeNoZero.makeNoZero #[3] #[24]) (by kernel_rfl), hrunM]
          rfl
        have i0 : (0 : Int) ≤ (T : Int) := by omega
        have i1 : (T : Int) ≤ (cs.size : Int) := by omega
        have HTT := Lib.hid hT
        clear hrunM hT
        have hxw : Ext w ((w.alloc (.cells cs 5)).drewN 2) := ((Ext.refl w).alloc _).drewN 2
        have hz2 : ((w.alloc (.cells cs 5)).drewN 2).cell? ad = some (.slice A0 m0 c0) := (hxw.cell (World.block_lt_of_cell? _ _ hz0)).trans hz0
        have hJ0 : JBuf w ((w.alloc (.cells cs 5)).drewN 2) w.heap.size T [] := ⟨hxw, Nat.le_refl _, Nat.zero_le _, cs, (Blk.new w 5 cs).drewN 2, hle, by simp [bs]⟩
        obtain ⟨w1, hrun1, hJ1⟩ := hJ0.put (some ⟨w.heap.size, 0, none⟩) A0 T m0 c0 x0 HX0.out.2.symm (HR0.out.ext hxw) (by simp; omega) (fun _ => rfl)
        rw [List.nil_append] at hJ1
        rw [List.length_nil, Nat.sub_zero] at hrun1
        have hslr := fun w => slice_l tyRows oneRows (some ad) q c 1 .i64 1 rfl hq hc w
        obtain ⟨A1, hA1⟩ : ∃ A1, A1 = cutA (some ad) c 1 := ⟨_, rfl⟩
        rw [← hA1] at hslr
        have HR1 : Hid (RdRows w A1 (bls.drop 1)) := Lib.hid (by rw [hA1]; exact HR.out.cut (by rw [HN.out]; exact hq) (by rw [HN.out]; exact hc))
        have HJ1 := Lib.hid hJ1
        have hqm : (q : Int) - 1 = ((q - 1 : Nat) : Int) := by omega
        clear hJ0 hJ1 hA1 hqm
        go_wp2_with (at_builtin; refine wpList_copied rfl _ _ 24 rfl _ _ rfl rfl hrun1 ?_)
        clear hrun1 hz2 hcall hxw i0 i1 hz0
        go_loopw [9, 72] (fun b i wr => ∃ j : Nat, j ≤ q - 1 ∧ i = .int .i64 j ∧ b = .int .i64 (((bls.take (j + 1)).flatten.length : Nat) : Int) ∧ JBuf w wr w.heap.size T (bls.take (j + 1)).flatten) (fun _ i _ => q - 1 - (intOf i).toNat)
        case atStart =>
          have e : (bls.take 1).flatten = x0 := by
            rw [show (1 : Nat) = 0 + 1 from rfl, flatten_snoc bls 0 (by rw [HN.out]; omega)]
            simpa using HX0.out.1.symm
          exact ⟨0, by omega, rfl, by rw [e, ← HX0.out.2], by rw [e]; exact HJ1.out⟩
        case round =>
          clear HJ1
          obtain ⟨W, rfl⟩ : ∃ W, W = wr := ⟨_, rfl⟩
          obtain ⟨j, hj, rfl, rfl, hJ⟩ := hrel
          by_cases hlt : j < q - 1
          · have hjl : j < (bls.drop 1).length := by rw [List.length_drop, HN.out]; exact hlt
            have hjb : j + 1 < bls.length := by rw [HN.out]; omega
            obtain ⟨bd, B1, c1, rfl, hz1, hr1, -, -⟩ := (HR1.out.ext hJ.ext).at_ hjl
            have eg : (bls.drop 1)[j] = bls[j + 1] := by rw [List.getElem_drop]; congr 1; omega
            rw [eg] at hz1 hr1
            obtain ⟨x1, hx1⟩ : ∃ x, x = bls[j + 1] := ⟨_, rfl⟩
            obtain ⟨m1, hm1⟩ : ∃ m, m = x1.length := ⟨_, rfl⟩
            rw [← hx1] at hr1 hz1
            rw [← hm1] at hz1
            obtain ⟨acc, hacc⟩ : ∃ a, a = (bls.take (j + 1)).flatten := ⟨_, rfl⟩
            obtain ⟨L, hL⟩ : ∃ L, L = acc.length := ⟨_, rfl⟩
            have hsn : (bls.take (j + 1 + 1)).flatten = acc ++ x1 := by rw [flatten_snoc bls (j + 1) hjb, hacc, hx1]
            have hfit := flatten_take_le bls (j + 1 + 1)
            rw [hsn, List.length_append, ← hL, ← hm1, ← HTT.out] at hfit
            rw [← hacc] at hJ ⊢
            rw [← hL]
            have hsl := fun w' => slice_l tyU8 oneU8 (some ⟨w.heap.size, 0, none⟩) T T L .i64 (L : Int) rfl (by omega) (Nat.le_refl _) w'
            obtain ⟨D, hD⟩ : ∃ D, D = cutA (some ⟨w.heap.size, 0, none⟩) T L := ⟨_, rfl⟩
            rw [← hD] at hsl
            have hDD : 0 < m1 → D = some ⟨w.heap.size, acc.length, none⟩ := fun h => by
              rw [hD, cutA, if_neg (by omega), Option.map_some, add_plain, hL]
            obtain ⟨w3, hrun3, hJ3⟩ := hJ.put D B1 (T - L) m1 c1 x1 hm1.symm hr1 (by rw [← hL]; exact hfit) hDD
            rw [← hL] at hrun3
            have hrunn := copy_nil W D (T - L) (T - L)
            have HJ3 := Lib.hid hJ3
            have HSN : Hid ((bls.take (j + 1 + 1)).flatten = acc ++ x1 ∧ (acc ++ x1).length = L + m1) := Lib.hid ⟨hsn, by rw [List.length_append, hL, hm1]⟩
            have hjq : (j : Int) < ((q - 1 : Nat) : Int) := by omega
            clear hJ3 hsn hD hDD hJ hr1 hacc hL hx1 hm1 eg
            go_wp2_with (at_builtin; first | refine wpList_copied rfl _ _ 24 rfl _ _ rfl rfl hrunn ?_ | refine wpList_copied rfl _ _ 24 rfl _ _ rfl rfl hrun3 ?_)
            go_roundw
            case rel => exact ⟨j + 1, by omega, by go_num, by rw [HSN.out.1, HSN.out.2]; go_num, by rw [HSN.out.1]; exact HJ3.out⟩
            case measure => simp [intOf]; omega
          · have hjq : j + 1 = q := by omega
            rw [hjq, List.take_of_length_le (by rw [HN.out]; exact Nat.le_refl _)] at hJ
            obtain ⟨cs9, hb9, hT9, htk9⟩ := hJ.blk
            have HFIN : Hid (BJoinOut bls w (.returned (.slice (some ⟨w.heap.size, 0, none⟩) T T)) W) := Lib.hid ⟨⟨_, T, by rw [HTT.out], fun _ => ⟨_, rfl, fun k u hu => by
              rw [add_plain, hb9.cell]
              rw [← htk9, List.getElem?_take] at hu
              split at hu
              · simpa using hu
              · cases hu⟩, by rw [HTT.out]; exact Nat.le_refl _, by unfold maxLen; omega, fun ad e => by cases e; exact Nat.le_refl _⟩, hJ.ext⟩
            clear hJ hb9 hT9 htk9
            go_wp2_with fail
            go_ret
            exact HFIN.out
end Go.Proofs.Ytdoeelfcihdmbaa
/-
  Layer 10: which shards are there.
-/
namespace Go.Proofs.Ytdoeelfcihdmbaa
open Go.RowKit Gf
set_option maxRecDepth 20000
set_option linter.unusedVariables false

/-- Shards as they lie in a block. -/
def RdS (w : World) (g : Nat) (l : List (HeadP × Value)) : Prop := ∀ (i : Nat) (p : HeadP × Value), l[i]? = some p → ∀ (j : Nat) (u : Value), (shardC p.1 p.2)[j]? = some u → w.cell? ⟨g, i * 17 + j, none⟩ = some u
theorem RdS.ext {w w' : World} {g : Nat} {l : List (HeadP × Value)} (h : RdS w g l) (hx : Ext w w') : RdS w' g l := fun i p hp j u hu => (hx.cell (World.block_lt_of_cell? _ _ (h i p hp j u hu))).trans (h i p hp j u hu)
theorem RdS.shard {w : World} {g : Nat} {l : List (HeadP × Value)} (h : RdS w g l) {i : Nat} {p : HeadP × Value} (hp : l[i]? = some p) : ∀ j v, (shardC p.1 p.2)[j]? = some v → w.cell? ((⟨g, i * 17, none⟩ : Addr).add j) = some v := fun j v hv => by
  have : (⟨g, i * 17, none⟩ : Addr).add j = ⟨g, i * 17 + j, none⟩ := by unfold Addr.add; split <;> simp_all
  rw [this]; exact h i p hp j v hv
theorem RdS.sub {w : World} {g : Nat} {l : List (HeadP × Value)} (h : RdS w g l) {i : Nat} {p : HeadP × Value} (hp : l[i]? = some p) (o : Nat) (ds : Array Value) (hd : ∀ j v, ds[j]? = some v → (shardC p.1 p.2)[o + j]? = some v) : ∀ j v, ds[j]? = some v → w.cell? ((⟨g, i * 17 + o, none⟩ : Addr).add j) = some v := fun j v hv => by
  have : (⟨g, i * 17 + o, none⟩ : Addr).add j = ⟨g, i * 17 + (o + j), none⟩ := by unfold Addr.add; split <;> simp_all [Nat.add_assoc]
  rw [this]; exact h i p hp (o + j) v (hd j v hv)
/-- A missing shard, or one of some shape. -/
def ShardOk (p : HeadP × Value) : Prop := (p.1 = zeroH ∨ (1 ≤ p.1.k ∧ p.1.k ≤ 1000000 ∧ p.1.m ≤ 1000000 ∧ p.1.blk ≤ 1000000)) ∧ ∃ A n c, p.2 = .slice A n c
/-- The shape of nothing. -/
def noShape : Array Value := #[.int .i64 0, .int .i64 0, .int .i64 0]
theorem shape_zero (h : HeadP) (h1 : h.k ≤ 1000000) (h2 : h.m ≤ 1000000) (h3 : h.blk ≤ 1000000) : ∃ r : Bool, (∀ w, (binOp .neq 39 (.agg (shapeC h)) (.agg noShape)).run Try.prog w = .ok (.bool (!r)) w) ∧ (∀ w, (binOp .eql 39 (.agg (shapeC h)) (.agg noShape)).run Try.prog w = .ok (.bool r) w) ∧ (r = true ↔ (h.k = 0 ∧ h.m = 0 ∧ h.blk = 0)) := by
  have key := fun w => cmp_shape h.k h.m h.blk 0 0 0 (by omega) (by omega) (by omega) (by omega) (by omega) (by omega) w
  refine ⟨decide (h.k = 0 ∧ h.m = 0 ∧ h.blk = 0), fun w => ?_, fun w => ?_, by simp⟩
  · obtain ⟨r, e1, e2, e3⟩ := key w
    have : r = decide (h.k = 0 ∧ h.m = 0 ∧ h.blk = 0) := by rw [Bool.eq_iff_iff, e3, decide_eq_true_iff]
    rw [← this]; exact e1
  · obtain ⟨r, e1, e2, e3⟩ := key w
    have : r = decide (h.k = 0 ∧ h.m = 0 ∧ h.blk = 0) := by rw [Bool.eq_iff_iff, e3, decide_eq_true_iff]
    rw [← this]; exact e2
def ModelOut (l : List (HeadP × Value)) (w : World) (e : Ending) (w' : World) : Prop := (∃ (i : Nat) (p : HeadP × Value), e = .returned (.int .i64 (i : Int)) ∧ l[i]? = some p ∧ p.1 ≠ zeroH) ∧ Ext w w'
set_option maxHeartbeats 4000000 in
theorem model_n (g n c : Nat) (l : List (HeadP × Value)) (w : World) (hn : l.length = n) (hr : RdS w g l) (hok : ∀ p ∈ l, ShardOk p) (hex : ∃ p ∈ l, p.1 ≠ zeroH) (hn2 : n ≤ 1000000) :
    Calls Try.prog 169 #[.slice (some ⟨g, 0, none⟩) n c] w (ModelOut l w) := by
  have HN := Lib.hid hn
  have HR := Lib.hid hr
  have HOK := Lib.hid hok
  have HEX := Lib.hid hex
  clear hn hr hok hex
  go_enter Try.func169, Try.ntmps169
  go_wp2_with fail
  go_loopw [7] (fun i wr => ∃ j : Nat, j ≤ n ∧ i = .int .i64 j ∧ Ext w wr ∧ ∀ (k : Nat) (p : HeadP × Value), k < j → l[k]? = some p → p.1 = zeroH) (fun i _ => n - (intOf i).toNat)
  case atStart => exact ⟨0, by omega, rfl, Ext.refl _, fun k p h => by omega⟩
  case round =>
    obtain ⟨W, rfl⟩ : ∃ W, W = wr := ⟨_, rfl⟩
    obtain ⟨j, hj, rfl, hx, hz⟩ := hrel
    have HX := Lib.hid hx
    have HZ := Lib.hid hz
    clear hx hz
    by_cases hlt : j < n
    · have hjl : j < l.length := by rw [HN.out]; exact hlt
      obtain ⟨p, hp⟩ : ∃ p, l[j]? = some p := ⟨_, List.getElem?_eq_getElem hjl⟩
      obtain ⟨h, v⟩ := p
      have hok1 := HOK.out _ (List.mem_of_getElem? hp)
      obtain ⟨hk, Av, nv, cv, hv⟩ := hok1
      simp only at hk hv
      subst hv
      have HRD := Lib.hid ((HR.out.ext HX.out).shard hp)
      have HP := Lib.hid hp
      clear hp
      have hsm : h.k ≤ 1000000 ∧ h.m ≤ 1000000 ∧ h.blk ≤ 1000000 := by
        rcases hk with rfl | hk
        · exact ⟨by decide, by decide, by decide⟩
        · exact ⟨hk.2.1, hk.2.2.1, hk.2.2.2⟩
      obtain ⟨r, e1, -, e3⟩ := shape_zero h hsm.1 hsm.2.1 hsm.2.2
      have HE3 : Hid (r = true ↔ h = zeroH) := Lib.hid (e3.trans ⟨fun e => by
        rcases hk with hk | hk
        · exact hk
        · omega, fun e => by subst e; exact ⟨rfl, rfl, rfl⟩⟩)
      have HE1 := Lib.hid e1
      clear hk hsm e1 e3
      cases r with
      | true =>
        go_wp2_with (first | (refine wpList_load_at rfl 50 _ rfl ⟨g, j * 17, none⟩ rfl (shardC h (.slice Av nv cv)) _ HRD.out Try.underlying50 rfl (by kernel_rfl) ?_) | (refine wpList_store_at rfl 50 _ _ rfl W.heap.size 0 (shardC h (.slice Av nv cv)) rfl rfl 50 (shardC zeroH (.slice none 0 0)) (Blk.new _ _ _) (by kernel_rfl) (Nat.le_refl 17) (shardC_ones h rfl) ?_; intro w2 k0 k2; have k1 : Blk w2 W.heap.size 50 (shardC h (.slice Av nv cv)) := (zeroS_fill (shardC zeroH (.slice none 0 0)) rfl h (.slice Av nv cv)) ▸ k0) | (refine wpList_load_at rfl 39 _ rfl ⟨W.heap.size, 8, none⟩ rfl (shapeC h) _ (k1.sub 8 (shapeC h) (shard_shape h _)) Try.underlying39 rfl (by kernel_rfl) ?_) | (refine wpList_cmp rfl .neq 39 39 _ _ rfl (shapeC h) noShape rfl rfl (by kernel_rfl) _ (HE1.out _) ?_))
        have HX2 : Hid (Ext w w2) := Lib.hid (k2.extNew (HX.out.alloc _) HX.out.le)
        clear k0 k1 k2
        go_roundw
        case rel => exact ⟨j + 1, by omega, by go_num, HX2.out, fun k p hk hp => by
          rcases Nat.lt_or_ge k j with h5 | h5
          · exact HZ.out k p h5 hp
          · obtain rfl : k = j := by omega
            rw [HP.out] at hp
            cases hp
            exact HE3.out.1 rfl⟩
        case measure => simp [intOf]; omega
      | false =>
        go_wp2_with (first | (refine wpList_load_at rfl 50 _ rfl ⟨g, j * 17, none⟩ rfl (shardC h (.slice Av nv cv)) _ HRD.out Try.underlying50 rfl (by kernel_rfl) ?_) | (refine wpList_store_at rfl 50 _ _ rfl W.heap.size 0 (shardC h (.slice Av nv cv)) rfl rfl 50 (shardC zeroH (.slice none 0 0)) (Blk.new _ _ _) (by kernel_rfl) (Nat.le_refl 17) (shardC_ones h rfl) ?_; intro w2 k0 k2; have k1 : Blk w2 W.heap.size 50 (shardC h (.slice Av nv cv)) := (zeroS_fill (shardC zeroH (.slice none 0 0)) rfl h (.slice Av nv cv)) ▸ k0) | (refine wpList_load_at rfl 39 _ rfl ⟨W.heap.size, 8, none⟩ rfl (shapeC h) _ (k1.sub 8 (shapeC h) (shard_shape h _)) Try.underlying39 rfl (by kernel_rfl) ?_) | (refine wpList_cmp rfl .neq 39 39 _ _ rfl (shapeC h) noShape rfl rfl (by kernel_rfl) _ (HE1.out _) ?_))
        have HX2 : Hid (Ext w w2) := Lib.hid (k2.extNew (HX.out.alloc _) HX.out.le)
        clear k0 k1 k2
        go_ret
        exact ⟨⟨j, _, rfl, HP.out, fun e => by have := HE3.out.2 e; simp at this⟩, HX2.out⟩
    · exfalso
      obtain ⟨p, hp, hne⟩ := HEX.out
      obtain ⟨k, hk⟩ := List.mem_iff_getElem?.1 hp
      exact hne (HZ.out k p (by have := (List.getElem?_eq_some_iff.1 hk).1; rw [HN.out] at this; omega) hk)
set_option maxHeartbeats 2000000 in
theorem fit_n (A B : Option Addr) (q c cb : Nat) (bls : List (List E)) (ns : List Nat) (w : World) (hl : bls.map List.length = ns) (hq : bls.length = q) (hr : RdRows w A bls) (hB : Rd w B (ints ns)) (hq2 : q ≤ 1000000) :
    Calls Try.prog 170 #[.slice A q c, .slice B q cb] w fun e w' => e = .returned (.bool true) ∧ w = w' := by
  have HL := Lib.hid hl
  have HQ := Lib.hid hq
  have HR := Lib.hid hr
  have HB := Lib.hid hB
  have hqq : ((q : Int) != (q : Int)) = false := by simp
  clear hl hq hr hB
  go_enter Try.func170, Try.ntmps170
  go_wp2_with fail
  go_loop [14] (fun i => ∃ j : Nat, j ≤ q ∧ i = .int .i64 j) (fun i => q - (intOf i).toNat)
  case atStart => exact ⟨0, by omega, rfl⟩
  case round =>
    obtain ⟨j, hj, rfl⟩ := hrel
    by_cases hlt : j < q
    · have hjl : j < bls.length := by rw [HQ.out]; exact hlt
      obtain ⟨ad, A1, c1, rfl, hc1, -, -, -⟩ := HR.out.at_ hjl
      obtain ⟨m, hm⟩ : ∃ m, m = bls[j].length := ⟨_, rfl⟩
      rw [← hm] at hc1
      obtain ⟨bd, rfl, hcb⟩ := HB.out.at_ (k := j) (u := .int .i64 (m : Int)) (by
        rw [ints_at, ← HL.out, List.getElem?_map, List.getElem?_eq_getElem hjl, hm]; rfl)
      have hmm : ((m : Int) != (m : Int)) = false := by simp
      have hjq : (j : Int) < (q : Int) := by omega
      clear hm
      go_wp2_with fail
      go_round
      case rel => exact ⟨j + 1, by omega, by go_num⟩
      case measure => simp [intOf]; omega
    · obtain rfl : q = j := by omega
      go_wp2
      go_ret
      exact ⟨rfl, rfl⟩
end Go.Proofs.Ytdoeelfcihdmbaa
/-
  Layer 10: what is looked at before shards are joined.
-/
namespace Go.Proofs.Ytdoeelfcihdmbaa
open Go.RowKit Gf
set_option maxRecDepth 20000
set_option linter.unusedVariables false

def withIdx (h : HeadP) (i : Nat) : HeadP := { h with idx := i }
theorem headC_idx (h : HeadP) (i : Nat) : (headC h).setIfInBounds 13 (.int .i64 (i : Int)) = headC (withIdx h i) := by simp [headC, withIdx]
/-- The shards of an object, some of them missing. -/
structure Parts (w : World) (g : Nat) (hd : HeadP) (ns : List Nat) (bl : Nat → List (List E)) (l : List (HeadP × Value)) : Prop where
  rd : RdS w g l
  each : ∀ (i : Nat) (p : HeadP × Value), l[i]? = some p → (p.1 = zeroH ∧ ∃ A n c, p.2 = .slice A n c) ∨ (p.1 = withIdx hd i ∧ ∃ A c, p.2 = .slice A ns.length c ∧ RdRows w A (bl i) ∧ (bl i).map List.length = ns ∧ ns.length ≤ c)
theorem Parts.ext {w w' : World} {g : Nat} {hd : HeadP} {ns : List Nat} {bl : Nat → List (List E)} {l : List (HeadP × Value)} (h : Parts w g hd ns bl l) (hx : Ext w w') : Parts w' g hd ns bl l :=
  ⟨h.rd.ext hx, fun i p hp => by
    rcases h.each i p hp with h1 | ⟨h1, A, c, h2, h3, h4, h5⟩
    · exact .inl h1
    · exact .inr ⟨h1, A, c, h2, h3.ext hx, h4, h5⟩⟩
/-- Is there a shard at this place? -/
def hereB (l : List (HeadP × Value)) (i : Nat) : Bool := decide (1 ≤ (l.getD i (zeroH, .slice none 0 0)).1.k)
/-- How many there are of the first j. -/
def hereN (l : List (HeadP × Value)) (j : Nat) : Nat := ((List.range j).filter (hereB l)).length
theorem hereN_succ (l : List (HeadP × Value)) (j : Nat) : hereN l (j + 1) = hereN l j + (if hereB l j = true then 1 else 0) := by
  rw [hereN, hereN, List.range_succ, List.filter_append, List.length_append]
  by_cases h : hereB l j = true
  · rw [List.filter_cons_of_pos h, if_pos h]; rfl
  · rw [List.filter_cons_of_neg h, if_neg h]; rfl
theorem hereN_le (l : List (HeadP × Value)) (j : Nat) : hereN l j ≤ j := by
  have := List.length_filter_le (hereB l) (List.range j)
  rwa [List.length_range] at this
theorem hereB_at {l : List (HeadP × Value)} {i : Nat} {p : HeadP × Value} (h : l[i]? = some p) : hereB l i = decide (1 ≤ p.1.k) := by
  rw [hereB, List.getD_eq_getElem?_getD, h]; rfl
/-- The heads of an object whose shards may be. -/
structure ObjH (hd : HeadP) (ns : List Nat) : Prop where
  ok : okHead (withIdx hd 0)
  st : hd.store.length = 8
  ns_ : ns = sizesP hd.k hd.blk hd.size
theorem ObjH.okI {hd : HeadP} {ns : List Nat} (h : ObjH hd ns) {i : Nat} (hi : i < hd.k + hd.m) : okHead (withIdx hd i) := by
  obtain ⟨h1, h2, h3, h4, h5, h6, h7, h8, h9, h10⟩ := h.ok
  exact ⟨h1, h2, h3, h4, h5, hi, h7, h8, h9, h10⟩
theorem ObjH.small {hd : HeadP} {ns : List Nat} (h : ObjH hd ns) : 1 ≤ hd.k ∧ 1 ≤ hd.m ∧ hd.k + hd.m ≤ 255 ∧ 1 ≤ hd.blk ∧ hd.blk ≤ 65536 ∧ hd.size ≤ 1048576 ∧ hd.epoch ≤ 4294967295 ∧ hd.count ≤ 4294967295 ∧ hd.key.length ≤ 255 := by
  obtain ⟨⟨a1, a2, a3, a4, a5⟩, a6, a7, a8, a9, b1, b2, b3, b4, b5⟩ := h.ok
  have a1 : 1 ≤ hd.m := a1
  have a2 : hd.m ≤ hd.k := a2
  have a3 : hd.k + hd.m ≤ 255 := a3
  exact ⟨by omega, a1, a3, a4, a5, a8, b3, b5, a7⟩
theorem ObjH.smallH {hd : HeadP} {ns : List Nat} (h : ObjH hd ns) (i : Nat) (hi : i ≤ 1000) : SmallH (withIdx hd i) := by
  obtain ⟨a1, a2, a3, a4, a5, a6, a7, a8, a9⟩ := h.small
  exact ⟨h.st, show hd.k ≤ _ by omega, show hd.m ≤ _ by omega, show hd.blk ≤ _ by omega, show hd.size ≤ _ by omega, show i ≤ _ by omega, show hd.epoch ≤ _ by omega, show hd.count ≤ _ by omega, show hd.key.length ≤ _ by omega⟩
theorem Parts.shardOk {w : World} {g : Nat} {hd : HeadP} {ns : List Nat} {bl : Nat → List (List E)} {l : List (HeadP × Value)} (h : Parts w g hd ns bl l) (ho : ObjH hd ns) : ∀ p ∈ l, ShardOk p := fun p hp => by
  obtain ⟨i, hi⟩ := List.mem_iff_getElem?.1 hp
  obtain ⟨a1, a2, a3, a4, a5, -⟩ := ho.small
  rcases h.each i p hi with ⟨h1, h2⟩ | ⟨h1, A, c, h2, -⟩
  · exact ⟨.inl h1, h2⟩
  · exact ⟨.inr (by rw [h1]; exact ⟨a1, show hd.k ≤ _ by omega, show hd.m ≤ _ by omega, show hd.blk ≤ _ by omega⟩), A, _, c, h2⟩
/-- While they are looked at. -/
structure Lookg (w wr : World) (gh : Nat) (hd : HeadP) (ix : Nat) : Prop where
  ext : Ext w wr
  res : Blk wr w.heap.size 43 (headC zeroH)
  box : Blk wr gh 43 (headC (withIdx hd ix))
  lt : w.heap.size < gh
theorem Lookg.beyond {w wr w' : World} {gh : Nat} {hd : HeadP} {ix : Nat} (h : Lookg w wr gh hd ix) (hx : Ext wr w') : Lookg w w' gh hd ix := ⟨h.ext.trans hx, h.res.below hx h.res.lt, h.box.below hx h.box.lt, h.lt⟩
theorem Lookg.put {w wr : World} {gh : Nat} {hd : HeadP} {ix : Nat} (h : Lookg w wr gh hd ix) (i : Nat) : Lookg w (wr.setCell ⟨gh, 13, none⟩ (.int .i64 (i : Int))) gh hd i :=
  ⟨h.ext.new (p := ⟨gh, 13, none⟩) (Nat.le_of_lt h.lt) _, h.res.far (p := ⟨gh, 13, none⟩) (Nat.ne_of_lt h.lt) _, h.box.set_eq 13 _ (by rw [headC_idx]; rfl), h.lt⟩
def LookOut (hd : HeadP) (ns : List Nat) (w : World) (e : Ending) (w' : World) : Prop := (∃ ix v, e = .returned (.tuple #[.agg (headC (withIdx hd ix)), v, .int .i64 0]) ∧ Own w' w.heap.size 3 v (ints ns)) ∧ Ext w w'
set_option maxHeartbeats 16000000 in
theorem look_n (g n c : Nat) (hd : HeadP) (ns : List Nat) (bl : Nat → List (List E)) (l : List (HeadP × Value)) (w : World) (hn : l.length = n) (hnk : n = hd.k + hd.m) (hp : Parts w g hd ns bl l) (ho : ObjH hd ns) (hen : hd.k ≤ hereN l n) :
    Calls Try.prog 116 #[.slice (some ⟨g, 0, none⟩) n c] w (LookOut hd ns w) := by
  have hmo : Try.prog.follows Departure.mixedOrders = true := by kernel_rfl
  obtain ⟨s1, s2, s3, s4, s5, s6, s7, s8, s9⟩ := ho.small
  have hn2 : n ≤ 255 := by omega
  have hex : ∃ p ∈ l, p.1 ≠ zeroH := by
    have h0 : 0 < ((List.range n).filter (hereB l)).length := by have : hereN l n = ((List.range n).filter (hereB l)).length := rfl; omega
    obtain ⟨h1, h2⟩ := List.mem_filter.1 (List.getElem_mem h0)
    have h1 := List.mem_range.1 h1
    obtain ⟨i, hi⟩ : ∃ i, i = ((List.range n).filter (hereB l))[0] := ⟨_, rfl⟩
    rw [← hi] at h1 h2
    obtain ⟨p, hp⟩ : ∃ p, l[i]? = some p := ⟨_, List.getElem?_eq_getElem (by rw [hn]; exact h1)⟩
    refine ⟨p, List.mem_of_getElem? hp, fun e => ?_⟩
    rw [hereB_at hp, e] at h2
    exact absurd h2 (by decide)
  have HX0 := Lib.hid (And.intro ((Ext.refl w).alloc (.cells (headC zeroH) 43)) (Blk.new w 43 (headC zeroH)))
  have HN := Lib.hid hn
  have HP := Lib.hid hp
  have HO := Lib.hid ho
  have HEN := Lib.hid hen
  have HEX := Lib.hid hex
  have HNK := Lib.hid hnk
  have hnki : ((n : Int) != (hd.k : Int) + (hd.m : Int)) = false := by rw [hnk]; simp
  clear hn hp ho hen hex hnk
  go_enter Try.func116, Try.ntmps116
  go_wp2_with fail
  refine (model_n g n c l _ HN.out (HP.out.rd.ext HX0.out.1) (HP.out.shardOk HO.out) HEX.out (by omega)).mono ?_
  rintro e w1 ⟨⟨i0, p0, rfl, hi0, hne0⟩, hx1⟩
  have hi0n : i0 < n := by rw [← HN.out]; exact (List.getElem?_eq_some_iff.1 hi0).1
  obtain ⟨h0, v0⟩ := p0
  obtain rfl : h0 = withIdx hd i0 := by
    rcases HP.out.each i0 _ hi0 with ⟨h1, -⟩ | ⟨h1, -⟩
    · exact absurd h1 hne0
    · exact h1
  have hX1 := HX0.out.1.trans hx1
  have hR1 := HX0.out.2.below hx1 HX0.out.2.lt
  have HRD1 := Lib.hid ((HP.out.rd.ext hX1).sub hi0 0 (headC (withIdx hd i0)) (shard_head (withIdx hd i0) v0))
  have HX1 := Lib.hid (And.intro hX1 hR1)
  have d0 : decide ((i0 : Int) < 0) = false := decide_eq_false (by omega)
  have hi0n2 : (i0 : Int) < (n : Int) := by omega
  clear hx1 hi0 hne0 hX1 hR1 HX0
  go_wp2_with (first | (refine wpList_load_at rfl 43 _ rfl ⟨g, i0 * 17, none⟩ rfl (headC (withIdx hd i0)) _ HRD1.out Try.underlying43 rfl (by kernel_rfl) ?_) | (refine wpList_store_at rfl 43 _ _ rfl w1.heap.size 0 (headC (withIdx hd i0)) rfl rfl 43 (headC zeroH) (Blk.new _ _ _) (by kernel_rfl) (Nat.le_refl 16) (headC_ones _) ?_; intro w2 k0 k2; have k1 : Blk w2 w1.heap.size 43 (headC (withIdx hd i0)) := (seg_all (headC zeroH) (headC (withIdx hd i0)) rfl) ▸ k0) | (refine wpList_load_at rfl 43 _ rfl ⟨w1.heap.size, 0, none⟩ rfl (headC (withIdx hd i0)) _ k1.cells Try.underlying43 rfl (by kernel_rfl) ?_))
  obtain ⟨gh, hgh⟩ : ∃ g, g = w1.heap.size := ⟨_, rfl⟩
  have hL2 : Lookg w w2 gh hd i0 := by
    refine ⟨k2.extNew (HX1.out.1.alloc _) HX1.out.1.le, ?_, hgh ▸ k1, by rw [hgh]; exact HX1.out.2.lt⟩
    exact (HX1.out.2.alloc _).touch k2 (Nat.ne_of_lt HX1.out.2.lt)
  rw [← hgh]
  have HL2 := Lib.hid hL2
  clear k0 k1 k2 hgh hL2 HRD1 HX1 d0
  have hsm := HO.out.small
  refine (fcheck_n (withIdx hd i0) w2 (show hd.k ≤ _ by omega) (show hd.m ≤ _ by omega) (show hd.size ≤ _ by omega) (show i0 ≤ _ by omega) (show hd.epoch ≤ _ by omega) (show hd.count ≤ _ by omega) (show hd.key.length ≤ _ by omega)).mono ?_
  rintro e w3 ⟨⟨z, rfl, hz⟩, hx3⟩
  obtain rfl : z = 0 := hz.2 (HO.out.okI (by rw [← HNK.out]; exact hi0n))
  have hL3 := HL2.out.beyond hx3
  have c8 : w3.cell? ⟨gh, 8, none⟩ = some (.int .i64 (hd.k : Int)) := hL3.box.cell 8
  have c9 : w3.cell? ⟨gh, 9, none⟩ = some (.int .i64 (hd.m : Int)) := hL3.box.cell 9
  have c12 : w3.cell? ⟨gh, 12, none⟩ = some (.int .i64 (hd.size : Int)) := hL3.box.cell 12
  have HL3 := Lib.hid hL3
  clear hz hx3 hL3 HL2
  go_wp2_with (refine wpList_load_at rfl 39 _ rfl ⟨gh, 8, none⟩ rfl (shapeC hd) _ (HL3.out.box.sub 8 (shapeC hd) (shape_in (withIdx hd i0))) Try.underlying39 rfl (by kernel_rfl) ?_)
  clear c8 c9 c12
  refine (sizes_n hd.k hd.m hd.blk hd.size w3 HO.out.ok.1 HO.out.ok.size_).mono ?_
  rintro e w4 ⟨v4, rfl, ho4, hx4⟩
  rw [← HO.out.ns_] at ho4
  obtain ⟨q, hq⟩ : ∃ q, q = ns.length := ⟨_, rfl⟩
  have hq4 : q ≤ 4096 := by rw [hq, HO.out.ns_, sizesP_length]; exact HO.out.ok.2.2.2.2.1
  obtain ⟨A4, c4, rfl, hr4, -, -, -⟩ := ho4.slice
  rw [ints_length, ← hq] at ho4 ⊢
  have HQ := Lib.hid hq
  have HL4 := Lib.hid (And.intro (HL3.out.beyond hx4) (ho4.mono HL3.out.ext.le))
  clear ho4 hx4 hr4 HL3 hq
  go_wp2_with fail
  go_loopw [10, 49] (fun t i wr => ∃ (j ix : Nat), j ≤ n ∧ ix ≤ 255 ∧ t = .int .i64 ((hereN l j : Nat) : Int) ∧ i = .int .i64 j ∧ Lookg w wr gh hd ix ∧ Own wr w.heap.size 3 (.slice A4 q c4) (ints ns)) (fun _ i _ => n - (intOf i).toNat)
  case atStart => exact ⟨0, i0, by omega, by omega, rfl, rfl, HL4.out.1, HL4.out.2⟩
  case round =>
    clear HL4
    obtain ⟨W, rfl⟩ : ∃ W, W = wr := ⟨_, rfl⟩
    obtain ⟨j, ix, hj, hix, rfl, rfl, hL, hI⟩ := hrel
    by_cases hlt : j < n
    · have hjl : j < l.length := by rw [HN.out]; exact hlt
      obtain ⟨p, hp⟩ : ∃ p, l[j]? = some p := ⟨_, List.getElem?_eq_getElem hjl⟩
      obtain ⟨h, v⟩ := p
      have hP := HP.out.ext hL.ext
      have HRS := Lib.hid (hP.rd.sub hp 8 (shapeC h) (shard_shape h v))
      have hee := HP.out.each j _ hp
      have hok1 := HP.out.shardOk HO.out _ (List.mem_of_getElem? hp)
      have hhb := hereB_at hp
      have hsc := hereN_succ l j
      rw [hhb] at hsc
      obtain ⟨tn, htn⟩ : ∃ t, t = hereN l j := ⟨_, rfl⟩
      have htl : tn ≤ 255 := by rw [htn]; have := hereN_le l j; omega
      rw [← htn] at hsc ⊢
      have hjn : (j : Int) < (n : Int) := by omega
      have HP1 := Lib.hid hP
      have HL := Lib.hid hL
      have HI := Lib.hid hI
      have HPP := Lib.hid hp
      simp only at hee hok1 hsc
      clear hL hI hP hp hhb htn
      rcases hee with ⟨rfl, A5, n5, c5, rfl⟩ | ⟨rfl, A5, c5, rfl, hrd5, hml5, hcap5⟩
      · obtain ⟨r, -, e2, e3⟩ := shape_zero zeroH (by decide) (by decide) (by decide)
        obtain rfl : r = true := e3.2 ⟨rfl, rfl, rfl⟩
        have hsc2 : hereN l (j + 1) = tn := by rw [hsc, if_neg (by simp [zeroH])]; rfl
        have HSC := Lib.hid hsc2
        clear hsc hsc2 e3 hok1
        go_wp2_with (first | (refine wpList_load_at rfl 39 _ rfl ⟨g, j * 17 + 8, none⟩ rfl (shapeC zeroH) _ HRS.out Try.underlying39 rfl (by kernel_rfl) ?_) | (refine wpList_cmp rfl .eql 39 39 _ _ rfl (shapeC zeroH) noShape rfl rfl (by kernel_rfl) _ (e2 _) ?_))
        go_roundw
        case rel => exact ⟨j + 1, ix, by omega, hix, by rw [HSC.out], by go_num, HL.out, HI.out⟩
        case measure => simp [intOf]; omega
      · obtain ⟨r, -, e2, e3⟩ := shape_zero (withIdx hd j) (show hd.k ≤ _ by omega) (show hd.m ≤ _ by omega) (show hd.blk ≤ _ by omega)
        obtain rfl : r = false := by
          cases r with
          | false => rfl
          | true =>
            have := (e3.1 rfl).1
            have : hd.k = 0 := this
            omega
        have hsc2 : hereN l (j + 1) = tn + 1 := by rw [hsc, if_pos (by rw [decide_eq_true_iff]; exact s1)]
        have HSC := Lib.hid hsc2
        have hI1 := HI.out.far (p := ⟨gh, 13, none⟩) (HI.out.notBlk HL.out.box (by decide)) (.int .i64 (j : Int))
        have hL1 := HL.out.put j
        have f13 := HL.out.box.frozen 13
        have c13 : W.cell? ⟨gh, 13, none⟩ = some (.int .i64 (ix : Int)) := HL.out.box.cell 13
        obtain ⟨W1, hW1⟩ : ∃ W1, W1 = W.setCell ⟨gh, 13, none⟩ (.int .i64 (j : Int)) := ⟨_, rfl⟩
        obtain ⟨W2, hW2⟩ : ∃ W2, W2 = W1.drew := ⟨_, rfl⟩
        rw [← hW1] at hI1 hL1
        have hx2 : Ext W1 W2 := by rw [hW2]; exact (Ext.refl W1).drewN 1
        have hL2 := hL1.beyond hx2
        have hP2 := HP.out.ext hL2.ext
        have HC2 := Lib.hid (And.intro (hP2.rd.sub HPP.out 0 (headC (withIdx hd j)) (shard_head (withIdx hd j) _)) hL2.box.cells)
        have hcmp0 := cmp_head (withIdx hd j) (withIdx hd j) (HO.out.smallH j (by omega)) (HO.out.smallH j (by omega))
        have hcmp : ∀ w, (binOp .neq 43 (.agg (headC (withIdx hd j))) (.agg (headC (withIdx hd j)))).run Try.prog w = .ok (.bool false) w := fun w => by
          obtain ⟨r, e1, e2⟩ := hcmp0 w
          rw [e2.2 rfl] at e1; exact e1
        have c16 : W2.cell? ⟨g, j * 17 + 16, none⟩ = some (.slice A5 ns.length c5) := hP2.rd j _ HPP.out 16 _ rfl
        rw [← HQ.out] at c16
        have HF := Lib.hid (And.intro (HI.out.far (p := ⟨gh, 13, none⟩) (HI.out.notBlk HL.out.box (by decide)) (.int .i64 (j : Int))) (And.intro hL2 (hI1.ext hx2)))
        have hqbl : (bl j).length = q := by rw [HQ.out, ← hml5, List.length_map]
        have HFIT := Lib.hid (fit_n A5 A4 q c5 c4 (bl j) ns W2 hml5 hqbl (hrd5.ext hL2.ext) (hI1.ext hx2).rd (by omega))
        have HW1 := Lib.hid hW1
        have HW2 := Lib.hid hW2
        clear hsc hsc2 e3 hok1 hI1 hL1 hW1 hW2 hx2 hL2 hP2 hcmp0 hrd5 hml5 hcap5 hqbl
        go_wp2_with (first | (refine wpList_load_at rfl 39 _ rfl ⟨g, j * 17 + 8, none⟩ rfl (shapeC (withIdx hd j)) _ HRS.out Try.underlying39 rfl (by kernel_rfl) ?_) | (refine wpList_cmp rfl .eql 39 39 _ _ rfl (shapeC (withIdx hd j)) noShape rfl rfl (by kernel_rfl) _ (e2 _) ?_))
        rw [← HW1.out]
        refine wp_region_mix (fun i => [3, 3, 3, 3, 0, 0, 3].getD i 0) (fun w' => w' = W2) hmo (by kernel_rfl) (by kernel_rfl) HW2.out.symm ?_
        rw [← HW2.out]
        refine mix_pure (.slice (some ⟨g, 0, none⟩) n c) rfl (fun w' => by go_simp) ?_
        refine mix_pure (.int .i64 (j : Int)) rfl (fun w' => by go_simp) ?_
        refine mix_pure (.pointer (some ⟨g, j * 17, none⟩)) rfl (fun w' => by go_simp) ?_
        refine mix_pure (.pointer (some ⟨g, j * 17, none⟩)) rfl (fun w' => by go_simp) ?_
        refine mix_still (.agg (headC (withIdx hd j))) rfl (fun w' hw' => by subst hw'; exact load_run rfl (by go_simp) HC2.out.1 Try.underlying43 rfl (by kernel_rfl)) ?_
        refine mix_still (.agg (headC (withIdx hd j))) rfl (fun w' hw' => by subst hw'; exact load_run rfl (by go_simp) HC2.out.2 Try.underlying43 rfl (by kernel_rfl)) ?_
        refine mix_pure (.bool false) rfl (fun w' => by have := hcmp w'; go_simp) ?_
        refine mix_nil ?_
        clear hcmp HC2 f13 c13 e2 HW1 HW2
        go_simp
        go_wp2_with fail
        refine HFIT.out.mono ?_
        rintro e w5 ⟨rfl, rfl⟩
        clear HFIT c16
        go_wp2_with fail
        go_roundw
        case rel => exact ⟨j + 1, j, by omega, by omega, by rw [HSC.out]; go_num, by go_num, HF.out.2.1, HF.out.2.2⟩
        case measure => simp [intOf]; omega
    · obtain rfl : j = n := by omega
      have hdk : decide (((hereN l j : Nat) : Int) < (hd.k : Int)) = false := decide_eq_false (by have := HEN.out; omega)
      obtain ⟨tn, htn⟩ : ∃ t, t = hereN l j := ⟨_, rfl⟩
      have hdn : decide (hereN l j < hd.k) = false := decide_eq_false (by have := HEN.out; omega)
      rw [← htn] at hdk hdn ⊢
      have c8 : W.cell? ⟨gh, 8, none⟩ = some (.int .i64 (hd.k : Int)) := hL.box.cell 8
      have HL := Lib.hid hL
      have HI := Lib.hid hI
      clear hL hI htn
      go_wp2_with (first | (refine wpList_load_at rfl 43 _ rfl ⟨gh, 0, none⟩ rfl (headC (withIdx hd ix)) _ HL.out.box.cells Try.underlying43 rfl (by kernel_rfl) ?_) | (refine wpList_store_at rfl 43 _ _ rfl w.heap.size 0 (headC (withIdx hd ix)) rfl rfl 43 (headC zeroH) HL.out.res (by kernel_rfl) (Nat.le_refl 16) (headC_ones _) ?_; intro w9 k0 k2; have k1 : Blk w9 w.heap.size 43 (headC (withIdx hd ix)) := (seg_all (headC zeroH) (headC (withIdx hd ix)) rfl) ▸ k0))
      refine bodyPost_ret (results_cell3 Try.results116 _ w9 ⟨w.heap.size, 0, none⟩ (headC (withIdx hd ix)) _ rfl k1.cells Try.underlying43 rfl (by kernel_rfl)) rfl ⟨⟨ix, _, rfl, ?_⟩, k2.extNew HL.out.ext (Nat.le_refl _)⟩
      exact HI.out.touch k2 fun g hg e => HI.out.notBlk HL.out.res (by decide) (by rw [hg, e])
end Go.Proofs.Ytdoeelfcihdmbaa
/-
  Layer 10: shards are joined: the rows.
-/
namespace Go.Proofs.Ytdoeelfcihdmbaa
open Go.RowKit Gf
set_option maxRecDepth 20000
set_option linter.unusedVariables false

/-- The rows of all shards, one by one. -/
structure Joining (w wr : World) (g n j : Nat) (V : List Value) (R : Nat → List E) : Prop where
  ext : Ext w wr
  hg : w.heap.size ≤ g
  list : Own wr w.heap.size 24 (.slice (some ⟨g, 0, none⟩) n n) V
  len : V.length = n
  rows : ∀ (i : Nat) (u : Value), V[i]? = some u → ∃ B c, u = .slice B (if i < j then R i else []).length c ∧ Rd wr B (bs (if i < j then R i else [])) ∧ (if i < j then R i else []).length ≤ c ∧ c ≤ maxLen ∧ ∀ ad, B = some ad → ad.block ≠ g
theorem Joining.start (w0 w : World) (h0 : Ext w0 w) (n : Nat) (R : Nat → List E) (hn : n ≤ 255) : Joining w0 (w.alloc (.cells (zrow (.slice none 0 0) n) 24)) w.heap.size n 0 (List.replicate n (.slice none 0 0)) R := by
  refine ⟨h0.alloc _, h0.le, ?_, List.length_replicate, fun i u hi => ?_⟩
  · have h1 := (Blk.new w 24 (zrow (.slice none 0 0) n)).own (B := w0.heap.size) (n := n) (cap := n) h0.le (Nat.le_refl _) (by simp only [maxLen]; omega) (zrow_size _ _)
    rw [zrow_list, List.take_of_length_le (by simp)] at h1
    exact h1
  · rw [List.getElem?_replicate] at hi
    split at hi
    · cases hi
      exact ⟨none, 0, by rw [if_neg (by omega)]; rfl, by rw [if_neg (by omega)]; exact Rd.nil _ _, by rw [if_neg (by omega)]; exact Nat.le_refl _, Nat.zero_le _, fun ad e => by cases e⟩
    · cases hi
theorem if_lt_succ {α : Type} {i j : Nat} (h : i ≠ j) (a b : α) : (if i < j + 1 then a else b) = if i < j then a else b := by
  by_cases h1 : i < j
  · rw [if_pos h1, if_pos (by omega)]
  · rw [if_neg h1, if_neg (by omega)]
theorem Joining.skip {w wr : World} {g n j : Nat} {V : List Value} {R : Nat → List E} (h : Joining w wr g n j V R) (hR : R j = []) : Joining w wr g n (j + 1) V R :=
  ⟨h.ext, h.hg, h.list, h.len, fun i u hi => by
    have e : (if i < j + 1 then R i else []) = if i < j then R i else [] := by
      by_cases h1 : i = j
      · subst h1; rw [if_pos (by omega), if_neg (by omega), hR]
      · exact if_lt_succ h1 _ _
    rw [e]; exact h.rows i u hi⟩
theorem Joining.put {w wr w1 : World} {g n j m c : Nat} {V : List Value} {R : Nat → List E} {A : Option Addr} (h : Joining w wr g n j V R) (hj : j < n) (hx : Ext wr w1) (hm : m = (R j).length) (hr : Rd w1 A (bs (R j))) (hc : m ≤ c) (hcm : c ≤ maxLen) (hA : ∀ ad, A = some ad → wr.heap.size ≤ ad.block) :
    Joining w (w1.setCell ⟨g, j, none⟩ (.slice A m c)) g n (j + 1) (V.set j (.slice A m c)) R := by
  have hlt := (h.list.lt g rfl).2
  have hg : ∀ ad, A = some ad → ad.block ≠ g := fun ad e => by have := hA ad e; omega
  refine ⟨(h.ext.trans hx).new (p := ⟨g, j, none⟩) h.hg _, h.hg, (h.list.ext hx).set j _, by rw [List.length_set]; exact h.len, fun i u hi => ?_⟩
  by_cases e : i = j
  · subst e
    rw [List.getElem?_set_self (by rw [h.len]; exact hj)] at hi
    cases hi
    rw [if_pos (by omega)]
    exact ⟨A, c, by rw [hm], hr.setCell (fun ad e => hg ad e) _, by rw [← hm]; exact hc, hcm, hg⟩
  · rw [List.getElem?_set_ne (fun h => e h.symm)] at hi
    rw [if_lt_succ e]
    obtain ⟨B, c', h1, h2, h3, h4, h5⟩ := h.rows i u hi
    exact ⟨B, c', h1, (h2.ext hx).setCell (fun ad e => h5 ad e) _, h3, h4, h5⟩
theorem Joining.rd {w wr : World} {g n : Nat} {V : List Value} {R : Nat → List E} (h : Joining w wr g n n V R) : RdRows wr (some ⟨g, 0, none⟩) ((List.range n).map R) := by
  refine ⟨V, by simp [h.len], h.list.rd, fun i r hi => ?_⟩
  have hin : i < n := by have := (List.getElem?_eq_some_iff.1 hi).1; simpa using this
  rw [List.getElem?_map, List.getElem?_range hin] at hi
  cases hi
  have hiV : i < V.length := by rw [h.len]; exact hin
  obtain ⟨B, c, h1, h2, h3, h4, -⟩ := h.rows i V[i] (List.getElem?_eq_getElem hiV)
  rw [if_pos hin] at h1 h2 h3
  exact ⟨B, c, by rw [List.getElem?_eq_getElem hiV, h1], h2, h3, h4⟩
/-- The row of a shard, nothing where there is none. -/
def rowOf (word : List (List E)) (l : List (HeadP × Value)) (i : Nat) : List E := if hereB l i = true then word.getD i [] else []
theorem rows_getD {n i : Nat} {R : Nat → List E} (h : i < n) : ((List.range n).map R).getD i [] = R i := by
  rw [List.getD_eq_getElem?_getD, List.getElem?_map, List.getElem?_range h]; rfl
theorem rowOf_part {k n L : Nat} {rows : List (List E)} {l : List (HeadP × Value)} : Part k n L rows ((List.range n).map (rowOf (encM k n L rows) l)) := by
  refine ⟨by simp, fun i hi => ?_⟩
  rw [rows_getD hi, rowOf]
  by_cases h : hereB l i = true
  · exact .inr (if_pos h)
  · exact .inl (if_neg h)
theorem rowOf_here {n : Nat} {word : List (List E)} {l : List (HeadP × Value)} (hw : ∀ i, i < n → 0 < (word.getD i []).length) : (presentL ((List.range n).map (rowOf word l)) n).length = hereN l n := by
  rw [presentL, hereN]
  congr 1
  apply List.filter_congr
  intro i hi
  have hi := List.mem_range.1 hi
  rw [rows_getD hi, rowOf]
  by_cases h : hereB l i = true
  · rw [if_pos h, h]; exact decide_eq_true (hw i hi)
  · rw [if_neg h]
    have : hereB l i = false := by simpa using h
    rw [this]; rfl
/-- The object while it is put together. -/
structure JSt (Wr wr w : World) (gw n c : Nat) (V : List Value) (R : Nat → List E) (vo : Value) (acc : List E) : Prop where
  touch : Touch (fun b => b = gw) Wr wr
  base : w.heap.size ≤ gw ∧ gw < Wr.heap.size ∧ Ext w Wr
  list : Own wr w.heap.size 24 (.slice (some ⟨gw, 0, none⟩) n c) V
  out : Own wr Wr.heap.size 5 vo (bs acc)
  rows : ∀ (i : Nat) (u : Value), V[i]? = some u → ∃ B cc, u = .slice B (R i).length cc ∧ Rd Wr B (bs (R i)) ∧ (R i).length ≤ cc ∧ ∀ ad, B = some ad → ad.block ≠ gw
theorem JSt.ext {Wr wr w : World} {gw n c : Nat} {V : List Value} {R : Nat → List E} {vo : Value} {acc : List E} (h : JSt Wr wr w gw n c V R vo acc) : Ext w wr := h.base.2.2.below.trans (h.touch.below (fun k _ e => by rw [e]; exact h.base.1) h.base.2.2.le)
theorem JSt.beyond {Wr wr w w' : World} {gw n c : Nat} {V : List Value} {R : Nat → List E} {vo : Value} {acc : List E} (h : JSt Wr wr w gw n c V R vo acc) (hx : Ext wr w') : JSt Wr w' w gw n c V R vo acc :=
  ⟨h.touch.ext hx, h.base, h.list.ext hx, h.out.ext hx, h.rows⟩
/-- The object is longer by a piece. -/
theorem JSt.app {Wr wr w w' : World} {gw n c : Nat} {V : List Value} {R : Nat → List E} {vo v2 : Value} {acc ys : List E} (h : JSt Wr wr w gw n c V R vo acc) (ho : Own w' Wr.heap.size 5 v2 (bs acc ++ bs ys)) (hm : Moved wr w' vo v2) : JSt Wr w' w gw n c V R v2 (acc ++ ys) := by
  have hb : Below Wr.heap.size wr w' := hm.below h.touch.size fun g hg => (h.out.lt g hg).1
  exact ⟨⟨hb.os.trans h.touch.os, hb.tape.trans h.touch.tape, hb.output.trans h.touch.output, Nat.le_trans h.touch.size hb.size, fun k hk hn => (hb.block k hk).trans (h.touch.block k hk hn)⟩, h.base, h.list.kept hm.grown (h.list.types h.out (by decide)), by rw [bs_append]; exact ho, h.rows⟩
/-- A row is shorter by a piece. -/
theorem JSt.cut {Wr wr w : World} {gw n c i s m cc : Nat} {V : List Value} {R R' : Nat → List E} {vo : Value} {acc : List E} {B : Option Addr} (h : JSt Wr wr w gw n c V R vo acc) (hi : V[i]? = some (.slice B m cc)) (hs : s ≤ m) (hm : m ≤ cc) (hR : R' i = (R i).drop s) (hR2 : ∀ j, j ≠ i → R' j = R j) :
    JSt Wr (wr.setCell ⟨gw, i, none⟩ (.slice (cutA B cc s) (m - s) (cc - s))) w gw n c (V.set i (.slice (cutA B cc s) (m - s) (cc - s))) R' vo acc := by
  have hout : vo.ownBlock ≠ some gw := fun e => by have := (h.out.lt gw e).1; have := h.base.2.1; omega
  refine ⟨h.touch.put i _, h.base, h.list.set i _, h.out.far (p := ⟨gw, i, none⟩) hout _, fun j u hj => ?_⟩
  have hiV : i < V.length := (List.getElem?_eq_some_iff.1 hi).1
  by_cases e : j = i
  · subst e
    rw [List.getElem?_set_self hiV] at hj
    cases hj
    obtain ⟨B', cc', h1, h2, h3, h4⟩ := h.rows j _ hi
    injection h1 with e1 e2 e3
    subst e1 e3
    have hl : (R' j).length = m - s := by rw [hR, List.length_drop, ← e2]
    refine ⟨cutA B cc s, cc - s, by rw [hl], ?_, by rw [hl]; omega, fun ad e => ?_⟩
    · rw [hR, bs_drop]
      exact h2.cutA (by rw [bs_length, ← e2]; exact hs) (by rw [bs_length, ← e2]; exact hm)
    · obtain ⟨a0, e0, e5⟩ := cutA_block e
      rw [← e5]; exact h4 a0 e0
  · rw [List.getElem?_set_ne (fun h => e h.symm)] at hj
    rw [hR2 j e]
    exact h.rows j u hj
theorem sum_le {l : List Nat} {b : Nat} (h : ∀ x ∈ l, x ≤ b) : l.sum ≤ l.length * b := by
  induction l with
  | nil => simp
  | cons x l ih =>
    have h1 := h x List.mem_cons_self
    have h2 := ih fun y hy => h y (List.mem_cons_of_mem _ hy)
    rw [List.sum_cons, List.length_cons, Nat.add_mul]; omega
theorem sum_pos {l : List Nat} (h : ∀ x ∈ l, 1 ≤ x) (hl : 0 < l.length) : 0 < l.sum := by
  match l, hl with
  | x :: l, _ => have := h x List.mem_cons_self; rw [List.sum_cons]; omega
theorem ObjH.sizes {hd : HeadP} {ns : List Nat} (h : ObjH hd ns) : (∀ x ∈ ns, 1 ≤ x ∧ x ≤ 65536) ∧ ns.length ≤ 4096 ∧ ns.sum ≤ 1000000000 := by
  obtain ⟨s1, s2, s3, s4, s5, -⟩ := h.small
  have h1 : ∀ x ∈ ns, 1 ≤ x ∧ x ≤ 65536 := fun x hx => by
    rw [h.ns_] at hx
    have h2 := sizesP_pos (show 0 < hd.k by omega) (show 0 < hd.blk by omega) x hx
    have h3 := sizesP_le (show 0 < hd.k by omega) x hx
    omega
  have h4 : ns.length ≤ 4096 := by rw [h.ns_, sizesP_length]; exact h.ok.2.2.2.2.1
  have h5 := sum_le fun x hx => (h1 x hx).2
  have h6 := Nat.mul_le_mul_right 65536 h4
  exact ⟨h1, h4, by omega⟩
def JoinOut (data : List E) (w : World) (e : Ending) (w' : World) : Prop := (∃ A c, e = .returned (.tuple #[.slice A data.length c, .int .i64 0]) ∧ Rd w' A (bs data)) ∧ Ext w w'
set_option maxHeartbeats 16000000 in
theorem join_shards (g n c : Nat) (hd : HeadP) (ns : List Nat) (data : List E) (l : List (HeadP × Value)) (w : World) (hn : l.length = n) (hnk : n = hd.k + hd.m) (hp : Parts w g hd ns (blocksP hd.k n ns data) l) (ho : ObjH hd ns) (hz : hd.size = data.length) (hen : hd.k ≤ hereN l n) :
    Calls Try.prog 39 #[.slice (some ⟨g, 0, none⟩) n c] w (JoinOut data w) := by
  have hmo : Try.prog.follows Departure.mixedOrders = true := by kernel_rfl
  obtain ⟨s1, s2, s3, s4, s5, s6, s7, s8, s9⟩ := ho.small
  have hn2 : n ≤ 255 := by omega
  have hmk2 : hd.m ≤ hd.k := ho.ok.1.2.1
  have HN := Lib.hid hn
  have HP := Lib.hid hp
  have HO := Lib.hid ho
  have HEN := Lib.hid hen
  have HNK := Lib.hid hnk
  have HZ := Lib.hid hz
  obtain ⟨q, hq⟩ : ∃ q, q = ns.length := ⟨_, rfl⟩
  have hq4 : q ≤ 4096 := by rw [hq, ho.ns_, sizesP_length]; exact ho.ok.2.2.2.2.1
  have HQ := Lib.hid hq
  clear hn hp ho hen hnk hz hq
  go_enter Try.func39, Try.ntmps39
  go_wp2_with fail
  refine (look_n g n c hd ns _ l w HN.out HNK.out HP.out HO.out HEN.out).mono ?_
  rintro e w1 ⟨⟨ix, v1, rfl, ho1⟩, hx1⟩
  obtain ⟨A1, c1, rfl, -, -, -, -⟩ := ho1.slice
  rw [ints_length, ← HQ.out] at ho1 ⊢
  have HO1 := Lib.hid ho1
  have HX1 := Lib.hid hx1
  clear ho1 hx1
  go_wp2_with (refine wpList_store_at rfl 43 _ _ rfl w1.heap.size 0 (headC (withIdx hd ix)) rfl rfl 43 (headC zeroH) (Blk.new _ _ _) (by kernel_rfl) (Nat.le_refl 16) (headC_ones _) ?_; intro w2 k0 k2; have k1 : Blk w2 w1.heap.size 43 (headC (withIdx hd ix)) := (seg_all (headC zeroH) (headC (withIdx hd ix)) rfl) ▸ k0; have c8 : w2.cell? ⟨w1.heap.size, 8, none⟩ = some (.int .i64 (hd.k : Int)) := k1.cell 8; have c9 : w2.cell? ⟨w1.heap.size, 9, none⟩ = some (.int .i64 (hd.m : Int)) := k1.cell 9)
  obtain ⟨gh, hgh⟩ : ∃ g, g = w1.heap.size := ⟨_, rfl⟩
  rw [← hgh] at k1 ⊢
  have hx2 : Ext w w2 := k2.extNew (HX1.out.alloc _) HX1.out.le
  have hi2 : Own w2 w.heap.size 3 (.slice A1 q c1) (ints ns) := (HO1.out.alloc _).touch k2 fun g hg e => by have := (HO1.out.lt g hg).2; omega
  have H2 := Lib.hid (And.intro k1 (And.intro hx2 hi2))
  clear k0 k1 k2 c8 c9 hgh hx2 hi2 HO1 HX1
  refine (new_n hd.k hd.m w2 s2 hmk2 s3).mono ?_
  rintro e w3 ⟨g2, rfl, hc3, hx3⟩
  rw [← HNK.out] at hc3
  have hx3' := H2.out.2.1.trans hx3
  have H3 := Lib.hid (And.intro (H2.out.1.below hx3 H2.out.1.lt) (And.intro hx3' (And.intro (H2.out.2.2.ext hx3) hc3)))
  clear hc3 hx3 hx3' H2
  by_cases hq0 : q = 0
  · subst hq0
    have hd0 : data.length = 0 := by
      have h1 := sizesP_sum (k := hd.k) (blk := hd.blk) (size := hd.size) (by omega) (by omega)
      have h2 : ns = [] := List.eq_nil_of_length_eq_zero HQ.out.symm
      rw [← HO.out.ns_, h2, HZ.out] at h1
      simpa using h1
    have HD0 := Lib.hid hd0
    clear hd0
    go_wp2_with fail
    go_ret2
    exact ⟨⟨none, 0, by rw [HD0.out]; rfl, fun h => by rw [bs_length, HD0.out] at h; omega⟩, H3.out.2.1⟩
  have hqb : ((q : Int) == 0) = false := by rw [beq_eq_false_iff_ne]; omega
  obtain ⟨hs1, hs2, hs3⟩ := HO.out.sizes
  obtain ⟨L, hL⟩ : ∃ L, L = ns.sum := ⟨_, rfl⟩
  have hL0 : 0 < L := by rw [hL]; exact sum_pos (fun x hx => (hs1 x hx).1) (by rw [← HQ.out]; omega)
  have hLb : L ≤ 1000000000 := by rw [hL]; exact hs3
  have HS1 := Lib.hid hs1
  have HL := Lib.hid hL
  obtain ⟨word, hword⟩ : ∃ wd, wd = wordP hd.k n ns data := ⟨_, rfl⟩
  have hwl : ∀ i, i < n → (word.getD i []).length = L := fun i hi => by rw [hword, hL]; exact wordP_getD_length hi
  have HWD := Lib.hid (And.intro hword hwl)
  have hmk : ∀ w, (Instr.makeSlice 32 (.int .i64 (n : Int)) (.int .i64 (n : Int))).run Try.prog w = .ok (.slice (some ⟨w.heap.size, 0, none⟩) n n) (w.alloc (.cells (zrow (.slice none 0 0) n) 24)) := fun w => run_make_elt eltRowU8 _ _ n (by omega) w
  have HJ0 := Lib.hid (Joining.start w3 w3 (Ext.refl _) n (rowOf word l) hn2)
  clear hs1 hs2 hs3 hL hword hwl
  go_wp2_with fail
  clear hmk
  obtain ⟨gr, hgr⟩ : ∃ g, g = w3.heap.size := ⟨_, rfl⟩
  rw [← hgr] at HJ0 ⊢
  clear hgr
  go_loopw [46] (fun i wr => ∃ (j : Nat) (V : List Value), j ≤ n ∧ i = .int .i64 j ∧ Joining w3 wr gr n j V (rowOf word l)) (fun i _ => n - (intOf i).toNat)
  case atStart => exact ⟨0, _, by omega, rfl, HJ0.out⟩
  case round =>
    clear HJ0
    obtain ⟨W, rfl⟩ : ∃ W, W = wr := ⟨_, rfl⟩
    obtain ⟨j, V, hj, rfl, hJ⟩ := hrel
    by_cases hlt : j < n
    · have hjl : j < l.length := by rw [HN.out]; exact hlt
      obtain ⟨p, hp⟩ : ∃ p, l[j]? = some p := ⟨_, List.getElem?_eq_getElem hjl⟩
      obtain ⟨h, v⟩ := p
      have hxW := H3.out.2.1.trans hJ.ext
      have hRS := (HP.out.rd.ext hxW).sub hp 8 (shapeC h) (shard_shape h v)
      have hee := HP.out.each j _ hp
      have hhb := hereB_at hp
      have hjn : (j : Int) < (n : Int) := by omega
      have HRS := Lib.hid hRS
      have HJ := Lib.hid hJ
      have HPP := Lib.hid hp
      simp only at hee hhb
      clear hRS hJ hp
      rcases hee with ⟨rfl, A5, n5, c5, rfl⟩ | ⟨rfl, A5, c5, rfl, hrd5, hml5, hcap5⟩
      · obtain ⟨r, e1, -, e3⟩ := shape_zero zeroH (by decide) (by decide) (by decide)
        obtain rfl : r = true := e3.2 ⟨rfl, rfl, rfl⟩
        have HJN : Hid (Joining w3 W gr n (j + 1) V (rowOf word l)) := Lib.hid (HJ.out.skip (by rw [rowOf, if_neg (by rw [hhb]; simp [zeroH])]))
        clear hhb e3 hxW
        go_wp2_with (first | (refine wpList_load_at rfl 39 _ rfl ⟨g, j * 17 + 8, none⟩ rfl (shapeC zeroH) _ HRS.out Try.underlying39 rfl (by kernel_rfl) ?_) | (refine wpList_cmp rfl .neq 39 39 _ _ rfl (shapeC zeroH) noShape rfl rfl (by kernel_rfl) _ (e1 _) ?_))
        go_roundw
        case rel => exact ⟨j + 1, _, by omega, by go_num, HJN.out⟩
        case measure => simp [intOf]; omega
      · obtain ⟨r, e1, -, e3⟩ := shape_zero (withIdx hd j) (show hd.k ≤ _ by omega) (show hd.m ≤ _ by omega) (show hd.blk ≤ _ by omega)
        obtain rfl : r = false := by
          cases r with
          | false => rfl
          | true =>
            have := (e3.1 rfl).1
            have : hd.k = 0 := this
            omega
        have c16 : W.cell? ⟨g, j * 17 + 16, none⟩ = some (.slice A5 ns.length c5) := (HP.out.rd.ext hxW) j _ HPP.out 16 _ rfl
        rw [← HQ.out] at c16
        have hfl : (blocksP hd.k n ns data j).flatten = word.getD j [] := by rw [HWD.out.1]; exact blocksP_flatten hlt
        have hRj : rowOf word l j = word.getD j [] := by rw [rowOf, if_pos (by rw [hhb, decide_eq_true_iff]; exact s1)]
        have HFL := Lib.hid (And.intro hfl hRj)
        have HRD5 := Lib.hid (And.intro (hrd5.ext hxW) (And.intro hml5 hcap5))
        clear hhb e3 hxW hrd5 hml5 hcap5 hfl hRj
        go_wp2_with (first | (refine wpList_load_at rfl 39 _ rfl ⟨g, j * 17 + 8, none⟩ rfl (shapeC (withIdx hd j)) _ HRS.out Try.underlying39 rfl (by kernel_rfl) ?_) | (refine wpList_cmp rfl .neq 39 39 _ _ rfl (shapeC (withIdx hd j)) noShape rfl rfl (by kernel_rfl) _ (e1 _) ?_))
        refine (bjoin_n A5 q c5 (blocksP hd.k n ns data j) W (by have := congrArg List.length HRD5.out.2.1; rw [List.length_map] at this; rw [HQ.out]; exact this) HRD5.out.1 (by omega) (by rw [HQ.out]; exact HRD5.out.2.2) (by omega) (by rw [HFL.out.1, HWD.out.2 j hlt]; exact hLb)).mono ?_
        rintro e w5 ⟨⟨A6, c6, rfl, hr6, hl6, hm6, hA6⟩, hx6⟩
        rw [HFL.out.1] at hr6 hl6 ⊢
        rw [HWD.out.2 j hlt] at hl6 ⊢
        have hJ5 := HJ.out.put hlt hx6 (show L = (rowOf word l j).length by rw [HFL.out.2, HWD.out.2 j hlt]) (by rw [HFL.out.2]; exact hr6) hl6 hm6 hA6
        have hll := HJ.out.list.ext hx6
        have fj := hll.frozen j
        obtain ⟨uj, cj⟩ : ∃ u, w5.cell? ⟨gr, j, none⟩ = some u := ⟨_, hll.cell (List.getElem?_eq_getElem (show j < V.length by rw [HJ.out.len]; exact hlt))⟩
        have HJ5 := Lib.hid hJ5
        clear hJ5 hll hr6 hl6 hm6 hA6 hx6 e1 c16
        go_wp2_with fail
        go_roundw
        case rel => exact ⟨j + 1, _, by omega, by go_num, HJ5.out⟩
        case measure => simp [intOf]; omega
    · obtain rfl : j = n := by omega
      have hkj : hd.k ≤ j := by have := HNK.out; omega
      obtain ⟨rws, hrws⟩ : ∃ r, r = rowsP hd.k ns data := ⟨_, rfl⟩
      have hwe : word = encM hd.k j L rws := by rw [HWD.out.1, hrws, HL.out]; rfl
      have hpart : Part hd.k j L rws ((List.range j).map (rowOf word l)) := by rw [hwe]; exact rowOf_part
      have hpl : hd.k ≤ (presentL ((List.range j).map (rowOf word l)) j).length := by
        rw [rowOf_here fun i hi => by rw [HWD.out.2 i hi]; exact hL0]; exact HEN.out
      have HJ := Lib.hid hJ
      have hrl : rws.length = hd.k := by rw [hrws]; exact rowsP_length _ _ _
      have hrr : ∀ r ∈ rws, r.length = L := by rw [hrws, HL.out]; exact rowsP_rows
      have HRW := Lib.hid (And.intro hrws (And.intro hwe (And.intro hpart (And.intro hpl (And.intro hrl hrr)))))
      clear hJ hrws hwe hpart hpl hrl hrr hlt hj
      go_wp2_with fail
      refine (rebuild_n g2 hd.k j L (some ⟨gr, 0, none⟩) j ((List.range j).map (rowOf word l)) rws W (H3.out.2.2.2.ext HJ.out.ext) HJ.out.rd HRW.out.2.2.1 HRW.out.2.2.2.2.1 HRW.out.2.2.2.2.2 s1 (by omega) hn2 hL0 hLb HRW.out.2.2.2.1).mono ?_
      rintro e w6 ⟨⟨v6, rfl, hv6⟩, hx6⟩
      rw [← HRW.out.2.1] at hv6
      obtain ⟨V6, o1, o2, o3, o4⟩ := hv6
      have hwlen : word.length = j := by rw [HWD.out.1]; exact wordP_length _ _ _ _
      rw [hwlen] at o2
      obtain ⟨gw, cw, rfl, hgw1, hgw2, -, -⟩ := o1.some_ (by intro e; rw [e] at o2; simp at o2; omega)
      rw [o2] at o1 ⊢
      have hww : Ext w W := H3.out.2.1.trans HJ.out.ext
      have hrest0 : ∀ i, i < hd.k → word.getD i [] = restP hd.k ns data 0 i := fun i hi => by
        rw [HWD.out.1, List.getD_eq_getElem?_getD, wordP_data (by omega) (by omega) hi, Option.getD_some, restP]
        simp
      obtain ⟨R0, hR0⟩ : ∃ R0 : Nat → List E, R0 = fun i => word.getD i [] := ⟨_, rfl⟩
      have hst : JSt w6 w6 w gw j cw V6 R0 (.slice none 0 0) [] := by
        refine ⟨Touch.refl _, ⟨Nat.le_trans hww.le hgw1, hgw2, hww.trans hx6⟩, o1.mono hww.le, Own.nil _ _ _, fun i u hi => ?_⟩
        obtain ⟨B, cc, e1, e2, e3, -, -⟩ := (o3 i u hi).slice
        rw [bs_length] at e1 e3
        rw [hR0]
        refine ⟨B, cc, e1, e2, e3, fun ad ea => ?_⟩
        have := (o3 i u hi).types o1 (by decide)
        rcases this with h5 | h5
        · rw [e1, ea] at h5; cases h5
        · intro e5
          apply h5
          rw [e1, ea, ← e5]; rfl
      have HST := Lib.hid (And.intro hst (And.intro o2 (And.intro hR0 hrest0)))
      have HX6 : Hid (Ext w3 w6 ∧ w3.heap.size ≤ gw) := Lib.hid ⟨HJ.out.ext.trans hx6, Nat.le_trans HJ.out.ext.le hgw1⟩
      clear hst o1 o2 o3 o4 hgw1 hgw2 hww hrest0 hR0 hx6 hwlen
      go_wp2_with fail
      clear HP HEN HJ HRW
      go_loopw [12, 75] (fun vo i wr => ∃ (s : Nat) (vo' : Value) (V : List Value) (R : Nat → List E), vo' = vo ∧ s ≤ q ∧ i = .int .i64 s ∧ JSt w6 wr w gw j cw V R vo' (data.take (hd.k * (ns.take s).sum)) ∧ V.length = j ∧ ∀ i, i < hd.k → R i = restP hd.k ns data s i) (fun _ i _ => q - (intOf i).toNat)
      case atStart => exact ⟨0, _, V6, R0, rfl, by omega, rfl, by simpa using HST.out.1, HST.out.2.1, fun i hi => by rw [HST.out.2.2.1]; exact HST.out.2.2.2 i hi⟩
      case round =>
        clear HST
        obtain ⟨W7, rfl⟩ : ∃ W, W = wr := ⟨_, rfl⟩
        obtain ⟨s, vo, V, R, rfl, hs, rfl, hJ, hVl, hR⟩ := hrel
        have hx37 : Ext w3 W7 := HX6.out.1.below.trans (hJ.touch.below (fun k _ e => by rw [e]; exact HX6.out.2) HX6.out.1.le)
        by_cases hlts : s < q
        · have hsn : s < ns.length := by rw [← HQ.out]; exact hlts
          obtain ⟨x, hx⟩ : ∃ x, x = ns[s] := ⟨_, rfl⟩
          obtain ⟨da, rfl, hca⟩ := (H3.out.2.2.1.ext hx37).rd.at_ (k := s) (u := .int .i64 (x : Int)) (by rw [ints_at, List.getElem?_eq_getElem hsn, hx]; rfl)
          have hxb : 1 ≤ x ∧ x ≤ 65536 := by rw [hx]; exact HS1.out _ (List.getElem_mem hsn)
          have c8 : W7.cell? ⟨gh, 8, none⟩ = some (.int .i64 (hd.k : Int)) := (H3.out.1.below hx37 H3.out.1.lt).cell 8
          obtain ⟨Ao, no, co, rfl⟩ : ∃ A n c, vo = Value.slice A n c := by obtain ⟨A, c, h⟩ := hJ.out.anySlice; exact ⟨_, _, _, h⟩
          have hsq : (s : Int) < (q : Int) := by omega
          obtain ⟨base, hbase⟩ : ∃ b, b = hd.k * (ns.take s).sum := ⟨_, rfl⟩
          rw [← hbase] at hJ
          have HB := Lib.hid hbase
          have HXX := Lib.hid hx
          have HJ := Lib.hid (And.intro hJ (And.intro hVl hR))
          clear hJ hVl hR hbase hx hx37
          go_wp2_with fail
          clear c8 hca
          go_loopw [12, 82] (fun vo i wr => ∃ (i' : Nat) (vo' : Value) (V : List Value) (R : Nat → List E), vo' = vo ∧ i' ≤ hd.k ∧ i = .int .i64 i' ∧ JSt w6 wr w gw j cw V R vo' (data.take (base + i' * x)) ∧ V.length = j ∧ ∀ t, t < hd.k → R t = restP hd.k ns data (if t < i' then s + 1 else s) t) (fun _ i _ => hd.k - (intOf i).toNat)
          case atStart => exact ⟨0, _, V, R, rfl, by omega, rfl, by simpa using HJ.out.1, HJ.out.2.1, fun t ht => by rw [if_neg (by omega)]; exact HJ.out.2.2 t ht⟩
          case round =>
            clear HJ
            obtain ⟨W8, rfl⟩ : ∃ W, W = wr := ⟨_, rfl⟩
            obtain ⟨i, vo, V, R, rfl, hi, rfl, hJ, hVl, hR⟩ := hrel
            have hx38 : Ext w3 W8 := HX6.out.1.below.trans (hJ.touch.below (fun k _ e => by rw [e]; exact HX6.out.2) HX6.out.1.le)
            by_cases hlti : i < hd.k
            · have hiV : i < V.length := by rw [hVl]; omega
              obtain ⟨B, cc, hVi, hrB, hccB, hneB⟩ := hJ.rows i V[i] (List.getElem?_eq_getElem hiV)
              have hRi := hR i hlti
              rw [if_neg (Nat.lt_irrefl _)] at hRi
              obtain ⟨m, hm⟩ : ∃ m, m = (R i).length := ⟨_, rfl⟩
              have hms : m = x + (ns.drop (s + 1)).sum := by rw [hm, hRi, restP_length, sum_drop_at ns s hsn, ← HXX.out]
              have hxm : x ≤ m := by omega
              rw [← hm] at hVi hccB
              have hVi' : V[i]? = some (.slice B m cc) := by rw [List.getElem?_eq_getElem hiV, hVi]
              obtain ⟨acc, hacc⟩ : ∃ a, a = data.take (base + i * x) := ⟨_, rfl⟩
              rw [← hacc] at hJ
              obtain ⟨Ao, no, co, rfl⟩ : ∃ A n c, vo = Value.slice A n c := by obtain ⟨A, c, h⟩ := hJ.out.anySlice; exact ⟨_, _, _, h⟩
              have hno : no = acc.length := by have := hJ.out.len; rw [bs_length] at this; exact this
              have hal : acc.length ≤ data.length := by rw [hacc, List.length_take]; omega
              obtain ⟨dl, hdl⟩ : ∃ d, d = hd.size - no := ⟨_, rfl⟩
              have hdlI : IntKind.i64.wrap ((hd.size : Int) - (no : Int)) = (dl : Int) := by rw [IntKind.wrap_i64]; have := HZ.out; omega
              obtain ⟨p, hp⟩ : ∃ p, p = min x dl := ⟨_, rfl⟩
              have hpx : p ≤ x := by rw [hp]; exact Nat.min_le_left _ _
              have hpI : (if dl < x then (dl : Int) else (x : Int)) = (p : Int) := by
                rw [hp]; split <;> omega
              have hjs := join_step (k := hd.k) (ns := ns) (data := data) (s := s) (i := i) hsn (base := base + i * x) (by rw [HB.out, HXX.out])
              rw [← hacc, ← hRi, ← HXX.out, ← hno, ← HZ.out, ← hdl, ← hp] at hjs
              obtain ⟨W9, hW9⟩ : ∃ W9, W9 = W8.drew := ⟨_, rfl⟩
              have hx89 : Ext W8 W9 := by rw [hW9]; exact (Ext.refl W8).drewN 1
              have hJ9 := hJ.beyond hx89
              have c1 : W9.cell? ⟨gw, i, none⟩ = some (.slice B m cc) := hJ9.list.cell hVi'
              have c2 : W9.cell? ⟨gh, 12, none⟩ = some (.int .i64 (hd.size : Int)) := (H3.out.1.below (hx38.trans hx89) H3.out.1.lt).cell 12
              have c2' : W8.cell? ⟨gh, 8, none⟩ = some (.int .i64 (hd.k : Int)) := (H3.out.1.below hx38 H3.out.1.lt).cell 8
              have hpcc : p ≤ cc := by omega
              have hslp := fun w => slice_h tyU8 oneU8 B m cc p .i64 (p : Int) rfl hpcc w
              have hrd9 : Rd W9 B (bs ((R i).take p)) := by rw [bs_take]; exact (hrB.touch hJ9.touch fun ad e => hneB ad e).take p
              have hlen : (bs ((R i).take p)).length = p := by rw [bs_length, List.length_take, ← hm]; omega
              obtain ⟨v2, W10, hrun, ho10, hm10, -⟩ := run_app2 (P := Try.prog) W9 eltU8 24 w6.heap.size (.slice Ao no co) (bs acc) hJ9.out B p cc (bs ((R i).take p)) hrd9 hlen (bs_ones _) (by rw [bs_length]; have := HZ.out; omega) hJ9.touch.size
              have hJ10 := hJ9.app ho10 hm10
              rw [hjs] at hJ10
              obtain ⟨Ap, np, cp, rfl⟩ : ∃ A n c, v2 = Value.slice A n c := by obtain ⟨A, c, h⟩ := ho10.anySlice; exact ⟨_, _, _, h⟩
              have c3 : W10.cell? ⟨gw, i, none⟩ = some (.slice B m cc) := hJ10.list.cell hVi'
              have f3 := hJ10.list.frozen i
              have hslx := fun w => slice_l tyU8 oneU8 B m cc x .i64 (x : Int) rfl hxm hccB w
              obtain ⟨R', hR'⟩ : ∃ R' : Nat → List E, R' = fun t => if t = i then (R i).drop x else R t := ⟨_, rfl⟩
              have hJ11 := hJ10.cut (s := x) (R' := R') hVi' hxm hccB (by rw [hR']; simp) (fun t ht => by rw [hR']; simp [ht])
              obtain ⟨D, hD⟩ : ∃ D, D = cutA B cc x := ⟨_, rfl⟩
              rw [← hD] at hslx hJ11
              have HFIN : Hid (JSt w6 (W10.setCell ⟨gw, i, none⟩ (.slice D (m - x) (cc - x))) w gw j cw (V.set i (.slice D (m - x) (cc - x))) R' (.slice Ap np cp) (data.take (base + (i + 1) * x)) ∧ (V.set i (.slice D (m - x) (cc - x))).length = j ∧ ∀ t, t < hd.k → R' t = restP hd.k ns data (if t < i + 1 then s + 1 else s) t) := Lib.hid (by
                refine ⟨by rw [Nat.add_mul, Nat.one_mul, ← Nat.add_assoc]; exact hJ11, by rw [List.length_set]; exact hVl, fun t ht => ?_⟩
                rw [hR']
                by_cases e : t = i
                · subst e
                  simp only [if_pos trivial]
                  rw [if_pos (by omega), hRi, HXX.out, restP_drop hsn]
                · simp only [if_neg e]
                  rw [if_lt_succ e]; exact hR t ht)
              have HRUN := Lib.hid hrun
              have hij : (i : Int) < (j : Int) := by omega
              have hik : (i : Int) < (hd.k : Int) := by omega
              clear hJ hVl hR hx38 hVi hrB hneB hRi hm hms hVi' hacc hno hal hdl hp hjs hx89 hJ9 hrd9 hlen ho10 hm10 hJ10 hR' hJ11 hD hrun
              go_wp2_with fail
              refine wp_region_mix (fun i => [3, 3, 3, 3, 0, 3, 3, 0, 3, 3, 3, 3, 3, 2, 3].getD i 0) (fun w' => w' = W9) hmo (by kernel_rfl) (by kernel_rfl) hW9.symm ?_
              rw [← hW9]
              clear hW9
              refine mix_pure (.slice Ao no co) rfl (fun w' => by go_simp) ?_
              refine mix_pure (.slice (some ⟨gw, 0, none⟩) j cw) rfl (fun w' => by go_simp) ?_
              refine mix_pure (.int .i64 (i : Int)) rfl (fun w' => by go_simp) ?_
              refine mix_pure (.pointer (some ⟨gw, i, none⟩)) rfl (fun w' => by go_simp) ?_
              refine mix_still (.slice B m cc) rfl (fun w' hw' => by subst hw'; go_simp) ?_
              refine mix_pure (.int .i64 (x : Int)) rfl (fun w' => by go_simp) ?_
              refine mix_pure (.pointer (some ⟨gh, 12, none⟩)) rfl (fun w' => by go_simp) ?_
              refine mix_still (.int .i64 (hd.size : Int)) rfl (fun w' hw' => by subst hw'; go_simp) ?_
              refine mix_pure (.slice Ao no co) rfl (fun w' => by go_simp) ?_
              refine mix_pure (.int .i64 (no : Int)) rfl (fun w' => by go_simp) ?_
              refine mix_pure (.int .i64 (dl : Int)) rfl (fun w' => by go_simp) ?_
              refine mix_pure (.int .i64 (p : Int)) rfl (fun w' => by go_simp) ?_
              refine mix_pure (.slice B p cc) rfl (fun w' => by have := hslp w'; go_simp) ?_
              refine mix_last (.slice Ap np cp) W10 rfl (append_run (by rfl) (by go_simp) (by go_simp) HRUN.out) ?_
              refine mix_pure (.slice Ap np cp) rfl (fun w' => by go_simp) ?_
              refine mix_nil ?_
              clear c1 c2 hslp HRUN hdlI hpI
              go_simp
              go_wp2_with fail
              go_roundw
              case rel => exact ⟨i + 1, _, _, R', rfl, by omega, by go_num, HFIN.out.1, HFIN.out.2.1, HFIN.out.2.2⟩
              case measure => simp [intOf]; omega
            · obtain rfl : i = hd.k := by omega
              have HFIN : Hid (JSt w6 W8 w gw j cw V R vo (data.take (hd.k * (ns.take (s + 1)).sum)) ∧ V.length = j ∧ ∀ t, t < hd.k → R t = restP hd.k ns data (s + 1) t) := Lib.hid (by
                refine ⟨?_, hVl, fun t ht => by rw [hR t ht, if_pos ht]⟩
                rw [sum_take_at ns s hsn, Nat.mul_add, ← HB.out, ← HXX.out]
                exact hJ)
              obtain ⟨Ao, no, co, rfl⟩ : ∃ A n c, vo = Value.slice A n c := by obtain ⟨A, c, h⟩ := hJ.out.anySlice; exact ⟨_, _, _, h⟩
              clear hJ hVl hR hx38
              go_wp2_with fail
              go_roundw
              case rel => exact ⟨s + 1, _, V, R, rfl, by omega, by go_num, HFIN.out.1, HFIN.out.2.1, HFIN.out.2.2⟩
              case measure => simp [intOf]; omega
        · obtain rfl : s = q := by omega
          have hda : data.take (hd.k * (ns.take s).sum) = data := by
            rw [List.take_of_length_le (l := ns) (by rw [HQ.out]; exact Nat.le_refl _)]
            have h1 := sizesP_sum (k := hd.k) (blk := hd.blk) (size := hd.size) (by omega) (by omega)
            rw [← HO.out.ns_, HZ.out] at h1
            exact List.take_of_length_le h1
          rw [hda] at hJ
          obtain ⟨Ao, co, rfl, hro, -, -, -⟩ := hJ.out.slice
          rw [bs_length]
          have HFIN := Lib.hid (And.intro hro hJ.ext)
          clear hJ hVl hR hx37 hda hro
          go_wp2_with fail
          go_ret2
          exact ⟨⟨Ao, co, rfl, HFIN.out.1⟩, HFIN.out.2⟩
end Go.Proofs.Ytdoeelfcihdmbaa
/-
  Layer 10: shards in a block of the call's own; rows that grow.
-/
namespace Go.Proofs.Ytdoeelfcihdmbaa
open Go.RowKit Gf
set_option maxRecDepth 20000
set_option linter.unusedVariables false

/-- The cells of shards, one behind the other. -/
def flatS (l : List (HeadP × Value)) : List Value := l.flatMap fun p => (shardC p.1 p.2).toList
theorem shardC_len (h : HeadP) (v : Value) : (shardC h v).toList.length = 17 := rfl
theorem flatS_cons (p : HeadP × Value) (l : List (HeadP × Value)) : flatS (p :: l) = (shardC p.1 p.2).toList ++ flatS l := rfl
theorem flatS_length : ∀ l : List (HeadP × Value), (flatS l).length = l.length * 17
  | [] => rfl
  | p :: l => by rw [flatS_cons, List.length_append, flatS_length l, shardC_len, List.length_cons, Nat.add_mul]; omega
theorem flatS_get : ∀ (l : List (HeadP × Value)) (i : Nat) (p : HeadP × Value), l[i]? = some p → ∀ j, j < 17 → (flatS l)[i * 17 + j]? = (shardC p.1 p.2)[j]?
  | [], i, p, h, j, hj => by simp at h
  | q :: l, 0, p, h, j, hj => by
    simp only [List.getElem?_cons_zero, Option.some.injEq] at h
    subst h
    rw [flatS_cons, Nat.zero_mul, Nat.zero_add, List.getElem?_append_left (by rw [shardC_len]; exact hj), Array.getElem?_toList]
  | q :: l, i + 1, p, h, j, hj => by
    rw [List.getElem?_cons_succ] at h
    rw [flatS_cons, List.getElem?_append_right (by rw [shardC_len]; omega), shardC_len, show (i + 1) * 17 + j - 17 = i * 17 + j by omega]
    exact flatS_get l i p h j hj
theorem flatS_set : ∀ (l : List (HeadP × Value)) (i : Nat) (p p' : HeadP × Value), l[i]? = some p → ∀ (j : Nat) (u : Value), j < 17 → (shardC p'.1 p'.2).toList = (shardC p.1 p.2).toList.set j u → (flatS l).set (i * 17 + j) u = flatS (l.set i p')
  | [], i, p, p', h, j, u, hj, e => by simp at h
  | q :: l, 0, p, p', h, j, u, hj, e => by
    simp only [List.getElem?_cons_zero, Option.some.injEq] at h
    subst h
    rw [flatS_cons, Nat.zero_mul, Nat.zero_add, List.set_append_left _ _ (by rw [shardC_len]; exact hj), ← e]; rfl
  | q :: l, i + 1, p, p', h, j, u, hj, e => by
    rw [List.getElem?_cons_succ] at h
    rw [flatS_cons, List.set_append_right _ _ (by rw [shardC_len]; omega), shardC_len, show (i + 1) * 17 + j - 17 = i * 17 + j by omega, flatS_set l i p p' h j u hj e]; rfl
theorem flatS_head : ∀ (l : List (HeadP × Value)) (i : Nat) (p : HeadP × Value) (h : HeadP), l[i]? = some p → (flatS l).take (i * 17) ++ (headC h).toList ++ (flatS l).drop (i * 17 + 16) = flatS (l.set i (h, p.2))
  | [], i, p, h, e => by simp at e
  | q :: l, 0, p, h, e => by
    simp only [List.getElem?_cons_zero, Option.some.injEq] at e
    subst e
    rw [flatS_cons, Nat.zero_mul, List.take_zero, List.nil_append, Nat.zero_add, List.drop_append_of_le_length (by rw [shardC_len]; omega)]
    rfl
  | q :: l, i + 1, p, h, e => by
    rw [List.getElem?_cons_succ] at e
    have ih := flatS_head l i p h e
    rw [flatS_cons]
    have h1 : (i + 1) * 17 = (shardC q.1 q.2).toList.length + i * 17 := by rw [shardC_len]; omega
    have h2 : (i + 1) * 17 + 16 = (shardC q.1 q.2).toList.length + (i * 17 + 16) := by rw [shardC_len]; omega
    rw [h2, h1, List.take_append, List.drop_append, List.take_of_length_le (by omega), List.drop_of_length_le (by omega), Nat.add_sub_cancel_left, Nat.add_sub_cancel_left, List.nil_append, List.set_cons_succ, flatS_cons, ← ih]
    simp only [List.append_assoc]
/-- Shards in a block. -/
def Shds (w : World) (g : Nat) (l : List (HeadP × Value)) : Prop := Blk w g 50 (flatS l).toArray
section
variable {w w' : World} {g : Nat} {l : List (HeadP × Value)}
theorem Shds.ext (h : Shds w g l) (hx : Ext w w') : Shds w' g l := Blk.below h hx (Blk.lt h)
theorem Shds.rd (h : Shds w g l) : RdS w g l := fun i p hp j u hu => by
  have hj : j < 17 := (Array.getElem?_eq_some_iff.1 hu).1
  rw [Blk.cell h, List.getElem?_toArray, flatS_get l i p hp j hj]; exact hu
theorem Shds.put (h : Shds w g l) {i : Nat} {p p' : HeadP × Value} (hp : l[i]? = some p) {j : Nat} {u : Value} (hj : j < 17) (e : (shardC p'.1 p'.2).toList = (shardC p.1 p.2).toList.set j u) : Shds (w.setCell ⟨g, i * 17 + j, none⟩ u) g (l.set i p') := by
  have := Blk.set_ h (i * 17 + j) u
  have e2 : (flatS l).toArray.setIfInBounds (i * 17 + j) u = (flatS (l.set i p')).toArray := by rw [List.setIfInBounds_toArray, flatS_set l i p p' hp j u hj e]
  rw [e2] at this; exact this
theorem Shds.head (h : Shds w g l) {i : Nat} {p : HeadP × Value} (hp : l[i]? = some p) {hd : HeadP} (hb : Blk w' g 50 (seg (flatS l).toArray (i * 17) (headC hd).toList)) : Shds w' g (l.set i (hd, p.2)) := by
  have e : seg (flatS l).toArray (i * 17) (headC hd).toList = (flatS (l.set i (hd, p.2))).toArray := by
    rw [seg, ← flatS_head l i p hd hp]; rfl
  rw [e] at hb; exact hb
end
theorem info_shard : (Try.prog.info? 50).map (fun i => (i.zero, i.size, i.bytes)) = some (some (.agg (shardC zeroH (.slice none 0 0))), 17, 104) := by kernel_rfl
theorem ty_shards : Try.prog.underlying 36 = some (.slice 50) := by kernel_rfl
theorem made_shards (N : Nat) : madeCells (shardC zeroH (.slice none 0 0)) (N * 17) = (flatS (List.replicate N (zeroH, .slice none 0 0))).toArray := by
  apply Array.ext_getElem?
  intro k
  refine Eq.trans ?_ (List.getElem?_toArray (xs := flatS (List.replicate N (zeroH, .slice none 0 0)))).symm
  by_cases hk : k < N * 17
  · obtain ⟨i, j, hj, rfl⟩ : ∃ i j, j < 17 ∧ k = i * 17 + j := ⟨k / 17, k % 17, Nat.mod_lt _ (by decide), by omega⟩
    have hi : i < N := by omega
    rw [flatS_get _ i (zeroH, .slice none 0 0) (by rw [List.getElem?_replicate, if_pos hi]) j hj, Array.getElem?_eq_getElem (by rw [size_madeCells]; exact hk)]
    have hs : (shardC zeroH (.slice none 0 0)).size = 17 := rfl
    simp only [madeCells, Array.getElem_map, Array.getElem_range]
    rw [hs, show (i * 17 + j) % 17 = j by omega, Array.getElem?_eq_getElem (by rw [hs]; exact hj), getElem!_pos _ _ (by rw [hs]; exact hj)]
  · rw [Array.getElem?_eq_none (by rw [size_madeCells]; omega), List.getElem?_eq_none (by rw [flatS_length, List.length_replicate]; omega)]
theorem make_shards (N : Nat) (hN : N ≤ 255) (w : World) : (Instr.makeSlice 36 (.int .i64 (N : Int)) (.int .i64 (N : Int))).run Try.prog w = .ok (.slice (some ⟨w.heap.size, 0, none⟩) N N) (w.alloc (.cells (flatS (List.replicate N (zeroH, .slice none 0 0))).toArray 50)) := by
  obtain ⟨i, hi, hz⟩ := Option.map_eq_some_iff.1 info_shard
  simp only [Prod.mk.injEq] at hz
  obtain ⟨h1, h2, h3⟩ := hz
  have := run_make (P := Try.prog) w 36 50 i _ ty_shards hi h1 .i64 .i64 (N : Int) (N : Int) (by omega) (by omega) (by rw [h3]; omega) (by omega)
  rw [this, h2, Int.toNat_natCast]
  rw [show (Value.agg (shardC zeroH (.slice none 0 0))).cells = shardC zeroH (.slice none 0 0) from rfl, made_shards]
/-- The rows while they grow. -/
theorem PSt.grow {W1 wr W2 : World} {N i : Nat} {V : List Value} {R : Nat → List E} {vi v2 : Value} {ys : List E} (h : PSt W1 wr N V R) (hi : V[i]? = some vi) (ho : Own W2 W1.heap.size 5 v2 (bs (R i) ++ bs ys)) (hm : Moved wr W2 vi v2) : PSt W1 (W2.setCell ⟨W1.heap.size, i, none⟩ v2) N (V.set i v2) (updR R i (R i ++ ys)) := by
  have hvi := h.rows.own i vi hi
  have hiV : i < V.length := (List.getElem?_eq_some_iff.1 hi).1
  have hx2 : Ext W1 W2 := h.ext.below.trans (hm.below h.ext.le fun g hg => (hvi.lt g hg).1)
  have hl2 := h.list.kept hm.grown (h.list.types hvi (by decide))
  have hne : ∀ {v : Value} {xs : List Value}, Own W2 W1.heap.size 5 v xs → v.ownBlock ≠ some W1.heap.size := fun {v xs} ho e => by
    rcases ho.types hl2 (by decide) with e1 | e1
    · rw [e] at e1; cases e1
    · exact e1 e
  have key : ∀ (j : Nat) (u : Value), j ≠ i → V[j]? = some u → u.ownBlock = none ∨ u.ownBlock ≠ v2.ownBlock := fun j u hj hu => by
    rcases h.far j i u vi hu hi hj with h5 | h5
    · exact .inl h5
    · rcases hm with ⟨e, -⟩ | ⟨e, -⟩
      · right; rw [e]; exact h5
      · cases e5 : u.ownBlock with
        | none => exact .inl rfl
        | some g =>
          right
          have := ((h.rows.own j u hu).lt g e5).2
          rw [e]; simp; omega
  refine ⟨hx2.new (p := ⟨W1.heap.size, i, none⟩) (Nat.le_refl _) _, by rw [List.length_set]; exact h.len, hl2.set i v2, ⟨fun j u hj => ?_⟩, fun j j' u u' hu hu' hjj => ?_⟩
  · by_cases e : j = i
    · subst e
      rw [List.getElem?_set_self hiV] at hj
      cases hj
      rw [updR_same, bs_append]
      exact ho.far (p := ⟨W1.heap.size, j, none⟩) (hne ho) _
    · rw [List.getElem?_set_ne (fun h => e h.symm)] at hj
      rw [updR_other _ _ _ e]
      have k2 := (h.rows.own j u hj).kept hm.grown (h.far j i u vi hj hi e)
      exact k2.far (p := ⟨W1.heap.size, i, none⟩) (hne k2) _
  · by_cases e : j = i
    · subst e
      rw [List.getElem?_set_self hiV] at hu
      cases hu
      rw [List.getElem?_set_ne hjj] at hu'
      rcases key j' u' (fun h => hjj h.symm) hu' with h5 | h5
      · cases e5 : v2.ownBlock with
        | none => exact .inl rfl
        | some g => right; rw [h5]; simp
      · exact .inr fun h6 => h5 h6.symm
    · rw [List.getElem?_set_ne (fun h => e h.symm)] at hu
      by_cases e' : j' = i
      · subst e'
        rw [List.getElem?_set_self hiV] at hu'
        cases hu'
        exact key j u e hu
      · rw [List.getElem?_set_ne (fun h => e' h.symm)] at hu'
        exact h.far j j' u u' hu hu' hjj
end Go.Proofs.Ytdoeelfcihdmbaa
