/-
  The walk of the laws' own helper apart of chapter 2: rows of the call's own, no two of which share a block, are found apart.
-/
import Derived.Test.YtemnlcfabaocbaaFam
import Derived.Test.YtemnlcfabaocbaaLaw3
namespace Go.Proofs.Ytemnlcfabaocbaa
open Go.RowKit Gf
set_option maxRecDepth 20000
set_option linter.unusedVariables false

theorem infoRowEl : (Try.prog.info? 26).map (fun i => (i.zero, i.size, i.bytes)) = some (some (.slice none 0 0), 1, 24) := by kernel_rfl
theorem eltRowEl : Elt Try.prog 93 26 (.slice none 0 0) 24 := ⟨by kernel_rfl, info_parts infoRowEl, rfl, by decide⟩
theorem infoInt : (Try.prog.info? 3).map (fun i => (i.zero, i.size, i.bytes)) = some (some (.int .i64 0), 1, 8) := by kernel_rfl
theorem eltInt : Elt Try.prog 70 3 (.int .i64 0) 8 := ⟨by kernel_rfl, info_parts infoInt, rfl, by decide⟩

theorem OwnRows.at_ {w : World} {B : Nat} {T : TypeId} {V : List Value} {R : Nat → List E} (h : OwnRows w B T V R) {i : Nat} {v : Value} (hi : V[i]? = some v) :
    ∃ A c, v = .slice A (R i).length c ∧ Rd w A (bs (R i)) ∧ (R i).length ≤ c ∧ c ≤ maxLen ∧ (0 < (R i).length → ∃ g, A = some ⟨g, 0, none⟩) := by
  rcases (h.own i v hi).form with ⟨hv, hn⟩ | ⟨g, cap, hv, hb, hlt, hn, hm⟩
  · have : (R i).length = 0 := by rw [← bs_length, hn]; rfl
    exact ⟨none, 0, by rw [hv, this], by rw [hn]; exact Rd.nil _ _, by omega, Nat.zero_le _, fun h => by omega⟩
  · rw [bs_length] at hv hn
    subst hv
    exact ⟨_, cap, rfl, (h.own i _ hi).rd, hn, hm, fun _ => ⟨g, rfl⟩⟩
theorem ofVal (n : Nat) (h : n < 256) : Value.int .u8 (n : Int) = bv (E.of n) := by
  rw [bv, E.val_of h]

/-- The mark that a row is written full with. -/
def mk1 (i : Nat) : E := E.of (100 + i)
/-- The mark that a row is grown by. -/
def mk2 (i : Nat) : E := E.of (i + 1)
theorem mk1_val {i : Nat} (h : i < 100) : bv (mk1 i) = .int .u8 (100 + (i : Int)) := by rw [bv, mk1, E.val_of (by omega)]; norm_cast
theorem mk2_val {i : Nat} (h : i < 100) : bv (mk2 i) = .int .u8 ((i : Int) + 1) := by rw [bv, mk2, E.val_of (by omega)]; norm_cast
theorem kin_len {R : Nat → List E} {mk : Nat → E} {N M i k : Nat} {s : Kin} (h : Hist R mk N M i k s) : ∃ m, m ≤ M ∧ s.xs = bs (R s.lab ++ List.replicate m (mk s.lab)) := by
  obtain ⟨m, h1, _, h3⟩ := h.xs
  exact ⟨m, h1, h3⟩
theorem Own.oneCell {w : World} {B : Nat} {T : TypeId} {v : Value} {xs : List Value} (h : Own w B T v xs) : v.oneCell' = true := by
  rcases h.form with ⟨rfl, _⟩ | ⟨g, cap, rfl, _⟩ <;> rfl
theorem Own.anySlice {w : World} {B : Nat} {T : TypeId} {v : Value} {xs : List Value} (h : Own w B T v xs) : ∃ A c, v = .slice A xs.length c := by
  rcases h.form with ⟨rfl, rfl⟩ | ⟨g, cap, rfl, _⟩
  · exact ⟨_, _, rfl⟩
  · exact ⟨_, _, rfl⟩
set_option maxHeartbeats 4000000 in
theorem apart_n (G cap N : Nat) (V : List Value) (R : Nat → List E) (B BG : Nat) (w : World) (hVN : V.length = N) (hown : Own w BG 26 (.slice (some ⟨G, 0, none⟩) N cap) V)
    (hrows : OwnRows w B 34 V R) (hfar : FarApart V) (hN : N ≤ 99) (hlen : ∀ i, (R i).length ≤ 100000000000000) (hB : B ≤ w.heap.size) (hN0 : 0 < N) :
    Calls Try.prog 101 #[.slice (some ⟨G, 0, none⟩) N cap] w fun e w' => e = .returned (.bool true) ∧ Touch (InRows V) w w' := by
  have HVN := Lib.hid hVN
  have HFAR := Lib.hid hfar
  have HLEN := Lib.hid hlen
  have hGlt : G < w.heap.size := by obtain ⟨_, cs, hb, _⟩ := hown.blk; exact hb.lt
  have HGL := Lib.hid hGlt
  have hT : 34 ≠ 26 := by decide
  clear hVN hfar hlen hGlt
  go_enter Try.func101, Try.ntmps101
  go_wp2_with fail
  go_loopw [3] (fun i wr => ∃ k : Nat, k ≤ N ∧ i = .int .i64 k ∧ Marking w wr B BG 34 26 G N cap V R mk1 k 0) (fun i _ => N - (intOf i).toNat)
  case atStart => exact ⟨0, by omega, rfl, Marking.start hown hrows⟩
  case round =>
    obtain ⟨i, hi, rfl, hM⟩ := hrel
    by_cases hlt : i < N
    · obtain ⟨v, hv⟩ : ∃ v, V[i]? = some v := ⟨_, List.getElem?_eq_getElem (by rw [HVN.out]; exact hlt)⟩
      obtain ⟨A, c, rfl, hc, hlc, hcm, hsome⟩ := hM.at_ hv
      have hlb := HLEN.out i
      have HV := Lib.hid hv
      have HM := Lib.hid hM
      clear hv hcm hM hc
      go_wp2_with fail
      go_loopw [4] (fun jj wr => ∃ j : Nat, j ≤ (R i).length ∧ jj = .int .i64 j ∧ Marking w wr B BG 34 26 G N cap V R mk1 i j) (fun jj _ => (R i).length - (intOf jj).toNat)
      case atStart => exact ⟨0, by omega, rfl, HM.out⟩
      case round =>
        obtain ⟨j, hj, rfl, hM⟩ := hrel
        obtain ⟨_, _, e, hc, -⟩ := hM.at_ HV.out
        injection e with e1 e2 e3
        subst e1 e3
        clear e2 HM
        by_cases hlt2 : j < (R i).length
        · obtain ⟨g, rfl⟩ := hsome (by omega)
          obtain ⟨x, hx⟩ := hM.old HV.out hlt2
          have hfr := hM.frozen HV.out j
          have HM := Lib.hid (hM.step HFAR.out hT HV.out hlt2)
          rw [mk1_val (by omega)] at HM
          clear hM
          go_wp2_with fail
          go_roundw
          case rel => exact ⟨j + 1, by omega, by go_num, HM.out⟩
          case measure => simp [intOf]; omega
        · obtain rfl : j = (R i).length := by omega
          have HM := Lib.hid hM.next
          clear hM
          go_wp2_with fail
          go_roundw
          case rel => exact ⟨i + 1, by omega, by go_num, HM.out⟩
          case measure => simp [intOf]; omega
    · obtain rfl : N = i := by omega
      have hR2 := hM.done HVN.out
      have hT1 := hM.touch
      have hO1 := hM.own
      obtain ⟨R2, hR2e⟩ : ∃ R2 : Nat → List E, R2 = fun r => List.replicate (R r).length (mk1 r) := ⟨_, rfl⟩
      have HR2 := Lib.hid (show ∀ r, R2 r = List.replicate (R r).length (mk1 r) by rw [hR2e]; exact fun _ => rfl)
      have HR2L := Lib.hid (show ∀ r, (R2 r).length ≤ 100000000000000 by rw [hR2e]; simpa using HLEN.out)
      rw [← hR2e] at hR2
      have HG0 : Hid (∃ cur : Kin, Grow w wr B BG 34 26 3 G N cap V R2 cur (.slice none 0 0) (.slice none 0 0) [] []) := by
        obtain ⟨v, hv⟩ : ∃ v, V[0]? = some v := ⟨_, List.getElem?_eq_getElem (by rw [HVN.out]; exact hN0)⟩
        exact Lib.hid ⟨⟨0, v, bs (R2 0)⟩, Grow.start hT1 hO1 hR2 HFAR.out HGL.out _ ⟨hv, rfl⟩⟩
      have hwr : w.heap.size ≤ wr.heap.size := hT1.size
      clear hM hR2e hR2 hT1 hO1 hown hrows
      go_wp2_with fail
      go_loopw [5, 6, 7] (fun vl vw i wr => ∃ (k : Nat) (cur : Kin) (VL VW : Value) (L : List Kin), VL = vl ∧ VW = vw ∧ k ≤ N ∧ i = .int .i64 k ∧ Grow w wr B BG 34 26 3 G N cap V R2 cur VL VW L L ∧ L.length = 66 * k ∧ (∀ s, s ∈ L → Hist R2 mk2 N 66 k 0 s)) (fun _ _ i _ => N - (intOf i).toNat)
      case atStart => obtain ⟨cur, h⟩ := HG0.out; exact ⟨0, cur, _, _, [], rfl, rfl, by omega, rfl, h, rfl, fun s hs => by cases hs⟩
      case round =>
        obtain ⟨i, cur, VL, VW, L, rfl, rfl, hi, rfl, hG, hLl, hH⟩ := hrel
        clear HG0
        by_cases hlt : i < N
        · obtain ⟨v, hv⟩ : ∃ v, V[i]? = some v := ⟨_, List.getElem?_eq_getElem (by rw [HVN.out]; exact hlt)⟩
          have hc := hG.own.cell hv
          have HST : Hid (Grow w wr B BG 34 26 3 G N cap V R2 ⟨i, v, bs (R2 i ++ List.replicate 0 (mk2 i))⟩ VL VW L L) := Lib.hid (hG.next ⟨i, v, _⟩ ⟨hv, by simp⟩)
          have HH : Hid (∀ s, s ∈ L → Hist R2 mk2 N 66 i 0 s) := Lib.hid hH
          have HLL := Lib.hid hLl
          have hiN := hlt
          clear hG hv hH hLl
          go_wp2_with fail
          clear hc
          go_loopw [5, 6, 8, 9] (fun vl vw g k wr => ∃ (j : Nat) (v VL VW : Value) (L : List Kin), v = g ∧ VL = vl ∧ VW = vw ∧ j ≤ 66 ∧ k = .int .i64 j ∧ Grow w wr B BG 34 26 3 G N cap V R2 ⟨i, v, bs (R2 i ++ List.replicate j (mk2 i))⟩ VL VW L L ∧ L.length = 66 * i + j ∧ (∀ s, s ∈ L → Hist R2 mk2 N 66 i j s)) (fun _ _ _ k _ => 66 - (intOf k).toNat)
          case atStart => exact ⟨0, v, VL, VW, L, rfl, rfl, rfl, by omega, rfl, HST.out, HLL.out, HH.out⟩
          case round =>
            obtain ⟨j, v, VL, VW, L, rfl, rfl, rfl, hj, rfl, hG, hLl, hH⟩ := hrel
            clear HST HH HLL
            by_cases hlt2 : j < 66
            · have HG := Lib.hid hG
              have HH : Hid (∀ s, s ∈ L → Hist R2 mk2 N 66 i j s) := Lib.hid hH
              have HLL := Lib.hid hLl
              have hrl := HR2L.out i
              have hcur : Own wr B 34 v (bs (R2 i ++ List.replicate j (mk2 i))) := hG.fam.own _ (.inr (.inr rfl))
              have hle : B ≤ wr.heap.size := Nat.le_trans hB hG.touch.size
              have hbd : ((bs (R2 i ++ List.replicate j (mk2 i))).length + 1) * 1 ≤ 140737488355328 := by rw [bs_length, List.length_append, List.length_replicate]; omega
              have HCUR := Lib.hid hcur
              clear hG hH hLl hcur
              go_wp2_with (at_builtin; refine wpList_push2 wr eltEl rfl _ _ (by rfl) B v _ (by rfl) (by exact HCUR.out) (.int .u8 ((i : Int) + 1)) wr.heap.size rfl (by rfl) rfl hbd hle ?_)
              intro v1 w1 h1 h2 h3 h4
              obtain ⟨A1, n1, c1, rfl⟩ : ∃ A n c, v1 = Value.slice A n c := by obtain ⟨A, c, h⟩ := h1.anySlice; exact ⟨_, _, _, h⟩
              have h1' : Own w1 B 34 (.slice A1 n1 c1) (bs (R2 i ++ List.replicate (j + 1) (mk2 i))) := by
                rw [List.replicate_succ', ← List.append_assoc, bs_append]
                have := mk2_val (i := i) (by omega)
                rw [← this] at h1
                exact h1
              have HG1 := Lib.hid (HG.out.cur_ hT (by decide) (fun s hs hl => by rw [bs_length, List.length_append, List.length_replicate]; exact (HH.out s hs).len hl) (by show (R2 i).length ≤ (bs _).length; rw [bs_length, List.length_append]; exact Nat.le_add_right _ _) h1' h2 h4)
              have hle1 : w.heap.size ≤ w1.heap.size := HG1.out.touch.size
              have hbd1 : ((L.map Kin.val).length + 1) * 24 ≤ 140737488355328 := by rw [List.length_map]; have := HLL.out; omega
              clear h1 h1' h2 h3 h4 hle hbd
              go_wp2_with (at_builtin; refine wpList_push2 w1 eltRowEl rfl _ _ (by rfl) w.heap.size VL _ (by rfl) (by exact HG1.out.vl) (.slice A1 n1 c1) w1.heap.size rfl (by rfl) rfl hbd1 hle1 ?_)
              intro vl2 w2 h1 h2 h3 h4
              have HG2 := Lib.hid (HG1.out.long_ hT (by decide) h1 h2)
              have hle2 : w.heap.size ≤ w2.heap.size := HG2.out.touch.size
              have hbd2 : ((L.map fun s => Value.int .i64 (s.lab : Int)).length + 1) * 8 ≤ 140737488355328 := by rw [List.length_map]; have := HLL.out; omega
              clear h1 h2 h3 h4 hle1 hbd1
              go_wp2_with (at_builtin; refine wpList_push2 w2 eltInt rfl _ _ (by rfl) w.heap.size VW _ (by rfl) (by exact HG2.out.vw) (.int .i64 (i : Int)) w2.heap.size rfl (by rfl) rfl hbd2 hle2 ?_)
              intro vw3 w3 h1 h2 h3 h4
              have HG3 := Lib.hid (HG2.out.whose_ (by decide) (by decide) h1 h2)
              have HH3 : Hid (∀ s, s ∈ L ++ [⟨i, .slice A1 n1 c1, bs (R2 i ++ List.replicate (j + 1) (mk2 i))⟩] → Hist R2 mk2 N 66 i (j + 1) s) := Lib.hid fun s hs => by
                rcases List.mem_append.1 hs with hs | hs
                · exact (HH.out s hs).more
                · obtain rfl : s = ⟨i, .slice A1 n1 c1, bs (R2 i ++ List.replicate (j + 1) (mk2 i))⟩ := by simpa using hs
                  exact ⟨hiN, Nat.le_refl _, j + 1, by omega, fun _ => Nat.le_refl _, rfl⟩
              clear h1 h2 h3 h4 hle2 hbd2
              go_wp2_with fail
              go_roundw
              case rel => exact ⟨j + 1, .slice A1 n1 c1, vl2, vw3, _, rfl, rfl, rfl, by omega, by go_num, HG3.out, by rw [List.length_append, HLL.out]; simp; omega, HH3.out⟩
              case measure => simp [intOf]; omega
            · obtain rfl : j = 66 := by omega
              have HG := Lib.hid hG
              have HH : Hid (∀ s, s ∈ L → Hist R2 mk2 N 66 (i + 1) 0 s) := Lib.hid fun s hs => (hH s hs).next
              have HLL := Lib.hid hLl
              clear hG hH hLl
              go_wp2_with fail
              go_roundw
              case rel => exact ⟨i + 1, _, VL, VW, L, rfl, rfl, by omega, by go_num, HG.out, by rw [HLL.out]; omega, HH.out⟩
              case measure => simp [intOf]; omega
        · obtain rfl : N = i := by omega
          have hne : L.map Kin.val ≠ [] := fun e => by have := congrArg List.length e; rw [List.length_map, hLl, List.length_nil] at this; omega
          have hne2 : (L.map fun s => Value.int .i64 (s.lab : Int)) ≠ [] := fun e => by have := congrArg List.length e; rw [List.length_map, hLl, List.length_nil] at this; omega
          obtain ⟨gl, cl, rfl, -, -, hl1, hl2⟩ := hG.vl.some_ hne
          obtain ⟨gw, cw, rfl, -, -, hw1, hw2⟩ := hG.vw.some_ hne2
          rw [List.length_map, hLl] at hG hl1 hw1 ⊢
          rw [List.length_map] at hG ⊢
          rw [hLl] at hG ⊢
          obtain ⟨M, hM⟩ : ∃ M, 66 * N = M := ⟨_, rfl⟩
          have hMN : M ≤ 6534 := by omega
          rw [hM] at hG hl1 hw1 hLl ⊢
          have HG := Lib.hid hG
          have HH : Hid (∀ s, s ∈ L → Hist R2 mk2 N 66 N 0 s) := Lib.hid hH
          have HLL := Lib.hid hLl
          clear hG hH hLl hne hne2 hM
          go_wp2_with fail
          go_loop [10] (fun i => ∃ k : Nat, k ≤ M ∧ i = .int .i64 k) (fun i => M - (intOf i).toNat)
          case atStart => exact ⟨0, by omega, rfl⟩
          case round =>
            obtain ⟨k, hk, rfl⟩ := hrel
            by_cases hlt3 : k < M
            · have hkL : k < L.length := by rw [HLL.out]; exact hlt3
              obtain ⟨s, hs⟩ : ∃ s, L[k]? = some s := ⟨_, List.getElem?_eq_getElem hkL⟩
              have hsm : s ∈ L := List.mem_of_getElem? hs
              obtain ⟨m, hm, hxs⟩ := kin_len (HH.out s hsm)
              have hlab := (HH.out s hsm).lt
              have hcl : wr.cell? ⟨gl, k, none⟩ = some s.val := HG.out.vl.cell (by rw [List.getElem?_map, hs]; rfl)
              have hcw : wr.cell? ⟨gw, k, none⟩ = some (.int .i64 (s.lab : Int)) := HG.out.vw.cell (by rw [List.getElem?_map, hs]; rfl)
              obtain ⟨A, c, hsv, hrd, hlc, hcm, -⟩ := (HG.out.fam.own s (.inr (.inl hsm))).slice
              rw [hsv] at hcl
              rw [hxs] at hcl hrd
              obtain ⟨i, hi⟩ : ∃ i, s.lab = i := ⟨_, rfl⟩
              rw [hi] at hcl hcw hrd hlab
              obtain ⟨v0, hv0⟩ : ∃ v, V[i]? = some v := ⟨_, List.getElem?_eq_getElem (by rw [HVN.out]; exact hlab)⟩
              obtain ⟨A0, c0, rfl, hrd0, -, -, -⟩ := (OwnRows.mk (fun i v h => HG.out.fam.own ⟨i, v, _⟩ (.inl ⟨h, rfl⟩)) : OwnRows wr B 34 V R2).at_ hv0
              have hc0 := HG.out.own.cell hv0
              obtain ⟨n, hn⟩ : ∃ n, (R2 i).length = n := ⟨_, rfl⟩
              have hnb : n ≤ 100000000000000 := by rw [← hn]; exact HR2L.out i
              have hR2i : R2 i = List.replicate n (mk1 i) := by rw [← hn, HR2.out]; simp
              rw [bs_length, List.length_append, List.length_replicate, hn] at hcl
              rw [hn] at hc0
              rw [hR2i] at hrd hrd0
              have HRD := Lib.hid hrd
              have HRD0 := Lib.hid hrd0
              have hib : i < 99 := by omega
              clear hs hsm hxs hsv hrd hlc hcm hi hv0 hrd0 hn hR2i
              go_wp2_with fail
              go_loop [12] (fun jj => ∃ j : Nat, j ≤ n + m ∧ jj = .int .i64 j) (fun jj => n + m - (intOf jj).toNat)
              case atStart => exact ⟨0, by omega, rfl⟩
              case round =>
                obtain ⟨j, hj, rfl⟩ := hrel
                by_cases hlt4 : j < n + m
                · obtain ⟨ad, rfl, hb⟩ := HRD.out.byte (k := j) (by simp; omega)
                  by_cases hjn : j < n
                  · obtain ⟨ad0, rfl, hb0⟩ := HRD0.out.byte (k := j) (by simp; omega)
                    rw [List.getElem_append_left (by simp; omega), List.getElem_replicate] at hb
                    rw [List.getElem_replicate] at hb0
                    have e1 := mk1_val (i := i) (by omega)
                    rw [bv] at e1
                    rw [e1] at hb hb0
                    clear e1
                    go_wp2_with fail
                    go_round
                    case rel => exact ⟨j + 1, by omega, by go_num⟩
                    case measure => simp [intOf]; omega
                  · rw [List.getElem_append_right (by simp; omega), List.getElem_replicate] at hb
                    have e1 := mk2_val (i := i) (by omega)
                    rw [bv] at e1
                    rw [e1] at hb
                    clear e1
                    go_wp2_with fail
                    go_round
                    case rel => exact ⟨j + 1, by omega, by go_num⟩
                    case measure => simp [intOf]; omega
                · obtain rfl : j = n + m := by omega
                  go_wp2_with fail
                  go_round
                  case rel => exact ⟨k + 1, by omega, by go_num⟩
                  case measure => simp [intOf]; omega
            · obtain rfl : M = k := by omega
              go_wp2
              go_ret
              exact ⟨rfl, HG.out.fin⟩
end Go.Proofs.Ytemnlcfabaocbaa
