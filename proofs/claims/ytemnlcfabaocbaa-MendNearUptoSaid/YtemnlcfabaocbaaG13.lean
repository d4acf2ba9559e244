/-
  Texts of mine, merged: NearW.
-/
import Derived.Test.YtemnlcfabaocbaaG12
/-
  Layer 5: the walk of the statement MendNear.
-/
namespace Go.Proofs.Ytemnlcfabaocbaa
open Go.RowKit Gf
set_option maxRecDepth 20000
set_option linter.unusedVariables false

theorem markF_get {N i : Nat} (h : i < N) (l : List Nat) : (bools (markL (List.replicate N false) l))[i]? = some (.bool (decide (i ∈ l))) := by
  rw [bools, List.getElem?_map, markL_get]
  simp [h]
set_option maxHeartbeats 16000000 in
theorem nearWalk_n (k : Int) (A : Option Addr) (ca : Nat) (rs : List (List E)) (w : World) (hwk : (Lit.int .i64 k).wf = true) (hr : RdRows w A rs) (hcap : ca ≤ 1048576) (hrc : rs.length ≤ ca) (hb : ∀ r ∈ rs, r.length ≤ 1048576) :
    Calls Try.prog 22 #[.int .i64 k, .slice A rs.length ca] w fun e w' => e = .returned (.bool true) ∧ Ext w w' := by
  have hmo : Try.prog.follows Departure.mixedOrders = true := by kernel_rfl
  have hwd : Fence.wide.depth = none := rfl
  have hwf : ∀ f, Fence.wide.fn f := fun _ => trivial
  have HR := Lib.hid hr
  have HB := Lib.hid hb
  clear hr hb
  go_enter Try.func22, Try.ntmps22
  go_wp2_with fail
  refine (awake_n _).mono ?_
  rintro e w1 ⟨rfl, hx1⟩
  have Y := Lib.hid hx1
  clear hx1
  go_wp2_with fail
  refine (mendR_n k A _ ca rs _ rfl (HR.out.ext Y.out) hwk (by omega) (fun r hr => by have := HB.out r hr; omega)).mono ?_
  rintro e w2 ⟨va, vb, out, bad, ee, rfl, hsp, hoa, hob, hx2⟩
  obtain ⟨hf1, hf2, hf3, hf4, hf5⟩ := hsp.fine HB.out
  obtain ⟨Av, cv, rfl, hrv, hcv, -⟩ := hoa.rd
  obtain ⟨Ab, cb, rfl, hrb, -, -, -⟩ := hob.slice
  rw [ints_length]
  replace Y := Lib.hid (Y.out.trans hx2)
  clear hx2 hoa hob
  by_cases hee : ee = 0
  case neg =>
    obtain ⟨rfl, rfl⟩ := hsp.bad_ hee
    have hb : (ee != 0) = true := by rw [bne_iff_ne]; exact hee
    clear hsp hee hrv hrb hf2 hf4
    go_wp2_with (go_at_call 64; with_reducible refine (num5_any ee hf5 _).mono ?_; rintro e w' ⟨rfl, rfl⟩)
    go_ret
    exact ⟨rfl, Y.out⟩
  subst hee
  obtain ⟨kn, L, O, Bd, rfl, hM, hout, hbad⟩ := hsp.zero
  obtain ⟨hk1, hkN, hN255⟩ := hM.kn
  have hLpos := hM.pos
  have hol : out.length = rs.length := by rw [hout, outTo_length]
  obtain ⟨bn, hbn⟩ : ∃ n, n = bad.length := ⟨_, rfl⟩
  rw [hol] at hcv ⊢
  rw [← hbn] at hf3 ⊢
  have hLb : L ≤ 1048576 := by
    rcases hM.meas.2 with h | ⟨r, hr, hl⟩
    · omega
    · rw [← hl]; exact HB.out r hr
  have HM := Lib.hid hM
  have HOUT := Lib.hid hout
  have HBAD := Lib.hid hbad
  have HOL := Lib.hid hol
  have HBN := Lib.hid hbn
  have HRV := Lib.hid hrv
  have HRB := Lib.hid hrb
  have HOR : Hid (∀ r ∈ out, r.length = L) := Lib.hid (by rw [hout]; exact outTo_rows)
  clear hsp hM hout hbad hol hbn hrv hrb hf2 hf4 hf1
  have d0 : ((rs.length : Int) != (rs.length : Int)) = false := by simp
  have d1 : decide ((kn : Int) < 1) = false := decide_eq_false (by omega)
  have d2 : decide ((rs.length : Int) < (kn : Int)) = false := decide_eq_false (by omega)
  obtain ⟨av, D0, e0, hA, hz0, -, -, -⟩ := HRV.out.at_ (show 0 < out.length by rw [HOL.out]; omega)
  subst hA
  rw [add_zero', HOR.out _ (List.getElem_mem _)] at hz0
  have hN0 : (0 : Int) < (rs.length : Int) := by omega
  go_wp2_with (go_at_call 64; with_reducible refine (num5_any 0 (by decide) _).mono ?_; rintro e w' ⟨rfl, rfl⟩)
  clear hz0
  go_loop [11, 12] (fun f i => ∃ q : Nat, q ≤ rs.length ∧ i = .int .i64 q ∧ f = .int .i64 (lostN rs q : Nat)) (fun _ i => rs.length - (intOf i).toNat)
  case atStart => exact ⟨0, by omega, rfl, rfl⟩
  case round =>
    obtain ⟨q, hq, rfl, rfl⟩ := hrel
    by_cases hlt : q < rs.length
    · obtain ⟨av', D1, e1, hA, hc1, -, -, -⟩ := HRV.out.at_ (show q < out.length by rw [HOL.out]; exact hlt)
      cases hA
      rw [HOR.out _ (List.getElem_mem _)] at hc1
      obtain ⟨ad, D2, e2, hA, hc2, -, -, -⟩ := (HR.out.ext Y.out).at_ hlt
      subst hA
      have hgd : rs.getD q [] = rs[q] := by rw [List.getD_eq_getElem?_getD, List.getElem?_eq_getElem hlt]; rfl
      have hle := lostN_le rs q
      obtain ⟨lf, hlf⟩ : ∃ n, n = lostN rs q := ⟨_, rfl⟩
      rw [← hlf] at hle ⊢
      have hqN : (q : Int) < (rs.length : Int) := by omega
      have gL : ((L : Int) != (L : Int)) = false := by simp
      rcases HM.out.len hlt with h0 | h0
      · have HNX : Hid (lostN rs (q + 1) = lf + 1) := Lib.hid (by rw [lostN_yes (by rw [hgd]; exact h0), hlf])
        rw [h0] at hc2
        clear hlf hgd h0
        go_wp2_with fail
        go_round
        case rel => exact ⟨q + 1, by omega, by go_num, by rw [HNX.out]; go_num⟩
        case measure => simp [intOf]; omega
      · have HNX : Hid (lostN rs (q + 1) = lf) := Lib.hid (by rw [lostN_no (by rw [hgd]; omega), hlf])
        rw [h0] at hc2
        have g0 : ((L : Int) != 0) = true := by rw [bne_iff_ne]; omega
        have g1 : ((L : Int) == 0) = false := by rw [beq_eq_false_iff_ne]; omega
        clear hlf hgd h0
        go_wp2_with fail
        go_round
        case rel => exact ⟨q + 1, by omega, by go_num, by rw [HNX.out]⟩
        case measure => simp [intOf]; omega
    · obtain rfl : q = rs.length := by omega
      have hmkB : ∀ w, (Instr.makeSlice 67 (.int .i64 (rs.length : Int)) (.int .i64 (rs.length : Int))).run Try.prog w = .ok (.slice (some ⟨w.heap.size, 0, none⟩) rs.length rs.length) (w.alloc (.cells (zrow (.bool false) rs.length) 4)) := fun w => run_make_elt eltBool _ _ rs.length (by omega) w
      obtain ⟨lf, hlf⟩ : ∃ n, n = lostN rs rs.length := ⟨_, rfl⟩
      have hlfN : lf ≤ rs.length := by rw [hlf]; exact lostN_le _ _
      rw [← hlf]
      have HLF := Lib.hid hlf
      have hnm : Own (w2.alloc (.cells (zrow (.bool false) rs.length) 4)) w2.heap.size 4 (.slice (some ⟨w2.heap.size, 0, none⟩) rs.length rs.length) (bools (markL (List.replicate rs.length false) (bad.take 0))) := by
        have h1 := (Blk.new w2 4 (zrow (.bool false) rs.length)).own (B := w2.heap.size) (n := rs.length) (cap := rs.length) (Nat.le_refl _) (Nat.le_refl _) (by simp only [maxLen]; omega) (zrow_size _ _)
        rw [zrow_list, List.take_of_length_le (by simp)] at h1
        rw [List.take_zero, markL_nil, bools, List.map_replicate]
        exact h1
      have H0 := Lib.hid (And.intro ((Ext.refl w2).alloc (.cells (zrow (.bool false) rs.length) 4)) hnm)
      clear hlf hnm
      go_wp2_with fail
      go_loopw [14] (fun i wr => ∃ q : Nat, q ≤ bn ∧ i = .int .i64 q ∧ Ext w2 wr ∧ Own wr w2.heap.size 4 (.slice (some ⟨w2.heap.size, 0, none⟩) rs.length rs.length) (bools (markL (List.replicate rs.length false) (bad.take q)))) (fun i _ => bn - (intOf i).toNat)
      case atStart => exact ⟨0, by omega, rfl, H0.out.1, H0.out.2⟩
      case round =>
        clear H0
        obtain ⟨W, rfl⟩ : ∃ W, W = wr := ⟨_, rfl⟩
        obtain ⟨q, hq, rfl, hx, ho⟩ := hrel
        by_cases hlt2 : q < bn
        · have hqb : q < bad.length := by rw [← HBN.out]; exact hlt2
          obtain ⟨bd, rfl, hc1⟩ := (HRB.out.ext hx).at_ (ints_get bad q hqb)
          obtain ⟨v, hv⟩ : ∃ x, x = bad[q] := ⟨_, rfl⟩
          have hvN : v < rs.length := by
            rw [hv]
            have : ∀ (l : List Nat) (e : l = badTo rs.length Bd L) (h : q < l.length), l[q] < rs.length := fun l e h => by subst e; exact bad_lt h
            exact this bad HBAD.out hqb
          rw [← hv] at hc1
          have hml : v < (bools (markL (List.replicate rs.length false) (bad.take q))).length := by rw [bools_length, markL_length, List.length_replicate]; exact hvN
          have HX := Lib.hid hx
          have HO := Lib.hid ho
          have HV := Lib.hid hv
          have g0 : decide ((v : Int) < 0) = false := decide_eq_false (by omega)
          have g1 : decide ((rs.length : Int) ≤ (v : Int)) = false := decide_eq_false (by omega)
          have g1n : decide (rs.length ≤ v) = false := decide_eq_false (by omega)
          have hqi : (q : Int) < (bn : Int) := by omega
          have hvi : (v : Int) < (rs.length : Int) := by omega
          clear hx ho hv
          by_cases hq0 : q = 0
          · subst hq0
            rw [add_zero'] at hc1
            have hb0 : (0 : Int) < (bn : Int) := by omega
            go_wp2_with fail
            go_quiet (fail)
            obtain ⟨W2, hW2⟩ : ∃ x, x = W.drewN nq := ⟨_, rfl⟩
            have hx2 : Ext w2 W2 := by rw [hW2]; exact HX.out.drewN nq
            have ho2 : Own W2 w2.heap.size 4 (.slice (some ⟨w2.heap.size, 0, none⟩) rs.length rs.length) (bools (markL (List.replicate rs.length false) (bad.take 0))) := by rw [hW2]; exact HO.out.drewN nq
            have hc2 : W2.cell? bd = some (.int .i64 (v : Int)) := by rw [hW2]; exact hc1
            rw [← hW2]
            clear hW2 HX HO hc1
            have f1 := ho2.frozen v
            obtain ⟨u1, cu⟩ : ∃ u, W2.cell? ⟨w2.heap.size, v, none⟩ = some u := ⟨_, ho2.cell (List.getElem?_eq_getElem hml)⟩
            have hst := ho2.set v (.bool true)
            rw [bools_set, HV.out, ← markL_snoc, ← take_snoc' bad 0 hqb, ← HV.out] at hst
            have HP := Lib.hid (And.intro (hx2.new (p := ⟨w2.heap.size, v, none⟩) (Nat.le_refl _) (.bool true)) hst)
            clear hst ho2 hx2 hml
            go_wp2_with fail
            go_roundw
            case rel => exact ⟨1, by omega, by go_num, HP.out.1, HP.out.2⟩
            case measure => simp [intOf]; omega
          · obtain ⟨p, hp⟩ : ∃ p, p = q - 1 := ⟨_, rfl⟩
            have hpb : p < bad.length := by omega
            have hpq : p + 1 ≤ q ∧ q ≤ p + 1 := by omega
            obtain ⟨bd', hB, hc0⟩ := (HRB.out.ext HX.out).at_ (ints_get bad p hpb)
            cases hB
            obtain ⟨u, hu⟩ : ∃ x, x = bad[p] := ⟨_, rfl⟩
            have huv : u < v := by
              rw [hu, HV.out]
              have : ∀ (l : List Nat) (e : l = badTo rs.length Bd L) (h : q < l.length), l[p]'(by omega) < l[q] := fun l e h => by subst e; exact bad_step h (by omega)
              exact this bad HBAD.out hqb
            rw [← hu] at hc0
            have g2 : decide ((0 : Int) < (q : Int)) = true := decide_eq_true (by omega)
            have g3 : decide ((v : Int) ≤ (u : Int)) = false := decide_eq_false (by omega)
            have g3n : decide (v ≤ u) = false := decide_eq_false (by omega)
            have g2n : decide (0 < q) = true := decide_eq_true (by omega)
            have hpi : (p : Int) < (bn : Int) := by omega
            have hp0 : (0 : Int) ≤ (p : Int) := by omega
            have hw1 : IntKind.i64.wrap ((q : Int) - 1) = (p : Int) := by
              rw [IntWalk.i64_in _ (by omega)]; omega
            clear hu hp hpq hq0
            go_wp2_with fail
            go_quiet (fail)
            clear hw1
            obtain ⟨W2, hW2⟩ : ∃ x, x = W.drewN nq := ⟨_, rfl⟩
            have hx2 : Ext w2 W2 := by rw [hW2]; exact HX.out.drewN nq
            have ho2 : Own W2 w2.heap.size 4 (.slice (some ⟨w2.heap.size, 0, none⟩) rs.length rs.length) (bools (markL (List.replicate rs.length false) (bad.take q))) := by rw [hW2]; exact HO.out.drewN nq
            have hc2 : W2.cell? (bd.add q) = some (.int .i64 (v : Int)) := by rw [hW2]; exact hc1
            rw [← hW2]
            clear hW2 HX HO hc1 hc0
            have f1 := ho2.frozen v
            obtain ⟨u1, cu⟩ : ∃ u, W2.cell? ⟨w2.heap.size, v, none⟩ = some u := ⟨_, ho2.cell (List.getElem?_eq_getElem hml)⟩
            have hst := ho2.set v (.bool true)
            rw [bools_set, HV.out, ← markL_snoc, ← take_snoc' bad q hqb, ← HV.out] at hst
            have HP := Lib.hid (And.intro (hx2.new (p := ⟨w2.heap.size, v, none⟩) (Nat.le_refl _) (.bool true)) hst)
            clear hst ho2 hx2 hml
            go_wp2_with fail
            go_roundw
            case rel => exact ⟨q + 1, by omega, by go_num, HP.out.1, HP.out.2⟩
            case measure => simp [intOf]; omega
        · obtain rfl : q = bn := by omega
          rw [List.take_of_length_le (by rw [HBN.out]; exact Nat.le_refl _)] at ho
          have HNM := Lib.hid ho
          have HX := Lib.hid hx
          clear ho hx
          go_wp2_with fail
          go_loopw [15] (fun i wr => ∃ p : Nat, p ≤ rs.length ∧ i = .int .i64 p ∧ Ext W wr) (fun i _ => rs.length - (intOf i).toNat)
          case atStart => exact ⟨0, by omega, rfl, Ext.refl _⟩
          case round =>
            obtain ⟨W2, rfl⟩ : ∃ W, W = wr := ⟨_, rfl⟩
            obtain ⟨p, hp, rfl, hx⟩ := hrel
            by_cases hlt2 : p < rs.length
            · have hx2 := HX.out.trans hx
              have hpo : p < out.length := by rw [HOL.out]; exact hlt2
              have hnmd := HM.out.named hlt2
              have hbc : decide (p ∈ bad) = (decide (rs[p].length ≠ 0) && !(eqB rs[p] out[p])) := by
                have : ∀ (l : List (List E)) (e : l = outTo rs O L) (h : p < l.length) (b : List Nat) (e2 : b = badTo rs.length Bd L), decide (p ∈ b) = (decide (rs[p].length ≠ 0) && !(eqB rs[p] l[p])) := fun l e h b e2 => by subst e; subst e2; exact hnmd
                exact this out HOUT.out hpo bad HBAD.out
              have hc1 := (HNM.out.ext hx).cell (markF_get hlt2 bad)
              rw [hbc] at hc1
              clear hnmd hbc
              obtain ⟨av', D1, e1, hA, hc2, hr2, -, -⟩ := (HRV.out.ext hx2).at_ hpo
              cases hA
              have hol1 : out[p].length = L := HOR.out _ (List.getElem_mem _)
              rw [hol1] at hc2
              obtain ⟨ad, D2, e2, hA, hc3, hr3, -, -⟩ := (HR.out.ext (Y.out.trans hx2)).at_ hlt2
              subst hA
              have hpN : (p : Int) < (rs.length : Int) := by omega
              have c1 : ∀ u : Beyond W2, u.1.cell? (ad.add p) = some (.slice D2 rs[p].length e2) := fun u => (u.2.cell (p := ad.add p) (World.block_lt_of_cell? _ _ hc3)).trans hc3
              have c2 : ∀ u : Beyond W2, u.1.cell? (av.add p) = some (.slice D1 L e1) := fun u => (u.2.cell (p := av.add p) (World.block_lt_of_cell? _ _ hc2)).trans hc2
              rcases HM.out.len hlt2 with h0 | h0
              · have hfa : (decide (rs[p].length ≠ 0) && !(eqB rs[p] out[p])) = false := by rw [decide_eq_false (by omega)]; rfl
                rw [hfa] at hc1
                have c0 : ∀ u : Beyond W2, u.1.cell? ⟨w2.heap.size, p, none⟩ = some (.bool false) := fun u => (u.2.cell (World.block_lt_of_cell? _ _ hc1)).trans hc1
                rw [h0] at c1
                have HX2 := Lib.hid hx
                clear hfa hc1 hc2 hc3 hr2 hr3 hx hx2 hol1 h0
                go_wp2_with fail
                refine region_beyond_plain hmo (by kernel_rfl) (by kernel_rfl) ?_
                repeat (gi_big_quiet_step (fail))
                refine wpQuietIn_nil ?_
                rintro _ ⟨⟨w5, hx5⟩, rfl⟩
                clear c0 c1 c2
                go_wp2_with fail
                go_roundw
                case rel => exact ⟨p + 1, by omega, by go_num, HX2.out.trans hx5⟩
                case measure => simp [intOf]; omega
              · obtain ⟨b, hb⟩ : ∃ b, b = eqB rs[p] out[p] := ⟨_, rfl⟩
                have hfa : (decide (rs[p].length ≠ 0) && !(eqB rs[p] out[p])) = !b := by rw [decide_eq_true (by omega), hb]; rfl
                rw [hfa] at hc1
                have c0 : ∀ u : Beyond W2, u.1.cell? ⟨w2.heap.size, p, none⟩ = some (.bool !b) := fun u => (u.2.cell (World.block_lt_of_cell? _ _ hc1)).trans hc1
                rw [h0] at c1
                have g0 : ((L : Int) != 0) = true := by rw [bne_iff_ne]; omega
                have HQ : Hid (∀ u : Beyond W2, Calls Try.prog 80 #[.slice D2 L e2, .slice D1 L e1] u.1 fun e w' => e = .returned (.bool b) ∧ Ext u.1 w') := Lib.hid (fun u => by
                  have := sameBytes_any D2 D1 L L rs[p] out[p] e2 e1 u.1 h0 hol1 (hr3.ext u.2) (hr2.ext u.2) (by omega) (by omega)
                  exact this.mono fun e w' ⟨h, hx⟩ => ⟨by rw [h, hb], hx⟩)
                have HX2 := Lib.hid hx
                clear hfa hc1 hc2 hc3 hr2 hr3 hx hx2 hol1 h0 hb
                go_wp2_with fail
                cases b
                all_goals
                  refine region_beyond_plain hmo (by kernel_rfl) (by kernel_rfl) ?_
                  repeat (gi_big_quiet_step ((gi_at_call 80; with_reducible exact call_beyond (HQ.out _))))
                  refine wpQuietIn_nil ?_
                  rintro _ ⟨⟨w5, hx5⟩, rfl⟩
                  clear c0 c1 c2
                  go_wp2_with fail
                  go_roundw
                  case rel => exact ⟨p + 1, by omega, by go_num, HX2.out.trans hx5⟩
                  case measure => simp [intOf]; omega
            · obtain rfl : p = rs.length := by omega
              have HX2 := Lib.hid (HX.out.trans hx)
              clear hx HX HNM
              go_wp2_with fail
              clear HBAD HBN HRB
              go_loopw [16] (fun i wr => ∃ c : Nat, c ≤ L ∧ i = .int .i64 c ∧ Ext w2 wr) (fun i _ => L - (intOf i).toNat)
              case atStart => exact ⟨0, by omega, rfl, HX2.out⟩
              case round =>
                clear HX2
                obtain ⟨W3, rfl⟩ : ∃ W, W = wr := ⟨_, rfl⟩
                obtain ⟨c, hc, rfl, hx⟩ := hrel
                have HX3 := Lib.hid hx
                clear hx
                by_cases hlt3 : c < L
                · have hnear := HM.out.near hlt3
                  rw [← HLF.out] at hnear
                  have hcL : (c : Int) < (L : Int) := by omega
                  go_wp2_with fail
                  go_loopw [17, 18] (fun d i wr => ∃ p : Nat, p ≤ rs.length ∧ i = .int .i64 p ∧ d = .int .i64 (diffN rs (O c) c p : Nat) ∧ Ext w2 wr) (fun _ i _ => rs.length - (intOf i).toNat)
                  case atStart => exact ⟨0, by omega, rfl, rfl, HX3.out⟩
                  case round =>
                    clear HX3
                    obtain ⟨W4, rfl⟩ : ∃ W, W = wr := ⟨_, rfl⟩
                    obtain ⟨p, hp, rfl, rfl, hx⟩ := hrel
                    have hdle := diffN_le rs (O c) c p
                    obtain ⟨dw, hdw⟩ : ∃ n, n = diffN rs (O c) c p := ⟨_, rfl⟩
                    rw [← hdw] at hdle ⊢
                    by_cases hlt4 : p < rs.length
                    · have hpo : p < out.length := by rw [HOL.out]; exact hlt4
                      have hgd : rs.getD p [] = rs[p] := by rw [List.getD_eq_getElem?_getD, List.getElem?_eq_getElem hlt4]; rfl
                      obtain ⟨av', D1, e1, hA, hc2, hr2, -, -⟩ := (HRV.out.ext hx).at_ hpo
                      cases hA
                      have hol1 : out[p].length = L := HOR.out _ (List.getElem_mem _)
                      rw [hol1] at hc2
                      have hyo : out[p]'hpo = out[p] := rfl
                      have hoc : ∀ (h : c < out[p].length), (out[p])[c] = (O c).getD p 0 := by
                        have : ∀ (l : List (List E)) (e : l = outTo rs O L) (h : p < l.length) (h2 : c < (l[p]).length), (l[p])[c] = (O c).getD p 0 := fun l e h h2 => by
                          subst e
                          have := outTo_at (O := O) h hlt3
                          rw [List.getD_eq_getElem?_getD, List.getElem?_eq_getElem h2] at this
                          exact this
                        exact fun h => this out HOUT.out hpo h
                      obtain ⟨ad, D2, e2, hA, hc3, hr3, -, -⟩ := (HR.out.ext (Y.out.trans hx)).at_ hlt4
                      subst hA
                      have hpN : (p : Int) < (rs.length : Int) := by omega
                      rcases HM.out.len hlt4 with h0 | h0
                      · rw [h0] at hc3
                        have HNX : Hid (diffN rs (O c) c (p + 1) = dw) := Lib.hid (by rw [diffN_no (.inl (by rw [hgd]; exact h0)), hdw])
                        have HX4 := Lib.hid hx
                        clear hx hr2 hr3 hol1 h0 hgd hdw hoc hyo
                        go_wp2_with fail
                        go_quiet (fail)
                        have HX5 := Lib.hid (HX4.out.drewN (w := W4) nq)
                        clear hc2 hc3
                        go_wp2_with fail
                        go_roundw
                        case rel => exact ⟨p + 1, by omega, by go_num, by rw [HNX.out], HX5.out⟩
                        case measure => simp [intOf]; omega
                      · have hcr : c < rs[p].length := by omega
                        have hco : c < out[p].length := by omega
                        obtain ⟨xd, rfl, hc4⟩ := hr3.byte hcr
                        obtain ⟨yd, rfl, hc5⟩ := hr2.byte hco
                        rw [hoc hco] at hc5
                        have hxg : (rs.getD p []).getD c 0 = (rs[p])[c] := by rw [hgd, List.getD_eq_getElem?_getD, List.getElem?_eq_getElem hcr]; rfl
                        obtain ⟨xv, hxv⟩ : ∃ x, x = (rs[p])[c] := ⟨_, rfl⟩
                        obtain ⟨yv, hyv⟩ : ∃ x, x = (O c).getD p 0 := ⟨_, rfl⟩
                        rw [← hxv] at hc4 hxg
                        rw [← hyv] at hc5
                        rw [h0] at hc3
                        have hg0 : (rs.getD p []).length ≠ 0 := by rw [hgd]; omega
                        have g0 : ((L : Int) != 0) = true := by rw [bne_iff_ne]; omega
                        have hl1 := xv.lt
                        have hl2 := yv.lt
                        have HX4 := Lib.hid hx
                        by_cases he : yv = xv
                        · have HNX : Hid (diffN rs (O c) c (p + 1) = dw) := Lib.hid (by rw [diffN_no (.inr (by rw [hxg, ← hyv]; exact he)), hdw])
                          have hb0 : ((xv.val : Int) != (yv.val : Int)) = false := by rw [he]; simp
                          clear hx hr2 hr3 hol1 h0 hgd hdw hoc hyo hxg hg0 he hxv hyv
                          go_wp2_with fail
                          go_quiet (fail)
                          have HX5 := Lib.hid (HX4.out.drewN (w := W4) nq)
                          clear hc2 hc3 hc4 hc5
                          go_wp2_with fail
                          go_roundw
                          case rel => exact ⟨p + 1, by omega, by go_num, by rw [HNX.out], HX5.out⟩
                          case measure => simp [intOf]; omega
                        · have HNX : Hid (diffN rs (O c) c (p + 1) = dw + 1) := Lib.hid (by rw [diffN_yes hg0 (by rw [hxg, ← hyv]; exact he), hdw])
                          have hb0 : ((xv.val : Int) != (yv.val : Int)) = true := by
                            rw [bne_iff_ne]
                            intro e
                            exact he (E.ext (by omega))
                          clear hx hr2 hr3 hol1 h0 hgd hdw hoc hyo hxg hg0 he hxv hyv
                          go_wp2_with fail
                          go_quiet (fail)
                          have HX5 := Lib.hid (HX4.out.drewN (w := W4) nq)
                          clear hc2 hc3 hc4 hc5
                          go_wp2_with fail
                          go_roundw
                          case rel => exact ⟨p + 1, by omega, by go_num, by rw [HNX.out]; go_num, HX5.out⟩
                          case measure => simp [intOf]; omega
                    · obtain rfl : p = rs.length := by omega
                      rw [← hdw] at hnear
                      have d5 : decide ((rs.length : Int) - (kn : Int) < 2 * (dw : Int) + (lf : Int)) = false := decide_eq_false (by omega)
                      have HX4 := Lib.hid hx
                      clear hx hdw
                      go_wp2_with fail
                      go_roundw
                      case rel => exact ⟨c + 1, by omega, by go_num, HX4.out⟩
                      case measure => simp [intOf]; omega
                · obtain rfl : c = L := by omega
                  obtain ⟨m, hm⟩ : ∃ m, m = rs.length - kn := ⟨_, rfl⟩
                  have hNm : (rs.length : Int) - (kn : Int) = (m : Int) := by omega
                  have HCM := Lib.hid hm
                  clear hm hlt3
                  have HA := Lib.hid (HM.out.again)
                  by_cases hm1 : 1 ≤ m ∧ m ≤ kn
                  · obtain ⟨hm1, hm2⟩ := hm1
                    have e1 : decide ((1 : Int) ≤ (m : Int)) = true := decide_eq_true (by omega)
                    have e2 : decide ((m : Int) ≤ (kn : Int)) = true := decide_eq_true (by omega)
                    have hkm : kn + m ≤ 255 := by have := HCM.out; omega
                    go_wp2_with fail
                    refine (new_n kn m _ hm1 hm2 hkm).mono ?_
                    rintro e W4 ⟨g, rfl, hcode, hx4⟩
                    have hkmN : kn + m = rs.length := by have := HCM.out; omega
                    rw [hkmN] at hcode
                    have HCODE := Lib.hid hcode
                    have HX4 := Lib.hid (HX3.out.trans hx4)
                    clear hcode hx4 hkmN
                    go_wp2_with (go_at_call 64; with_reducible refine (num5_any 0 (by decide) _).mono ?_; rintro e w' ⟨rfl, rfl⟩)
                    refine (check_n g kn rs.length (some av) cv c out _ HCODE.out HOL.out (HRV.out.ext HX4.out) HOR.out (by omega) (by omega) hLpos (by omega) (by omega) hcv (by have := HM.out.code; rw [← HOUT.out] at this; exact this)).mono ?_
                    rintro e W5 ⟨rfl, hx5⟩
                    have HXE := Lib.hid (HX4.out.trans hx5)
                    clear hx5 HCODE HX4 HX3
                    go_wp2_with (go_at_call 64; with_reducible refine (num5_any 0 (by decide) _).mono ?_; rintro e w' ⟨rfl, rfl⟩)
                    refine (mendR_n (kn : Int) (some av) rs.length cv out _ HOL.out (HRV.out.ext HXE.out) hwk (by omega) (fun r hr => by have := HOR.out r hr; omega)).mono ?_
                    rintro e W6 ⟨va2, vb2, out2, bad2, ee2, rfl, hsp2, hoa2, hob2, hx6⟩
                    obtain ⟨rfl, rfl, rfl⟩ := (by have := HA.out; rw [← HOUT.out] at this; exact this.uniq hsp2 : out = out2 ∧ ([] : List Nat) = bad2 ∧ (0 : Int) = ee2)
                    obtain ⟨Av2, cv2, rfl, hrv2, -, -⟩ := hoa2.rd
                    obtain ⟨Ab2, cb2, rfl, -, -, -, -⟩ := hob2.slice
                    rw [HOL.out]
                    have HRV2 := Lib.hid hrv2
                    have HXF := Lib.hid (HXE.out.trans hx6)
                    have HOV := Lib.hid ((HRV.out.ext HXE.out).ext hx6)
                    clear hsp2 hoa2 hob2 hrv2 hx6
                    have el : (ints []).length = 0 := rfl
                    rw [el]
                    go_wp2_with (go_at_call 64; with_reducible refine (num5_any 0 (by decide) _).mono ?_; rintro e w' ⟨rfl, rfl⟩)
                    refine (sameRows_n Av2 (some av) rs.length rs.length cv2 cv out _ HOL.out HOL.out HRV2.out HOV.out (by omega) (fun r hr => by have := HOR.out r hr; omega)).mono ?_
                    rintro e W7 ⟨rfl, hx7⟩
                    have HXG := Lib.hid (Y.out.trans (HXF.out.trans hx7))
                    clear hx7
                    go_wp2_with fail
                    go_ret
                    exact ⟨rfl, HXG.out⟩
                  · have HXE := Lib.hid HX3.out
                    clear HX3
                    by_cases hm3 : 1 ≤ m
                    · have e1 : decide ((1 : Int) ≤ (m : Int)) = true := decide_eq_true (by omega)
                      have e2 : decide ((m : Int) ≤ (kn : Int)) = false := decide_eq_false (by omega)
                      have e2n : decide (m ≤ kn) = false := decide_eq_false (by omega)
                      have e3n : ¬ m ≤ kn := by omega
                      clear hm1
                      go_wp2_with fail
                      refine (mendR_n (kn : Int) (some av) rs.length cv out _ HOL.out (HRV.out.ext HXE.out) hwk (by omega) (fun r hr => by have := HOR.out r hr; omega)).mono ?_
                      rintro e W6 ⟨va2, vb2, out2, bad2, ee2, rfl, hsp2, hoa2, hob2, hx6⟩
                      obtain ⟨rfl, rfl, rfl⟩ := (by have := HA.out; rw [← HOUT.out] at this; exact this.uniq hsp2 : out = out2 ∧ ([] : List Nat) = bad2 ∧ (0 : Int) = ee2)
                      obtain ⟨Av2, cv2, rfl, hrv2, -, -⟩ := hoa2.rd
                      obtain ⟨Ab2, cb2, rfl, -, -, -, -⟩ := hob2.slice
                      rw [HOL.out]
                      have HRV2 := Lib.hid hrv2
                      have HXF := Lib.hid (HXE.out.trans hx6)
                      have HOV := Lib.hid ((HRV.out.ext HXE.out).ext hx6)
                      clear hsp2 hoa2 hob2 hrv2 hx6
                      have el : (ints []).length = 0 := rfl
                      rw [el]
                      go_wp2_with (go_at_call 64; with_reducible refine (num5_any 0 (by decide) _).mono ?_; rintro e w' ⟨rfl, rfl⟩)
                      refine (sameRows_n Av2 (some av) rs.length rs.length cv2 cv out _ HOL.out HOL.out HRV2.out HOV.out (by omega) (fun r hr => by have := HOR.out r hr; omega)).mono ?_
                      rintro e W7 ⟨rfl, hx7⟩
                      have HXG := Lib.hid (Y.out.trans (HXF.out.trans hx7))
                      clear hx7
                      go_wp2_with fail
                      go_ret
                      exact ⟨rfl, HXG.out⟩
                    · have e1 : decide ((1 : Int) ≤ (m : Int)) = false := decide_eq_false (by omega)
                      clear hm1
                      go_wp2_with fail
                      refine (mendR_n (kn : Int) (some av) rs.length cv out _ HOL.out (HRV.out.ext HXE.out) hwk (by omega) (fun r hr => by have := HOR.out r hr; omega)).mono ?_
                      rintro e W6 ⟨va2, vb2, out2, bad2, ee2, rfl, hsp2, hoa2, hob2, hx6⟩
                      obtain ⟨rfl, rfl, rfl⟩ := (by have := HA.out; rw [← HOUT.out] at this; exact this.uniq hsp2 : out = out2 ∧ ([] : List Nat) = bad2 ∧ (0 : Int) = ee2)
                      obtain ⟨Av2, cv2, rfl, hrv2, -, -⟩ := hoa2.rd
                      obtain ⟨Ab2, cb2, rfl, -, -, -, -⟩ := hob2.slice
                      rw [HOL.out]
                      have HRV2 := Lib.hid hrv2
                      have HXF := Lib.hid (HXE.out.trans hx6)
                      have HOV := Lib.hid ((HRV.out.ext HXE.out).ext hx6)
                      clear hsp2 hoa2 hob2 hrv2 hx6
                      have el : (ints []).length = 0 := rfl
                      rw [el]
                      go_wp2_with (go_at_call 64; with_reducible refine (num5_any 0 (by decide) _).mono ?_; rintro e w' ⟨rfl, rfl⟩)
                      refine (sameRows_n Av2 (some av) rs.length rs.length cv2 cv out _ HOL.out HOL.out HRV2.out HOV.out (by omega) (fun r hr => by have := HOR.out r hr; omega)).mono ?_
                      rintro e W7 ⟨rfl, hx7⟩
                      have HXG := Lib.hid (Y.out.trans (HXF.out.trans hx7))
                      clear hx7
                      go_wp2_with fail
                      go_ret
                      exact ⟨rfl, HXG.out⟩
end Go.Proofs.Ytemnlcfabaocbaa
