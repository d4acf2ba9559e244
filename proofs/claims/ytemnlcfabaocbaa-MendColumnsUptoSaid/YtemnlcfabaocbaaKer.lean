/-
  The walk of the document's kernel of chapter 5: elimination in place.
-/
import Derived.Test.YtemnlcfabaocbaaKer1
namespace Go.Proofs.Ytemnlcfabaocbaa
open Go.RowKit Gf
set_option maxRecDepth 20000
set_option linter.unusedVariables false

/-- What kernel answers. -/
def KerOut (m U : Nat) (R : Nat → List E) (B : Nat) (e : Ending) (w' : World) : Prop :=
  (∃ g x, e = .returned (.slice (some ⟨g, 0, none⟩) U U) ∧ Own w' B 5 (.slice (some ⟨g, 0, none⟩) U U) (bs x) ∧ x.length = U ∧ (∃ i, i < U ∧ ser x i ≠ 0) ∧ Solves m U (fun i => ser (R i)) (ser x)) ∨
  (e = .returned (.slice none 0 0) ∧ ∀ x, Solves m U (fun i => ser (R i)) x → ∀ i, i < U → x i = 0)
/-- The rows behind the elimination of those below r. -/
def elimTo (R : Nat → List E) (c a r : Nat) : Nat → List E := fun j => if j < r ∧ j ≠ a then elimR (ser (R j) c) (R j) (R a) else R j
theorem elimTo_zero (R : Nat → List E) (c a : Nat) : elimTo R c a 0 = R := funext fun j => by simp [elimTo]
theorem elimTo_self (R : Nat → List E) (c a r : Nat) : elimTo R c a r a = R a := by simp [elimTo]
theorem elimTo_at (R : Nat → List E) (c a r : Nat) : elimTo R c a r r = R r := by simp [elimTo]
theorem elimTo_skip (R : Nat → List E) (c a : Nat) : elimTo R c a (a + 1) = elimTo R c a a := funext fun j => by
  unfold elimTo
  by_cases e : j = a
  · subst e; simp
  · by_cases h : j < a
    · rw [if_pos ⟨by omega, e⟩, if_pos ⟨h, e⟩]
    · rw [if_neg (by omega), if_neg (by omega)]
theorem elimTo_none (R : Nat → List E) (c a r : Nat) (hl : (R a).length = (R r).length) (h0 : ser (R r) c = 0) : elimTo R c a (r + 1) = elimTo R c a r := funext fun j => by
  unfold elimTo
  by_cases e : j = r
  · subst e
    by_cases e2 : j = a
    · simp [e2]
    · rw [if_pos ⟨by omega, e2⟩, if_neg (by omega), h0, elimR_zero hl]
  · by_cases h : j < r ∧ j ≠ a
    · rw [if_pos ⟨by omega, h.2⟩, if_pos h]
    · rw [if_neg (by omega), if_neg h]
theorem elimTo_step (R : Nat → List E) (c a r : Nat) (hne : r ≠ a) : updR (elimTo R c a r) r (elimR (ser (R r) c) (R r) (R a)) = elimTo R c a (r + 1) := funext fun j => by
  unfold updR elimTo
  by_cases e : j = r
  · subst e; rw [if_pos rfl, if_pos ⟨by omega, hne⟩]
  · rw [if_neg e]
    by_cases h : j < r ∧ j ≠ a
    · rw [if_pos h, if_pos (show j < r + 1 ∧ j ≠ a from ⟨by omega, h.2⟩)]
    · rw [if_neg h, if_neg (show ¬ (j < r + 1 ∧ j ≠ a) from fun h2 => h ⟨by omega, h2.2⟩)]
theorem updR_idem (R : Nat → List E) (i : Nat) (a b : List E) : updR (updR R i a) i b = updR R i b := funext fun j => by unfold updR; split <;> rfl
theorem updR_self (R : Nat → List E) (i : Nat) : updR R i (R i) = R := funext fun j => by unfold updR; split <;> simp_all
theorem below_ext {w1 w w' : World} {B : Nat} (hx : Ext w1 w) (hB : w1.heap.size ≤ B) (h : Below B w w') : Ext w1 w' := Below.trans hx (Below.mono h hB)
set_option maxHeartbeats 16000000 in
theorem kernel_n (gt ct G m cap U : Nat) (V0 : List Value) (R0 : Nat → List E) (B : Nat) (w1 w : World) (ht : Tab w1 gt) (hx : Ext w1 w) (hB1 : w1.heap.size ≤ B) (hB : B ≤ w.heap.size)
    (hown : Own w B 24 (.slice (some ⟨G, 0, none⟩) m cap) V0) (hrows : OwnRows w B 5 V0 R0) (hfar : FarApart V0) (hvl : V0.length = m) (hlen : ∀ i, i < m → (R0 i).length = U) (hU : 0 < U) (hU2 : U ≤ 100000) (hm : m ≤ 100000) :
    Calls Try.prog 125 #[.slice (some ⟨gt, 0, none⟩) 256 ct, .slice (some ⟨G, 0, none⟩) m cap, .int .i64 (U : Int)] w fun e w' => KerOut m U R0 w.heap.size e w' ∧ Below B w w' := by
  have hmk : ∀ w, (Instr.makeSlice 70 (.int .i64 (U : Int)) (.int .i64 (U : Int))).run Try.prog w = .ok (.slice (some ⟨w.heap.size, 0, none⟩) U U) (w.alloc (.cells (zrow (.int .i64 0) U) 3)) := fun w => run_make_elt eltInt _ _ U (by omega) w
  have hmo : Try.prog.follows Departure.mixedOrders = true := by kernel_rfl
  have hwd : Fence.wide.depth = none := rfl
  have hwf : ∀ f, Fence.wide.fn f := fun _ => trivial
  have H0 : Hid (KSt w (w.alloc (.cells (zrow (.int .i64 0) U) 3)) B G m cap U w.heap.size V0 R0 (List.replicate U 0)) := Lib.hid (by
    have hxa : Ext w (w.alloc (.cells (zrow (.int .i64 0) U) 3)) := (Ext.refl w).alloc _
    refine ⟨Below.mono hxa hB, hown.ext hxa, hrows.ext hxa, hfar, hvl, hlen, ?_, by simp, hB⟩
    have h1 := (Blk.new w 3 (zrow (.int .i64 0) U)).own (B := w.heap.size) (n := U) (cap := U) (Nat.le_refl _) (Nat.le_refl _) (by simp only [maxLen]; omega) (zrow_size _ _)
    rw [zrow_list, List.take_of_length_le (by simp)] at h1
    have e : ints (List.replicate U 0) = List.replicate U (Value.int .i64 0) := by simp [ints]
    rw [e]; exact h1)
  have HT1 := Lib.hid ht
  have HX1 := Lib.hid hx
  clear hown hrows hfar hvl hlen ht hx
  go_enter Try.func125, Try.ntmps125
  go_wp2_with fail
  go_loopw [8, 9] (fun a c wr => ∃ (at_ cN : Nat) (V : List Value) (R : Nat → List E) (pl : List Nat), a = .int .i64 at_ ∧ c = .int .i64 cN ∧ KSt w wr B G m cap U w.heap.size V R pl ∧ Stair m U (fun i => ser (R i)) cN at_ (fun i => pl.getD i 0) ∧ (∀ x, Solves m U (fun i => ser (R i)) x ↔ Solves m U (fun i => ser (R0 i)) x)) (fun _ c _ => U - (intOf c).toNat)
  case atStart =>
    refine ⟨0, 0, V0, R0, List.replicate U 0, rfl, rfl, H0.out, ?_, fun x => Iff.rfl⟩
    have := Stair.start m U (fun i => ser (R0 i))
    have e : (fun i => (List.replicate U 0).getD i 0) = fun _ : Nat => 0 := funext fun i => by
      rw [List.getD_eq_getElem?_getD, List.getElem?_replicate]; split <;> rfl
    rw [e]; exact this
  case round =>
    obtain ⟨WL, rfl⟩ : ∃ W, W = wr := ⟨_, rfl⟩
    obtain ⟨at_, cN, V, R, pl, rfl, rfl, hK, hS, hQ⟩ := hrel
    clear H0
    have ham := hS.am
    have hcU := hS.cU
    have hTab := HT1.out.ext (below_ext HX1.out hB1 hK.below)
    have HK := Lib.hid hK
    have HS := Lib.hid hS
    have HQ := Lib.hid hQ
    have HTab := Lib.hid hTab
    clear hK hS hQ hTab
    by_cases hgo : cN < U ∧ at_ < m
    · obtain ⟨hcU1, ham1⟩ := hgo
      go_wp2_with fail
      go_loop [10] (fun p => ∃ pn : Nat, at_ ≤ pn ∧ pn ≤ m ∧ p = .int .i64 pn ∧ ∀ r, at_ ≤ r → r < pn → ser (R r) cN = 0) (fun p => m - (intOf p).toNat)
      case atStart => exact ⟨at_, Nat.le_refl _, by omega, rfl, fun r h1 h2 => by omega⟩
      case round =>
        obtain ⟨pn, hp1, hp2, rfl, hz⟩ := hrel
        by_cases hpm : pn < m
        · obtain ⟨gp, cp, hvp, hcp⟩ := HK.out.at_ hU hpm
          have hel := HK.out.getS hpm hvp hcU1
          have hxl := (ser (R pn) cN).lt
          have HZ := Lib.hid hz
          have HVP := Lib.hid hvp
          clear hz hvp
          by_cases hx0 : ser (R pn) cN = 0
          · have hb0 : (((ser (R pn) cN).val : Int) == 0) = true := (eqE _ 0).trans (decide_eq_true hx0)
            have HX0 := Lib.hid hx0
            clear hx0
            go_wp2_with fail
            go_round
            case rel => exact ⟨pn + 1, by omega, by omega, by go_num, fun r h1 h2 => by
              rcases Nat.lt_or_ge r pn with h | h
              · exact HZ.out r h1 h
              · obtain rfl : r = pn := by omega
                exact HX0.out⟩
            case measure => simp [intOf]; omega
          · have hb0 : (((ser (R pn) cN).val : Int) == 0) = false := (eqE _ 0).trans (decide_eq_false hx0)
            obtain ⟨ga, ca, hva, hca⟩ := HK.out.at_ hU ham1
            obtain ⟨V1, hK1, hV1⟩ := HK.out.swap hpm ham1 HVP.out hva
            obtain ⟨W2, hW2⟩ : ∃ W, W = ((WL.setCell ⟨G, pn, none⟩ (.slice (some ⟨ga, 0, none⟩) U ca)).setCell ⟨G, at_, none⟩ (.slice (some ⟨gp, 0, none⟩) U cp)) := ⟨_, rfl⟩
            have f1 : WL.frozen? ⟨G, pn, none⟩ = false := HK.out.own.frozen pn
            have hmid : Own (WL.setCell ⟨G, pn, none⟩ (.slice (some ⟨ga, 0, none⟩) U ca)) B 24 (.slice (some ⟨G, 0, none⟩) m cap) (V.set pn (.slice (some ⟨ga, 0, none⟩) U ca)) := HK.out.own.set pn _
            have f2 := hmid.frozen at_
            have hlm : at_ < (V.set pn (.slice (some ⟨ga, 0, none⟩) U ca)).length := by rw [List.length_set, HK.out.vl]; exact ham1
            have c2 := hmid.cell (List.getElem?_eq_getElem hlm)
            rw [← hW2] at hK1
            have hat1 : V1[at_]? = some (.slice (some ⟨gp, 0, none⟩) U cp) := by rw [hV1 at_ ham1, sw, if_pos rfl]; exact HVP.out
            have e1 : W2.cell? ⟨G, at_, none⟩ = some (.slice (some ⟨gp, 0, none⟩) U cp) := hK1.own.cell hat1
            have hR1 : swapR R pn at_ at_ = R pn := by rw [swapR, sw, if_pos rfl]
            have e2 : W2.cell? ⟨gp, cN, none⟩ = some (.int .u8 ((ser (R pn) cN).val : Int)) := by have := hK1.getS ham1 hat1 hcU1; rwa [hR1] at this
            rw [hW2] at e1 e2
            have HTab2 := Lib.hid (HT1.out.ext (below_ext HX1.out hB1 hK1.below))
            have HK1 := Lib.hid hK1
            have HX0 := Lib.hid hx0
            have HAT1 := Lib.hid hat1
            have HR1 := Lib.hid hR1
            clear hx0 hva hK1 hV1 hmid hat1 hR1
            go_wp2_with fail
            rw [← hW2]
            clear hW2 e1 e2 f1 f2 c2 hlm hca hcp hel
            refine (inverse_n gt ct (ser (R pn) cN) HX0.out W2 HTab2.out).mono ?_
            rintro e w' ⟨rfl, rfl⟩
            obtain ⟨iv, hiv⟩ : ∃ iv, iv = E.inv (ser (R pn) cN) := ⟨_, rfl⟩
            have HIV := Lib.hid hiv
            rw [← hiv]
            clear hiv
            have hivl := iv.lt
            obtain ⟨R1, hR1⟩ : ∃ R', R' = swapR R pn at_ := ⟨_, rfl⟩
            rw [← hR1] at HK1 HR1
            have HR1E := Lib.hid hR1
            clear hR1
            have hl1 : (R1 at_).length = U := HK1.out.len at_ ham1
            have hsl : (scaleR iv (R1 at_)).length = (R1 at_).length := scaleR_length _ _
            have HL1 := Lib.hid hl1
            have HSL := Lib.hid hsl
            have HK2 : Hid (KSt w W2 B G m cap U w.heap.size V1 (updR R1 at_ (mixL (scaleR iv (R1 at_)) (R1 at_) 0)) pl) := Lib.hid (by rw [mixL_zero, updR_self]; exact HK1.out)
            clear hl1 hsl
            go_wp2_with fail
            go_loopw [13] (fun i wr => ∃ iN : Nat, iN ≤ U ∧ i = .int .i64 iN ∧ KSt w wr B G m cap U w.heap.size V1 (updR R1 at_ (mixL (scaleR iv (R1 at_)) (R1 at_) iN)) pl) (fun i _ => U - (intOf i).toNat)
            case atStart => exact ⟨0, by omega, rfl, HK2.out⟩
            case round =>
              obtain ⟨W3, rfl⟩ : ∃ W, W = wr := ⟨_, rfl⟩
              obtain ⟨iN, hi, rfl, hK3⟩ := hrel
              clear HK2
              by_cases hlt : iN < U
              · have e1 : W3.cell? ⟨G, at_, none⟩ = some (.slice (some ⟨gp, 0, none⟩) U cp) := hK3.own.cell HAT1.out
                have hil : iN < (R1 at_).length := by rw [HL1.out]; exact hlt
                have hml : iN < (mixL (scaleR iv (R1 at_)) (R1 at_) iN).length := by rw [mixL_length HSL.out]; exact hil
                have e2 : W3.cell? ⟨gp, iN, none⟩ = some (.int .u8 (((R1 at_)[iN]).val : Int)) := by
                  have h1 := (hK3.rows.own at_ _ HAT1.out).cell (bs_get _ iN (by rw [updR_same]; exact hml))
                  have h2 : (updR R1 at_ (mixL (scaleR iv (R1 at_)) (R1 at_) iN) at_)[iN]'(by rw [updR_same]; exact hml) = (R1 at_)[iN] := by
                    have := mixL_get HSL.out hil
                    simp only [updR_same]
                    exact this
                  rw [h2] at h1
                  exact h1
                obtain ⟨gi, g1, g2⟩ := (HT1.out.ext (below_ext HX1.out hB1 hK3.below)).at_ iv (R1 at_)[iN]
                have hyl := ((R1 at_)[iN]).lt
                have hzl := (iv * (R1 at_)[iN]).lt
                have HK3 := Lib.hid hK3
                clear hK3
                go_wp2_with fail
                refine region_store_plain hmo (by kernel_rfl) (by kernel_rfl) (by kernel_rfl) ?_
                dsimp only [muted, mute, List.dropLast]
                repeat (gi_big_quiet_step (fail))
                refine wpQuietIn_nil ?_
                rintro _ ⟨nq, rfl⟩ s hs'
                simp only [List.getLast?_cons_cons, List.getLast?_singleton, Option.some.injEq] at hs'
                subst hs'
                clear e1 e2 g1 g2
                obtain ⟨W4, hW4⟩ : ∃ W, W = W3.drewN nq := ⟨_, rfl⟩
                have hK4 : KSt w W4 B G m cap U w.heap.size V1 (updR R1 at_ (mixL (scaleR iv (R1 at_)) (R1 at_) iN)) pl := by rw [hW4]; exact HK3.out.drewN nq
                rw [← hW4]
                clear hW4
                have f4 := hK4.frozen HAT1.out iN
                have e4 := (hK4.rows.own at_ _ HAT1.out).cell (bs_get _ iN (by rw [updR_same]; exact hml))
                have hK5 := hK4.set ham1 HAT1.out iN (iv * (R1 at_)[iN])
                rw [updR_same, updR_idem] at hK5
                have hst : (mixL (scaleR iv (R1 at_)) (R1 at_) iN).set iN (iv * (R1 at_)[iN]) = mixL (scaleR iv (R1 at_)) (R1 at_) (iN + 1) := by
                  have := mixL_set HSL.out hil
                  rwa [scaleR_get hil] at this
                rw [hst] at hK5
                have HK5 := Lib.hid hK5
                clear hK4 hK5 hst
                go_simp
                go_wp2_with fail
                go_roundw
                case rel => exact ⟨iN + 1, by omega, by go_num, HK5.out⟩
                case measure => simp [intOf]; omega
              · obtain rfl : U = iN := by omega
                have e : mixL (scaleR iv (R1 at_)) (R1 at_) U = scaleR iv (R1 at_) := by have := mixL_all HSL.out; rwa [HL1.out] at this
                rw [e] at hK3
                obtain ⟨R2, hR2⟩ : ∃ R', R' = updR R1 at_ (scaleR iv (R1 at_)) := ⟨_, rfl⟩
                rw [← hR2] at hK3
                have HR2 := Lib.hid hR2
                have HK4 : Hid (KSt w W3 B G m cap U w.heap.size V1 (elimTo R2 cN at_ 0) pl) := Lib.hid (by rw [elimTo_zero]; exact hK3)
                have HL2 : Hid (∀ i, i < m → (R2 i).length = U) := Lib.hid hK3.len
                clear e hK3 hR2
                go_wp2_with fail
                go_loopw [14] (fun r wr => ∃ rN : Nat, rN ≤ m ∧ r = .int .i64 rN ∧ KSt w wr B G m cap U w.heap.size V1 (elimTo R2 cN at_ rN) pl) (fun r _ => m - (intOf r).toNat)
                case atStart => exact ⟨0, by omega, rfl, HK4.out⟩
                case round =>
                  obtain ⟨W5, rfl⟩ : ∃ W, W = wr := ⟨_, rfl⟩
                  obtain ⟨rN, hr, rfl, hK5⟩ := hrel
                  clear HK4
                  by_cases hlt : rN < m
                  · obtain ⟨gr, cr, hvr, e1⟩ := hK5.at_ hU hlt
                    have e2 := hK5.getS hlt hvr hcU1
                    rw [elimTo_at] at e2
                    obtain ⟨fv, hfv⟩ : ∃ f, f = ser (R2 rN) cN := ⟨_, rfl⟩
                    rw [← hfv] at e2
                    have hfl := fv.lt
                    have HFV := Lib.hid hfv
                    have HVR := Lib.hid hvr
                    have HK5 := Lib.hid hK5
                    clear hfv hvr hK5
                    by_cases hra : at_ = rN
                    · subst hra
                      have HK6 : Hid (KSt w W5 B G m cap U w.heap.size V1 (elimTo R2 cN at_ (at_ + 1)) pl) := Lib.hid (by rw [elimTo_skip]; exact HK5.out)
                      go_wp2_with fail
                      go_roundw
                      case rel => exact ⟨at_ + 1, by omega, by go_num, HK6.out⟩
                      case measure => simp [intOf]; omega
                    · have hn1 : ((rN : Int) == (at_ : Int)) = false := by rw [beq_eq_false_iff_ne]; omega
                      have hn2 : (rN == at_) = false := by rw [beq_eq_false_iff_ne]; omega
                      have HRA := Lib.hid hra
                      clear hra
                      by_cases hf0 : fv = 0
                      · have hb1 : ((fv.val : Int) == 0) = true := (eqE _ 0).trans (decide_eq_true hf0)
                        have HK6 : Hid (KSt w W5 B G m cap U w.heap.size V1 (elimTo R2 cN at_ (rN + 1)) pl) := Lib.hid (by
                          rw [elimTo_none R2 cN at_ rN (by rw [HL2.out at_ ham1, HL2.out rN hlt]) (by rw [← HFV.out]; exact hf0)]; exact HK5.out)
                        clear hf0
                        go_wp2_with fail
                        go_roundw
                        case rel => exact ⟨rN + 1, by omega, by go_num, HK6.out⟩
                        case measure => simp [intOf]; omega
                      · have hb1 : ((fv.val : Int) == 0) = false := (eqE _ 0).trans (decide_eq_false hf0)
                        have HEL : Hid ((elimR fv (R2 rN) (R2 at_)).length = (R2 rN).length) := Lib.hid (elimR_length (by rw [HL2.out at_ ham1, HL2.out rN hlt]))
                        have HK6 : Hid (KSt w W5 B G m cap U w.heap.size V1 (updR (elimTo R2 cN at_ rN) rN (mixL (elimR fv (R2 rN) (R2 at_)) (R2 rN) 0)) pl) := Lib.hid (by
                          have h1 := updR_self (elimTo R2 cN at_ rN) rN
                          rw [elimTo_at] at h1
                          rw [mixL_zero, h1]; exact HK5.out)
                        clear hf0
                        go_wp2_with fail
                        go_loopw [16] (fun i wr => ∃ iN : Nat, iN ≤ U ∧ i = .int .i64 iN ∧ KSt w wr B G m cap U w.heap.size V1 (updR (elimTo R2 cN at_ rN) rN (mixL (elimR fv (R2 rN) (R2 at_)) (R2 rN) iN)) pl) (fun i _ => U - (intOf i).toNat)
                        case atStart => exact ⟨0, by omega, rfl, HK6.out⟩
                        case round =>
                          obtain ⟨W6, rfl⟩ : ∃ W, W = wr := ⟨_, rfl⟩
                          obtain ⟨iN, hi, rfl, hK7⟩ := hrel
                          clear HK6
                          by_cases hlt3 : iN < U
                          · have hil : iN < (R2 rN).length := by rw [HL2.out rN hlt]; exact hlt3
                            have hal : iN < (R2 at_).length := by rw [HL2.out at_ ham1]; exact hlt3
                            have hml : iN < (mixL (elimR fv (R2 rN) (R2 at_)) (R2 rN) iN).length := by rw [mixL_length HEL.out]; exact hil
                            have d1 : W6.cell? ⟨G, rN, none⟩ = some (.slice (some ⟨gr, 0, none⟩) U cr) := hK7.own.cell HVR.out
                            have d2 : W6.cell? ⟨gr, iN, none⟩ = some (.int .u8 (((R2 rN)[iN]).val : Int)) := by
                              have h1 := (hK7.rows.own rN _ HVR.out).cell (bs_get _ iN (by rw [updR_same]; exact hml))
                              have h2 : (updR (elimTo R2 cN at_ rN) rN (mixL (elimR fv (R2 rN) (R2 at_)) (R2 rN) iN) rN)[iN]'(by rw [updR_same]; exact hml) = (R2 rN)[iN] := by
                                have := mixL_get HEL.out hil
                                simp only [updR_same]
                                exact this
                              rw [h2] at h1
                              exact h1
                            have d3 : W6.cell? ⟨G, at_, none⟩ = some (.slice (some ⟨gp, 0, none⟩) U cp) := hK7.own.cell HAT1.out
                            have ha2 : updR (elimTo R2 cN at_ rN) rN (mixL (elimR fv (R2 rN) (R2 at_)) (R2 rN) iN) at_ = R2 at_ := by rw [updR_other _ _ _ HRA.out, elimTo_self]
                            have d4 : W6.cell? ⟨gp, iN, none⟩ = some (.int .u8 (((R2 at_)[iN]).val : Int)) := by
                              have h1 := (hK7.rows.own at_ _ HAT1.out)
                              rw [ha2] at h1
                              exact h1.cell (bs_get _ iN hal)
                            obtain ⟨gi, g1, g2⟩ := (HT1.out.ext (below_ext HX1.out hB1 hK7.below)).at_ fv (R2 at_)[iN]
                            have hyl := ((R2 rN)[iN]).lt
                            have hwl := ((R2 at_)[iN]).lt
                            have hzl := (fv * (R2 at_)[iN]).lt
                            have hxo := bits_u8_xor (R2 rN)[iN] (fv * (R2 at_)[iN])
                            have HK7 := Lib.hid hK7
                            clear hK7 ha2
                            go_wp2_with fail
                            refine region_store_plain hmo (by kernel_rfl) (by kernel_rfl) (by kernel_rfl) ?_
                            dsimp only [muted, mute, List.dropLast]
                            repeat (gi_big_quiet_step (fail))
                            refine wpQuietIn_nil ?_
                            rintro _ ⟨nq, rfl⟩ s hs'
                            simp only [List.getLast?_cons_cons, List.getLast?_singleton, Option.some.injEq] at hs'
                            subst hs'
                            clear d1 d2 d3 d4 g1 g2 hxo
                            obtain ⟨W7, hW7⟩ : ∃ W, W = W6.drewN nq := ⟨_, rfl⟩
                            have hK8 : KSt w W7 B G m cap U w.heap.size V1 (updR (elimTo R2 cN at_ rN) rN (mixL (elimR fv (R2 rN) (R2 at_)) (R2 rN) iN)) pl := by rw [hW7]; exact HK7.out.drewN nq
                            rw [← hW7]
                            clear hW7
                            have f4 := hK8.frozen HVR.out iN
                            have e4 := (hK8.rows.own rN _ HVR.out).cell (bs_get _ iN (by rw [updR_same]; exact hml))
                            have hK9 := hK8.set hlt HVR.out iN ((R2 rN)[iN] + fv * (R2 at_)[iN])
                            rw [updR_same, updR_idem] at hK9
                            have hst : (mixL (elimR fv (R2 rN) (R2 at_)) (R2 rN) iN).set iN ((R2 rN)[iN] + fv * (R2 at_)[iN]) = mixL (elimR fv (R2 rN) (R2 at_)) (R2 rN) (iN + 1) := by
                              have := mixL_set HEL.out hil
                              rwa [elimR_get (by rw [HL2.out at_ ham1, HL2.out rN hlt]) hil] at this
                            rw [hst] at hK9
                            have HK9 := Lib.hid hK9
                            clear hK8 hK9 hst
                            go_simp
                            go_wp2_with fail
                            go_roundw
                            case rel => exact ⟨iN + 1, by omega, by go_num, HK9.out⟩
                            case measure => simp [intOf]; omega
                          · obtain rfl : U = iN := by omega
                            have e : mixL (elimR fv (R2 rN) (R2 at_)) (R2 rN) U = elimR fv (R2 rN) (R2 at_) := by have := mixL_all HEL.out; rwa [HL2.out rN hlt] at this
                            rw [e, HFV.out, elimTo_step R2 cN at_ rN (fun h => HRA.out h.symm)] at hK7
                            have HK9 := Lib.hid hK7
                            clear hK7 e
                            go_wp2_with fail
                            go_roundw
                            case rel => exact ⟨rN + 1, by omega, by go_num, HK9.out⟩
                            case measure => simp [intOf]; omega
                  · obtain rfl : m = rN := by omega
                    obtain ⟨R3, hR3⟩ : ∃ R', R' = elimTo R2 cN at_ m := ⟨_, rfl⟩
                    rw [← hR3] at hK5
                    have hat3 : ∀ i, ser (R3 at_) i = E.inv (ser (R pn) cN) * ser (R pn) i := fun i => by
                      rw [hR3, elimTo_self, HR2.out, updR_same, ser_scaleR, HIV.out, HR1.out]
                    have hoth3 : ∀ r, r < m → r ≠ at_ → ∀ i, ser (R3 r) i = (if r = pn then ser (R at_) i else ser (R r) i) + (if r = pn then ser (R at_) cN else ser (R r) cN) * ser (R3 at_) i := fun r hr hne i => by
                      have h1 : R2 r = if r = pn then R at_ else R r := by
                        rw [HR2.out, updR_other _ _ _ hne, HR1E.out, swapR, sw, if_neg hne]
                        split <;> rfl
                      have h2 : R3 at_ = R2 at_ := by rw [hR3, elimTo_self]
                      have h3 : R3 r = elimR (ser (R2 r) cN) (R2 r) (R2 at_) := by rw [hR3]; unfold elimTo; rw [if_pos ⟨hr, hne⟩]
                      rw [h3, h2, ser_elimR (by rw [HL2.out at_ ham1, HL2.out r hr]), h1]
                      by_cases e : r = pn
                      · rw [if_pos e, if_pos e, if_pos e]
                      · rw [if_neg e, if_neg e, if_neg e]
                    have hS2 := HS.out.step hcU1 hp1 hpm HX0.out (M' := fun i => ser (R3 i)) hat3 hoth3
                    have hQ2 : ∀ x, Solves m U (fun i => ser (R3 i)) x ↔ Solves m U (fun i => ser (R0 i)) x := fun x => (solves_step (M := fun i => ser (R i)) ham1 hpm HX0.out hat3 hoth3 x).trans (HQ.out x)
                    have hpl := hK5.pll
                    have hpf : (fun i => (pl.set cN (at_ + 1)).getD i 0) = fun i => if i = cN then at_ + 1 else pl.getD i 0 := funext fun i => by
                      by_cases e : i = cN
                      · subst e; rw [if_pos rfl, List.getD_eq_getElem?_getD, List.getElem?_set_self (by omega)]; rfl
                      · rw [if_neg e, List.getD_eq_getElem?_getD, List.getElem?_set_ne (fun h => e h.symm), List.getD_eq_getElem?_getD]
                    rw [← hpf] at hS2
                    have hK6 := hK5.setPlace cN (at_ + 1)
                    have f5 := hK5.place.frozen cN
                    have c5 := hK5.placeAt hcU1
                    have hco : (((at_ + 1 : Nat) : Int)) = (at_ : Int) + 1 := by omega
                    rw [hco] at hK6
                    have HH := Lib.hid (And.intro hK6 (And.intro hS2 hQ2))
                    clear hK5 hK6 hS2 hQ2 hpl hpf hat3 hoth3 hco hR3
                    go_wp2_with fail
                    go_roundw
                    case rel => exact ⟨at_ + 1, cN + 1, V1, R3, pl.set cN (at_ + 1), by go_num, by go_num, HH.out.1, HH.out.2.1, HH.out.2.2⟩
                    case measure => simp [intOf]; omega
        · obtain rfl : m = pn := by omega
          have HS2 := Lib.hid (HS.out.skip hcU1 hz)
          clear hz
          go_wp2_with fail
          go_roundw
          case rel => exact ⟨at_, cN + 1, V, R, pl, rfl, by go_num, HK.out, HS2.out, HQ.out⟩
          case measure => simp [intOf]; omega
    · have HEND : Hid (cN = U ∨ at_ = m) := Lib.hid (by omega)
      have hmkU := make_bytes U (by omega)
      have hzU := Lib.hid (zrow_size (.int .u8 0) U)
      rcases (show (cN = U ∧ ¬ (cN < U)) ∨ (cN < U ∧ ¬ (at_ < m)) by omega) with ⟨_, hex⟩ | ⟨hex0, hex⟩
      all_goals
        clear hgo
        go_wp2_with fail
        go_loop [17] (fun c => ∃ fN : Nat, fN ≤ U ∧ c = .int .i64 fN ∧ ∀ i, i < fN → pl.getD i 0 ≠ 0) (fun c => U - (intOf c).toNat)
        case atStart => exact ⟨0, by omega, rfl, fun i h => absurd h (by omega)⟩
        case round =>
          obtain ⟨fN, hf, rfl, hall⟩ := hrel
          by_cases hlt : fN < U
          · have c1 := HK.out.placeAt hlt
            by_cases hq : pl.getD fN 0 = 0
            · rw [hq] at c1
              have HQ0 := Lib.hid hq
              obtain ⟨FL, hFL⟩ : ∃ l, l = ofS U (freeSol (fun i => ser (R i)) (fun i => pl.getD i 0) fN) := ⟨_, rfl⟩
              obtain ⟨UL, hUL⟩ : ∃ l : List E, l = ofS U (fun j => if j = fN then 1 else 0) := ⟨_, rfl⟩
              have hfl : FL.length = U := by rw [hFL, ofS_length]
              have hul : UL.length = U := by rw [hUL, ofS_length]
              have hfu : FL.length = UL.length := by rw [hfl, hul]
              obtain ⟨WX, hWX⟩ : ∃ W, W = WL.alloc (.cells ((zrow (.int .u8 0) U).setIfInBounds fN (.int .u8 1)) 5) := ⟨_, rfl⟩
              have hbx2 : Ext WL WX := by rw [hWX]; exact (Ext.refl WL).alloc _
              have hk2 : KSt w WX B G m cap U w.heap.size V R pl := HK.out.ext hbx2 (Below.trans HK.out.below (Below.mono hbx2 (Nat.le_trans HK.out.hB HK.out.below.size)))
              have hblk := Blk.new WL 5 (zrow (.int .u8 0) U)
              have fz := hblk.frozen fN
              have cz : (WL.alloc (.cells (zrow (.int .u8 0) U) 5)).cell? ⟨WL.heap.size, fN, none⟩ = some (.int .u8 0) := by rw [hblk.cell fN]; exact zrow_get _ _ _ hlt
              have hox : Own WX WL.heap.size 5 (.slice (some ⟨WL.heap.size, 0, none⟩) U U) (bs UL) := by
                have h1 := (Blk.new WL 5 ((zrow (.int .u8 0) U).setIfInBounds fN (.int .u8 1))).own (B := WL.heap.size) (n := U) (cap := U) (Nat.le_refl _) (Nat.le_refl _) (by simp only [maxLen]; omega) (by rw [Array.size_setIfInBounds]; exact hzU.out)
                rw [Array.toList_setIfInBounds, zrow_list, List.take_of_length_le (by simp)] at h1
                have e : (List.replicate U (Value.int .u8 0)).set fN (.int .u8 1) = bs UL := by
                  rw [hUL]
                  apply List.ext_getElem?
                  intro j
                  rw [bs, List.getElem?_map]
                  by_cases hj : j < U
                  · rw [List.getElem?_eq_getElem (show j < (ofS U (fun j => if j = fN then (1 : E) else 0)).length by rw [ofS_length]; exact hj), ofS_getElem]
                    by_cases hjf : j = fN
                    · subst hjf; rw [List.getElem?_set_self (by simpa using hj)]; simp [bv]; rfl
                    · rw [List.getElem?_set_ne (fun h => hjf h.symm), List.getElem?_replicate, if_pos hj, if_neg hjf]; simp [bv]; rfl
                  · rw [List.getElem?_eq_none (by simp; omega), List.getElem?_eq_none (by rw [ofS_length]; omega)]; rfl
                rw [e] at h1
                rw [hWX]; exact h1
              have HX0 : Hid (KSt w WX B G m cap U w.heap.size V R pl ∧ Own WX WL.heap.size 5 (.slice (some ⟨WL.heap.size, 0, none⟩) U U) (bs (mixL FL UL 0))) := Lib.hid ⟨hk2, by rw [mixL_zero]; exact hox⟩
              have HFL := Lib.hid hFL
              have HUL := Lib.hid hUL
              have HFU := Lib.hid hfu
              have HUU := Lib.hid hul
              clear hq hFL hUL hfl hul hfu hbx2 hk2 hblk hox hall
              go_wp2_with fail
              rw [← hWX]
              clear hWX fz cz c1
              go_loopw [19] (fun i wr => ∃ iN : Nat, iN ≤ U ∧ i = .int .i64 iN ∧ KSt w wr B G m cap U w.heap.size V R pl ∧ Own wr WL.heap.size 5 (.slice (some ⟨WL.heap.size, 0, none⟩) U U) (bs (mixL FL UL iN))) (fun i _ => U - (intOf i).toNat)
              case atStart => exact ⟨0, by omega, rfl, HX0.out.1, HX0.out.2⟩
              case round =>
                obtain ⟨iN, hi, rfl, hK7, hO7⟩ := hrel
                clear HX0
                by_cases hlt2 : iN < U
                · have c2 := hK7.placeAt hlt2
                  have hiu : iN < UL.length := by rw [HUU.out]; exact hlt2
                  have hif : iN < FL.length := by rw [HFU.out]; exact hiu
                  have hfi : FL[iN] = freeSol (fun i => ser (R i)) (fun i => pl.getD i 0) fN iN := by
                    have : ser FL iN = freeSol (fun i => ser (R i)) (fun i => pl.getD i 0) fN iN := by rw [HFL.out, ser_ofS_lt _ _ _ hlt2]
                    rwa [ser_at _ _ hif] at this
                  have hui : UL[iN] = if iN = fN then 1 else 0 := by
                    have : ser UL iN = if iN = fN then 1 else 0 := by rw [HUL.out, ser_ofS_lt _ _ _ hlt2]
                    rwa [ser_at _ _ hiu] at this
                  by_cases hq2 : pl.getD iN 0 = 0
                  · rw [hq2] at c2
                    have hsk : mixL FL UL (iN + 1) = mixL FL UL iN := mixL_skip HFU.out hiu (by rw [hfi, hui, freeSol, if_neg (by simpa using hq2)])
                    have HH := Lib.hid (And.intro hK7 hO7)
                    have HSK := Lib.hid hsk
                    clear hq2 hsk hfi hui hK7 hO7
                    go_wp2_with fail
                    go_roundw
                    case rel => exact ⟨iN + 1, by omega, by go_num, HH.out.1, by rw [HSK.out]; exact HH.out.2⟩
                    case measure => simp [intOf]; omega
                  · obtain ⟨kN, hk⟩ : ∃ k, pl.getD iN 0 = k + 1 := ⟨pl.getD iN 0 - 1, by omega⟩
                    have hkat := (HS.out.piv iN kN hk).2.1
                    have hkm : kN < m := by omega
                    rw [hk] at c2
                    have hc2e : (((kN + 1 : Nat) : Int)) = (kN : Int) + 1 := by omega
                    rw [hc2e] at c2
                    obtain ⟨gk, ck, hvk, c3⟩ := hK7.at_ hU hkm
                    have c4 := hK7.getS hkm hvk hlt
                    have hvl := (ser (R kN) fN).lt
                    have hmi : (mixL FL UL iN).set iN (ser (R kN) fN) = mixL FL UL (iN + 1) := by
                      have := mixL_set HFU.out hiu
                      rw [hfi, freeSol, if_pos (by simpa using hq2)] at this
                      rw [hk, Nat.add_sub_cancel] at this
                      exact this
                    have f6 := hO7.frozen iN
                    have c6 := hO7.cell (bs_get (mixL FL UL iN) iN (by rw [mixL_length HFU.out]; exact hiu))
                    have hO8 := hO7.set iN (.int .u8 ((ser (R kN) fN).val : Int))
                    have e8 : (bs (mixL FL UL iN)).set iN (.int .u8 ((ser (R kN) fN).val : Int)) = bs (mixL FL UL (iN + 1)) := by
                      rw [← hmi, bs, bs, List.map_set]; rfl
                    rw [e8] at hO8
                    have hxs : WL.heap.size ≤ WL.heap.size := Nat.le_refl _
                    have hBW : B ≤ WL.heap.size := Nat.le_trans HK.out.hB HK.out.below.size
                    have hK8 : KSt w (wr.setCell ⟨WL.heap.size, iN, none⟩ (.int .u8 ((ser (R kN) fN).val : Int))) B G m cap U w.heap.size V R pl := by
                      have hgl : ∀ {T : TypeId} {v : Value} {xs : List Value} {C : Nat}, Own WL C T v xs → v.ownBlock ≠ some WL.heap.size := fun ho e => by
                        have := (ho.lt _ e).2; omega
                      have fr : ∀ {T : TypeId} {v : Value} {xs : List Value} {C : Nat}, Own wr C T v xs → v.ownBlock ≠ some WL.heap.size → Own (wr.setCell ⟨WL.heap.size, iN, none⟩ (.int .u8 ((ser (R kN) fN).val : Int))) C T v xs := fun ho hne => ho.far (p := ⟨WL.heap.size, iN, none⟩) hne _
                      exact ⟨hK7.below.setCell (p := ⟨WL.heap.size, iN, none⟩) hBW _, fr hK7.own (hgl HK.out.own), ⟨fun i v hv => fr (hK7.rows.own i v hv) (hgl (HK.out.rows.own i v hv))⟩, hK7.far, hK7.vl, hK7.len, fr hK7.place (hgl HK.out.place), hK7.pll, hK7.hB⟩
                    have HH := Lib.hid (And.intro hK8 hO8)
                    clear hK7 hO7 hK8 hO8 e8 hmi hc2e hk hq2 hfi hui hvk hxs
                    go_wp2_with fail
                    go_roundw
                    case rel => exact ⟨iN + 1, by omega, by go_num, HH.out.1, HH.out.2⟩
                    case measure => simp [intOf]; omega
                · obtain rfl : U = iN := by omega
                  have hfin : mixL FL UL U = FL := by have := mixL_all HFU.out; rwa [HUU.out] at this
                  rw [hfin] at hO7
                  have HO7 := Lib.hid hO7
                  have HK7 := Lib.hid hK7
                  have hse : ∀ i, i < U → ser FL i = freeSol (fun i => ser (R i)) (fun i => pl.getD i 0) fN i := fun i hi => by rw [HFL.out, ser_ofS_lt _ _ _ hi]
                  have hsol : Solves m U (fun i => ser (R0 i)) (ser FL) := by
                    rw [← HQ.out]
                    intro r hr
                    have h1 := HS.out.solution HEND.out hlt HQ0.out r hr
                    rw [← h1]
                    exact sumN_congr fun i hi => by rw [hse i hi]
                  have HSOL := Lib.hid hsol
                  have hne : ser FL fN ≠ 0 := by
                    rw [hse fN hlt, freeSol, if_neg (by simpa using HQ0.out), if_pos rfl]
                    exact E.one_ne_zero
                  have HNE := Lib.hid hne
                  have hlw : w.heap.size ≤ WL.heap.size := HK.out.below.size
                  clear hO7 hK7 hse hsol hne hfin
                  go_wp2
                  go_ret
                  exact ⟨.inl ⟨WL.heap.size, FL, rfl, HO7.out.mono hlw, by rw [HFU.out, HUU.out], ⟨fN, hlt, HNE.out⟩, HSOL.out⟩, HK7.out.below⟩
            · have hqi : (((pl.getD fN 0 : Nat) : Int) != 0) = true := by rw [bne_iff_ne]; omega
              have HQ1 := Lib.hid hq
              have HALL := Lib.hid hall
              obtain ⟨q, hqq⟩ : ∃ q, pl.getD fN 0 = q := ⟨_, rfl⟩
              rw [hqq] at c1 hqi
              have hq1 : ¬ (q = 0) := by rw [← hqq]; exact hq
              clear hq hall hqq
              go_wp2_with fail
              go_round
              case rel => exact ⟨fN + 1, by omega, by go_num, fun i hi => by
                rcases Nat.lt_or_ge i fN with h | h
                · exact HALL.out i h
                · obtain rfl : i = fN := by omega
                  exact HQ1.out⟩
              case measure => simp [intOf]; omega
          · obtain rfl : U = fN := by omega
            have HALL := Lib.hid hall
            clear hall
            go_wp2
            go_ret
            exact ⟨.inr ⟨rfl, fun x hx => HS.out.none_ HALL.out x ((HQ.out x).2 hx)⟩, HK.out.below⟩
end Go.Proofs.Ytemnlcfabaocbaa
