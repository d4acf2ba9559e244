/-
  Texts of mine, merged: MatD MatE MatF RebP Reb.
-/
import Derived.Test.YtdoeelfcihdmbaaG9
import Derived.Deep.LoopGhost
/-
  Layer 3: the columns of a matrix are cleared one by one.
-/
namespace Go.Proofs.Ytdoeelfcihdmbaa
open Go.RowKit Gf
set_option maxRecDepth 20000
set_option linter.unusedVariables false

/-- A matrix of the call's own, no two rows of which share a block. -/
structure MatSt (w0 w : World) (B G m cap U : Nat) (V : List Value) (R : Nat → List E) : Prop where
  below : Below B w0 w
  own : Own w B 26 (.slice (some ⟨G, 0, none⟩) m cap) V
  rows : OwnRows w B 63 V R
  far : FarApart V
  vl : V.length = m
  len : ∀ i, i < m → (R i).length = U
  hB : B ≤ w0.heap.size
section
variable {w0 w : World} {B G m cap U : Nat} {V : List Value} {R : Nat → List E}
theorem MatSt.ext (h : MatSt w0 w B G m cap U V R) {w' : World} (hx : Ext w w') : MatSt w0 w' B G m cap U V R :=
  ⟨h.below.trans (Below.mono hx (Nat.le_trans h.hB h.below.size)), h.own.ext hx, h.rows.ext hx, h.far, h.vl, h.len, h.hB⟩
theorem MatSt.at_ (h : MatSt w0 w B G m cap U V R) (hU : 0 < U) {r : Nat} (hr : r < m) : ∃ g c, V[r]? = some (.slice (some ⟨g, 0, none⟩) U c) ∧ w.cell? ⟨G, r, none⟩ = some (.slice (some ⟨g, 0, none⟩) U c) := by
  have hl : r < V.length := by rw [h.vl]; exact hr
  obtain ⟨A, c, hv, -, -, -, hs⟩ := h.rows.at_ (List.getElem?_eq_getElem hl)
  rw [h.len r hr] at hv hs
  obtain ⟨g, rfl⟩ := hs hU
  have hv' : V[r]? = some (.slice (some ⟨g, 0, none⟩) U c) := by rw [List.getElem?_eq_getElem hl, hv]
  exact ⟨g, c, hv', h.own.cell hv'⟩
theorem MatSt.getS (h : MatSt w0 w B G m cap U V R) {r g c : Nat} (hr : r < m) (hv : V[r]? = some (.slice (some ⟨g, 0, none⟩) U c)) {j : Nat} (hj : j < U) : w.cell? ⟨g, j, none⟩ = some (.int .u8 ((ser (R r) j).val : Int)) := by
  rw [ser_at _ _ (by rw [h.len r hr]; exact hj)]
  exact (h.rows.own r _ hv).cell (bs_get (R r) j (by rw [h.len r hr]; exact hj))
theorem MatSt.frozen (h : MatSt w0 w B G m cap U V R) {r g c n : Nat} (hv : V[r]? = some (.slice (some ⟨g, 0, none⟩) n c)) (j : Nat) : w.frozen? ⟨g, j, none⟩ = false := (h.rows.own r _ hv).frozen j
theorem MatSt.hG (h : MatSt w0 w B G m cap U V R) : B ≤ G := (h.own.blk).1
theorem MatSt.hg (h : MatSt w0 w B G m cap U V R) {r g c n : Nat} (hv : V[r]? = some (.slice (some ⟨g, 0, none⟩) n c)) : B ≤ g := ((h.rows.own r _ hv).lt g rfl).1
theorem MatSt.set (h : MatSt w0 w B G m cap U V R) {r g c n : Nat} (hr : r < m) (hv : V[r]? = some (.slice (some ⟨g, 0, none⟩) n c)) (j : Nat) (x : E) :
    MatSt w0 (w.setCell ⟨g, j, none⟩ (.int .u8 (x.val : Int))) B G m cap U V (updR R r ((R r).set j x)) := by
  have hor := h.rows.own r _ hv
  refine ⟨h.below.setCell (p := ⟨g, j, none⟩) (h.hg hv) _, h.own.far (p := ⟨g, j, none⟩) ?_ _, h.rows.set h.far hv j x, h.far, h.vl, fun i hi => ?_, h.hB⟩
  · rcases hor.types h.own (by decide) with e | e
    · cases e
    · exact fun e' => e e'.symm
  · by_cases e : i = r
    · subst e; rw [updR_same, List.length_set]; exact h.len i hi
    · rw [updR_other _ _ _ e]; exact h.len i hi
theorem MatSt.added {w2 : World} (h : MatSt w0 w B G m cap U V R) {i g c : Nat} {l : List E} (hi : V[i]? = some (.slice (some ⟨g, 0, none⟩) U c)) (hl : l.length = U) (ha : AddF w w2 B g U c l) : MatSt w0 w2 B G m cap U V (updR R i l) := by
  have hr := h.rows.own i _ hi
  have hg := hr.lt g rfl
  refine ⟨h.below.trans (ha.touch.below (fun k _ e => by rw [e]; exact hg.1) (Nat.le_trans h.hB h.below.size)), h.own.touch ha.touch fun k hk e => ?_, ⟨fun j u hj => ?_⟩, h.far, h.vl, fun j hj => ?_, h.hB⟩
  · rcases h.own.types hr (by decide) with h1 | h1
    · rw [h1] at hk; cases hk
    · exact h1 (by rw [hk, e]; rfl)
  · by_cases e : j = i
    · subst e
      rw [hi] at hj; cases hj
      rw [updR_same]; exact ha.own
    · rw [updR_other _ _ _ e]
      exact (h.rows.own j u hj).touch ha.touch fun k hk e2 => by
        rcases h.far j i u _ hj hi e with h1 | h1
        · rw [h1] at hk; cases hk
        · exact h1 (by rw [hk, e2]; rfl)
  · by_cases e : j = i
    · subst e; rw [updR_same]; exact hl
    · rw [updR_other _ _ _ e]; exact h.len j hj
theorem sw_comm (p a i : Nat) : sw p a i = sw a p i := by
  unfold sw
  by_cases h1 : i = a
  · by_cases h2 : i = p
    · rw [if_pos h1, if_pos h2, ← h1, ← h2]
    · rw [if_pos h1, if_neg h2, if_pos h1]
  · by_cases h2 : i = p
    · rw [if_neg h1, if_pos h2, if_pos h2]
    · rw [if_neg h1, if_neg h2, if_neg h2, if_neg h1]
theorem swapR_comm (R : Nat → List E) (p a : Nat) : swapR R p a = swapR R a p := funext fun i => by rw [swapR, swapR, sw_comm]
/-- Two rows are swapped. -/
theorem MatSt.swap (h : MatSt w0 w B G m cap U V R) {p a : Nat} (hp : p < m) (ha : a < m) {vp va : Value} (hvp : V[p]? = some vp) (hva : V[a]? = some va) :
    ∃ V', MatSt w0 ((w.setCell ⟨G, p, none⟩ va).setCell ⟨G, a, none⟩ vp) B G m cap U V' (swapR R p a) ∧ ∀ i, i < m → V'[i]? = V[sw p a i]? := by
  have hV : ∀ i, i < m → ((V.set p va).set a vp)[i]? = V[sw p a i]? := fun i hi => by
    have hl : i < V.length := by rw [h.vl]; exact hi
    unfold sw
    by_cases e1 : i = a
    · subst e1; rw [if_pos rfl, List.getElem?_set_self (by rw [List.length_set]; exact hl), hvp]
    · rw [if_neg e1, List.getElem?_set_ne (fun e => e1 e.symm)]
      by_cases e2 : i = p
      · subst e2; rw [if_pos rfl, List.getElem?_set_self hl, hva]
      · rw [if_neg e2, List.getElem?_set_ne (fun e => e2 e.symm)]
  have hlt : ∀ i, i < m → sw p a i < m := fun i hi => by unfold sw; split <;> (try split) <;> omega
  have hlen : ((V.set p va).set a vp).length = m := by rw [List.length_set, List.length_set, h.vl]
  have farG2 : ∀ {T : TypeId} {v : Value} {xs : List Value} {C : Nat}, Own w C T v xs → T ≠ 26 → Own ((w.setCell ⟨G, p, none⟩ va).setCell ⟨G, a, none⟩ vp) C T v xs := fun {T v xs C} ho hT => by
    have hne : v.ownBlock ≠ some G := fun e => by
      rcases ho.types h.own hT with e1 | e1
      · rw [e] at e1; cases e1
      · exact e1 e
    exact (ho.far (p := ⟨G, p, none⟩) hne _).far (p := ⟨G, a, none⟩) hne _
  refine ⟨(V.set p va).set a vp, ⟨(h.below.setCell (p := ⟨G, p, none⟩) h.hG _).setCell (p := ⟨G, a, none⟩) h.hG _, (h.own.set p va).set a vp, ⟨fun i v hi => ?_⟩, fun i j vi vj hi hj hne => ?_, hlen, fun i hi => h.len _ (hlt i hi), h.hB⟩, hV⟩
  · have hi' : i < m := by rw [← hlen]; exact (List.getElem?_eq_some_iff.1 hi).1
    rw [hV i hi'] at hi
    exact farG2 (h.rows.own _ _ hi) (by decide)
  · have hi' : i < m := by rw [← hlen]; exact (List.getElem?_eq_some_iff.1 hi).1
    have hj' : j < m := by rw [← hlen]; exact (List.getElem?_eq_some_iff.1 hj).1
    rw [hV i hi'] at hi
    rw [hV j hj'] at hj
    exact h.far _ _ _ _ hi hj (fun e => hne (sw_inj e))
end
def ClrOut (k : Nat) (A : Nat → Nat → E) (w : World) (B G cap : Nat) (e : Ending) (w' : World) : Prop := e = .returned (.int .i64 (k : Int)) ∧ ∃ V R, MatSt w w' B G k cap (k + k) V R ∧ GInv k A k fun i j => ser (R i) j
set_option maxHeartbeats 16000000 in
theorem cleared_n (G k cap B : Nat) (V0 : List Value) (R0 : Nat → List E) (A : Nat → Nat → E) (w : World) (hm : MatSt w w B G k cap (k + k) V0 R0) (hg : GInv k A 0 fun i j => ser (R0 i) j) (hk0 : 0 < k) (hk : k ≤ 255) :
    Calls Try.prog 195 #[.slice (some ⟨G, 0, none⟩) k cap, .int .i64 (k : Int)] w (ClrOut k A w B G cap) := by
  have hmo : Try.prog.follows Departure.mixedOrders = true := by kernel_rfl
  have H0 := Lib.hid (And.intro hm hg)
  clear hm hg
  obtain ⟨U, hU⟩ : ∃ U, U = k + k := ⟨_, rfl⟩
  have hU0 : 0 < U := by omega
  have hkU : k ≤ U := by omega
  have hU2 : U ≤ 510 := by omega
  rw [← hU] at H0
  have HUE := Lib.hid hU
  clear hU
  go_enter Try.func195, Try.ntmps195
  go_wp2
  go_step3
  go_wp2
  go_step3
  go_wp2_with fail
  go_loopg [5, 13] k (fun g s i wr => ∃ (c : Nat) (V : List Value) (R : Nat → List E), c + g = k ∧ s = .int .i64 c ∧ i = .int .i64 c ∧ MatSt w wr B G k cap U V R ∧ GInv k A c fun i j => ser (R i) j)
  case atStart => exact ⟨0, V0, R0, by omega, rfl, rfl, H0.out.1, H0.out.2⟩
  case round =>
    clear H0
    obtain ⟨W, rfl⟩ : ∃ W, W = wr := ⟨_, rfl⟩
    obtain ⟨c, V, R, hc, rfl, rfl, hM, hG⟩ := hrel
    by_cases hlt : c < k
    · obtain ⟨g, rfl⟩ : ∃ g, gk = g + 1 := ⟨gk - 1, by omega⟩
      have hcU : c < U := by omega
      have HM := Lib.hid hM
      have HG := Lib.hid hG
      clear hM hG
      go_wp2_with fail
      go_loopw [5, 7] (fun s r wr => ∃ rN : Nat, c ≤ rN ∧ rN ≤ k ∧ s = .int .i64 c ∧ r = .int .i64 rN ∧ MatSt w wr B G k cap U V R ∧ ∀ r', c ≤ r' → r' < rN → ser (R r') c = 0) (fun _ r _ => k - (intOf r).toNat)
      case atStart => exact ⟨c, Nat.le_refl _, by omega, rfl, rfl, HM.out, fun r' h1 h2 => by omega⟩
      case round =>
        clear HM
        obtain ⟨WX, rfl⟩ : ∃ W, W = wr := ⟨_, rfl⟩
        obtain ⟨rN, hr1, hr2, rfl, rfl, hM2, hz⟩ := hrel
        have HZ := Lib.hid hz
        have HM := Lib.hid hM2
        clear hz hM2
        by_cases hrk : rN < k
        · obtain ⟨gp, cp, hvp, hcp⟩ := HM.out.at_ hU0 hrk
          have hel := HM.out.getS hrk hvp hcU
          obtain ⟨x, hx⟩ : ∃ x, x = ser (R rN) c := ⟨_, rfl⟩
          rw [← hx] at hel
          have hxl := x.lt
          have HX := Lib.hid hx
          have HVP := Lib.hid hvp
          clear hx hvp
          by_cases hx0 : x = 0
          · have HI := Lib.hid (inverse_zero hx0)
            have HZ0 := Lib.hid (isZero_yes hx0)
            have HX0 := Lib.hid hx0
            clear hx0
            go_wp2_with (first | (go_at_call 127; with_reducible refine (HI.out _).mono ?_; rintro e w' ⟨rfl, rfl⟩) | (go_at_call 95; with_reducible refine (HZ0.out _).mono ?_; rintro e w' ⟨rfl, rfl⟩))
            go_roundw
            case rel => exact ⟨rN + 1, by omega, by omega, rfl, by go_num, HM.out, fun r' h1 h2 => by
              rcases Nat.lt_or_ge r' rN with h | h
              · exact HZ.out r' h1 h
              · obtain rfl : r' = rN := by omega
                rw [← HX.out]; exact HX0.out⟩
            case measure => simp [intOf]; omega
          · have HI := Lib.hid (inverse_some hx0)
            have HZ0 := Lib.hid (isZero_no hx0)
            have HX0 := Lib.hid hx0
            obtain ⟨iv, hiv⟩ : ∃ iv, iv = E.inv x := ⟨_, rfl⟩
            rw [← hiv] at HI
            have HIV := Lib.hid hiv
            have hivl := iv.lt
            clear hx0 hiv HZ
            obtain ⟨ga, ca, hva, hca⟩ := HM.out.at_ hU0 hlt
            have HVA := Lib.hid hva
            clear hva
            go_wp2_with (first | (go_at_call 127; with_reducible refine (HI.out _).mono ?_; rintro e w' ⟨rfl, rfl⟩) | (go_at_call 95; with_reducible refine (HZ0.out _).mono ?_; rintro e w' ⟨rfl, rfl⟩))
            -- the swap
            obtain ⟨W0, hW0⟩ : ∃ W0, W0 = WX.drew := ⟨_, rfl⟩
            have hM0 : MatSt w W0 B G k cap U V R := by rw [hW0]; exact HM.out.ext ((Ext.refl WX).drewN 1)
            have hcp0 : W0.cell? ⟨G, rN, none⟩ = some (.slice (some ⟨gp, 0, none⟩) U cp) := hM0.own.cell HVP.out
            have hca0 : W0.cell? ⟨G, c, none⟩ = some (.slice (some ⟨ga, 0, none⟩) U ca) := hM0.own.cell HVA.out
            obtain ⟨V1, hM1, hV1⟩ := hM0.swap hlt hrk HVA.out HVP.out
            have f1 : W0.frozen? ⟨G, c, none⟩ = false := hM0.own.frozen c
            have hmid : Own (W0.setCell ⟨G, c, none⟩ (.slice (some ⟨gp, 0, none⟩) U cp)) B 26 (.slice (some ⟨G, 0, none⟩) k cap) (V.set c (.slice (some ⟨gp, 0, none⟩) U cp)) := hM0.own.set c _
            have f2 := hmid.frozen rN
            have hlm : rN < (V.set c (.slice (some ⟨gp, 0, none⟩) U cp)).length := by rw [List.length_set, hM0.vl]; exact hrk
            have c2 := hmid.cell (List.getElem?_eq_getElem hlm)
            obtain ⟨Wm, hWm⟩ : ∃ Wm, Wm = W0.setCell ⟨G, c, none⟩ (.slice (some ⟨gp, 0, none⟩) U cp) := ⟨_, rfl⟩
            obtain ⟨W2, hW2⟩ : ∃ W2, W2 = Wm.setCell ⟨G, rN, none⟩ (.slice (some ⟨ga, 0, none⟩) U ca) := ⟨_, rfl⟩
            rw [← hWm] at f2 c2
            rw [← hWm, ← hW2, swapR_comm] at hM1
            have hat1 : V1[c]? = some (.slice (some ⟨gp, 0, none⟩) U cp) := by rw [hV1 c hlt, sw_comm, sw, if_pos rfl]; exact HVP.out
            refine wp_region_mix (fun i => [3, 3, 3, 3, 3, 3, 3, 0, 3, 3, 3, 0, 3, 2, 3, 2].getD i 0) (fun w' => w' = W0) hmo (by kernel_rfl) (by kernel_rfl) hW0.symm ?_
            rw [← hW0]
            have HS := Lib.hid (And.intro hM1 hat1)
            clear hW0 hM0 hM1 hV1 hmid hat1 hcp hca
            refine mix_pure (.slice (some ⟨G, 0, none⟩) k cap) rfl (fun w' => by go_simp) ?_
            refine mix_pure (.int .i64 (c : Int)) rfl (fun w' => by go_simp) ?_
            refine mix_pure (.slice (some ⟨G, 0, none⟩) k cap) rfl (fun w' => by go_simp) ?_
            refine mix_pure (.int .i64 (rN : Int)) rfl (fun w' => by go_simp) ?_
            refine mix_pure (.slice (some ⟨G, 0, none⟩) k cap) rfl (fun w' => by go_simp) ?_
            refine mix_pure (.int .i64 (rN : Int)) rfl (fun w' => by go_simp) ?_
            refine mix_pure (.pointer (some ⟨G, rN, none⟩)) rfl (fun w' => by go_simp) ?_
            refine mix_still (.slice (some ⟨gp, 0, none⟩) U cp) rfl (fun w' hw' => by subst hw'; go_simp) ?_
            refine mix_pure (.slice (some ⟨G, 0, none⟩) k cap) rfl (fun w' => by go_simp) ?_
            refine mix_pure (.int .i64 (c : Int)) rfl (fun w' => by go_simp) ?_
            refine mix_pure (.pointer (some ⟨G, c, none⟩)) rfl (fun w' => by go_simp) ?_
            refine mix_still (.slice (some ⟨ga, 0, none⟩) U ca) rfl (fun w' hw' => by subst hw'; go_simp) ?_
            refine mix_pure (.pointer (some ⟨G, c, none⟩)) rfl (fun w' => by go_simp) ?_
            refine mix_store Wm rfl (by rw [hWm]; go_simp) ?_
            clear hWm f1 hcp0 hca0
            refine mix_pure (.pointer (some ⟨G, rN, none⟩)) rfl (fun w' => by go_simp) ?_
            refine mix_store W2 rfl (by rw [hW2]; go_simp) ?_
            clear hW2 f2 c2 hlm
            refine mix_nil ?_
            obtain ⟨R1, hR1⟩ : ∃ R', R' = swapR R rN c := ⟨_, rfl⟩
            rw [← hR1] at HS
            have HR1 := Lib.hid hR1
            have hl1 : (R1 c).length = U := HS.out.1.len c hlt
            have hsl : (scaleR iv (R1 c)).length = (R1 c).length := scaleR_length _ _
            have HL1 := Lib.hid hl1
            have HSL := Lib.hid hsl
            have e1 := HS.out.1.own.cell HS.out.2
            have HK2 : Hid (MatSt w W2 B G k cap U V1 (updR R1 c (mixL (scaleR iv (R1 c)) (R1 c) 0))) := Lib.hid (by rw [mixL_zero, updR_self]; exact HS.out.1)
            clear hR1 hl1 hsl
            go_simp
            go_wp2_with fail
            clear e1
            go_loopw [67] (fun i wr => ∃ iN : Nat, iN ≤ U ∧ i = .int .i64 iN ∧ MatSt w wr B G k cap U V1 (updR R1 c (mixL (scaleR iv (R1 c)) (R1 c) iN))) (fun i _ => U - (intOf i).toNat)
            case atStart => exact ⟨0, by omega, rfl, HK2.out⟩
            case round =>
              clear HK2
              obtain ⟨W3, rfl⟩ : ∃ W, W = wr := ⟨_, rfl⟩
              obtain ⟨iN, hi, rfl, hK3⟩ := hrel
              have e1 : W3.cell? ⟨G, c, none⟩ = some (.slice (some ⟨gp, 0, none⟩) U cp) := hK3.own.cell HS.out.2
              by_cases hlt3 : iN < U
              · have hil : iN < (R1 c).length := by rw [HL1.out]; exact hlt3
                have hml : iN < (mixL (scaleR iv (R1 c)) (R1 c) iN).length := by rw [mixL_length HSL.out]; exact hil
                obtain ⟨W4, hW4⟩ : ∃ W4, W4 = W3.drew := ⟨_, rfl⟩
                have hK4 : MatSt w W4 B G k cap U V1 (updR R1 c (mixL (scaleR iv (R1 c)) (R1 c) iN)) := by rw [hW4]; exact hK3.ext ((Ext.refl W3).drewN 1)
                have g1 : W4.cell? ⟨G, c, none⟩ = some (.slice (some ⟨gp, 0, none⟩) U cp) := hK4.own.cell HS.out.2
                have g2 : W4.cell? ⟨gp, iN, none⟩ = some (.int .u8 (((R1 c)[iN]).val : Int)) := by
                  have h1 := (hK4.rows.own c _ HS.out.2).cell (bs_get _ iN (by rw [updR_same]; exact hml))
                  have h2 : (updR R1 c (mixL (scaleR iv (R1 c)) (R1 c) iN) c)[iN]'(by rw [updR_same]; exact hml) = (R1 c)[iN] := by
                    have := mixL_get HSL.out hil
                    simp only [updR_same]
                    exact this
                  rw [h2] at h1
                  exact h1
                have f4 := hK4.frozen HS.out.2 iN
                have hK5 := hK4.set hlt HS.out.2 iN (iv * (R1 c)[iN])
                rw [updR_same, updR_idem] at hK5
                have hst : (mixL (scaleR iv (R1 c)) (R1 c) iN).set iN (iv * (R1 c)[iN]) = mixL (scaleR iv (R1 c)) (R1 c) (iN + 1) := by
                  have := mixL_set HSL.out hil
                  rwa [scaleR_get hil] at this
                rw [hst] at hK5
                obtain ⟨xv, hxv⟩ : ∃ y, y = (R1 c)[iN] := ⟨_, rfl⟩
                rw [← hxv] at g2 hK5
                have hl1 := xv.lt
                have HK5 := Lib.hid hK5
                clear hK3 hK4 hK5 hst hxv
                go_wp2_with fail
                refine wp_region_mix (fun i => [3, 3, 3, 0, 3, 3, 3, 3, 0, 3, 3, 0, 3, 3, 1, 3, 2].getD i 0) (fun w' => w' = W4) hmo (by kernel_rfl) (by kernel_rfl) hW4.symm ?_
                rw [← hW4]
                clear hW4 e1
                refine mix_pure (.slice (some ⟨G, 0, none⟩) k cap) rfl (fun w' => by go_simp) ?_
                refine mix_pure (.int .i64 (c : Int)) rfl (fun w' => by go_simp) ?_
                refine mix_pure (.pointer (some ⟨G, c, none⟩)) rfl (fun w' => by go_simp) ?_
                refine mix_still (.slice (some ⟨gp, 0, none⟩) U cp) rfl (fun w' hw' => by subst hw'; go_simp) ?_
                refine mix_pure (.int .i64 (iN : Int)) rfl (fun w' => by go_simp) ?_
                refine mix_pure (.slice (some ⟨G, 0, none⟩) k cap) rfl (fun w' => by go_simp) ?_
                refine mix_pure (.int .i64 (c : Int)) rfl (fun w' => by go_simp) ?_
                refine mix_pure (.pointer (some ⟨G, c, none⟩)) rfl (fun w' => by go_simp) ?_
                refine mix_still (.slice (some ⟨gp, 0, none⟩) U cp) rfl (fun w' hw' => by subst hw'; go_simp) ?_
                refine mix_pure (.int .i64 (iN : Int)) rfl (fun w' => by go_simp) ?_
                refine mix_pure (.pointer (some ⟨gp, iN, none⟩)) rfl (fun w' => by go_simp) ?_
                refine mix_still (.int .u8 (xv.val : Int)) rfl (fun w' hw' => by subst hw'; go_simp) ?_
                refine mix_pure (.iface 63 (.int .u8 (xv.val : Int))) rfl (fun w' => by go_simp) ?_
                refine mix_pure (.int .u8 (iv.val : Int)) rfl (fun w' => by go_simp) ?_
                refine mix_call 68 #[.int .u8 (xv.val : Int), .int .u8 (iv.val : Int)] rfl (by go_simp; rw [meth_times]; all_goals rfl) ?_
                refine (times_any xv iv _).mono ?_
                rintro e w5 ⟨rfl, hw⟩
                subst hw
                refine ⟨_, rfl, rfl, ?_⟩
                rw [E.mul_comm xv iv]
                refine mix_pure (.pointer (some ⟨gp, iN, none⟩)) rfl (fun w' => by go_simp) ?_
                obtain ⟨WF, hWF⟩ : ∃ WF, WF = W4.setCell ⟨gp, iN, none⟩ (.int .u8 ((iv * xv).val : Int)) := ⟨_, rfl⟩
                refine mix_store WF rfl (by rw [hWF]; go_simp) ?_
                rw [← hWF] at HK5
                clear hWF g1 g2 f4
                refine mix_nil ?_
                go_simp
                go_wp2_with fail
                go_roundw
                case rel => exact ⟨iN + 1, by omega, by go_num, HK5.out⟩
                case measure => simp [intOf]; omega
              · obtain rfl : U = iN := by omega
                have e : mixL (scaleR iv (R1 c)) (R1 c) U = scaleR iv (R1 c) := by have := mixL_all HSL.out; rwa [HL1.out] at this
                rw [e] at hK3
                obtain ⟨R2, hR2⟩ : ∃ R', R' = updR R1 c (scaleR iv (R1 c)) := ⟨_, rfl⟩
                rw [← hR2] at hK3
                have HCL : Hid (elimTo R2 c c k = clrR R c rN k) := Lib.hid (by rw [hR2, HR1.out, HIV.out, HX.out]; rfl)
                have HK4 : Hid (MatSt w W3 B G k cap U V1 (elimTo R2 c c 0)) := Lib.hid (by rw [elimTo_zero]; exact hK3)
                have HL2 : Hid (∀ i, i < k → (R2 i).length = U) := Lib.hid hK3.len
                clear e hK3 hR2
                go_wp2_with fail
                clear e1
                go_loopw [89] (fun r wr => ∃ rM : Nat, rM ≤ k ∧ r = .int .i64 rM ∧ MatSt w wr B G k cap U V1 (elimTo R2 c c rM)) (fun r _ => k - (intOf r).toNat)
                case atStart => exact ⟨0, by omega, rfl, HK4.out⟩
                case round =>
                  clear HK4
                  obtain ⟨W5, rfl⟩ : ∃ W, W = wr := ⟨_, rfl⟩
                  obtain ⟨rM, hr, rfl, hK5⟩ := hrel
                  by_cases hltM : rM < k
                  · by_cases hra : c = rM
                    · subst hra
                      have HK6 : Hid (MatSt w W5 B G k cap U V1 (elimTo R2 c c (c + 1))) := Lib.hid (by rw [elimTo_skip]; exact hK5)
                      clear hK5
                      go_wp2_with fail
                      go_roundw
                      case rel => exact ⟨c + 1, by omega, by go_num, HK6.out⟩
                      case measure => simp [intOf]; omega
                    · obtain ⟨gr, cr, hvr, e1⟩ := hK5.at_ hU0 hltM
                      have hn1 : ((rM : Int) != (c : Int)) = true := by rw [bne_iff_ne]; omega
                      have hgne : gp ≠ gr := fun e => by
                        have := hK5.far c rM _ _ HS.out.2 hvr hra
                        rcases this with h | h
                        · cases h
                        · exact h (by simp [Value.ownBlock, e])
                      have HRA := Lib.hid hra
                      clear hra
                      obtain ⟨W6, hW6⟩ : ∃ W6, W6 = W5.drew := ⟨_, rfl⟩
                      have hK6 : MatSt w W6 B G k cap U V1 (elimTo R2 c c rM) := by rw [hW6]; exact hK5.ext ((Ext.refl W5).drewN 1)
                      have g1 : W6.cell? ⟨G, rM, none⟩ = some (.slice (some ⟨gr, 0, none⟩) U cr) := hK6.own.cell hvr
                      have g2 : W6.cell? ⟨G, c, none⟩ = some (.slice (some ⟨gp, 0, none⟩) U cp) := hK6.own.cell HS.out.2
                      have g3 := hK6.getS hltM hvr hcU
                      rw [elimTo_at] at g3
                      obtain ⟨fv, hfv⟩ : ∃ f, f = ser (R2 rM) c := ⟨_, rfl⟩
                      rw [← hfv] at g3
                      have hfl := fv.lt
                      have ho := hK6.rows.own rM _ hvr
                      rw [elimTo_at] at ho
                      have ho2 := (hK6.rows.own c _ HS.out.2).rd
                      rw [elimTo_self] at ho2
                      have HADD : Hid (∀ w2, AddF W6 w2 B gr U cr (elimR fv (R2 rM) (R2 c)) → MatSt w w2 B G k cap U V1 (elimTo R2 c c (rM + 1))) := Lib.hid fun w2 ha => by
                        have h1 := hK6.added hvr (by rw [elimR_length (by rw [HL2.out c hlt, HL2.out rM hltM]), HL2.out rM hltM]) ha
                        rw [hfv, elimTo_step R2 c c rM (fun h => HRA.out h.symm)] at h1
                        exact h1
                      have HCALL := Lib.hid (without_n gr gp U cr cp B (R2 rM) (R2 c) fv W6 (HL2.out rM hltM) (HL2.out c hlt) ho ho2 hgne (by omega))
                      clear hK5 hK6 hvr hfv ho ho2 hgne e1
                      go_wp2_with fail
                      refine wp_region_mix (fun i => [3, 3, 3, 0, 3, 3, 3, 0, 3, 3, 3, 0, 3, 3, 0, 2].getD i 0) (fun w' => w' = W6) hmo (by kernel_rfl) (by kernel_rfl) hW6.symm ?_
                      rw [← hW6]
                      clear hW6
                      refine mix_pure (.slice (some ⟨G, 0, none⟩) k cap) rfl (fun w' => by go_simp) ?_
                      refine mix_pure (.int .i64 (rM : Int)) rfl (fun w' => by go_simp) ?_
                      refine mix_pure (.pointer (some ⟨G, rM, none⟩)) rfl (fun w' => by go_simp) ?_
                      refine mix_still (.slice (some ⟨gr, 0, none⟩) U cr) rfl (fun w' hw' => by subst hw'; go_simp) ?_
                      refine mix_pure (.slice (some ⟨G, 0, none⟩) k cap) rfl (fun w' => by go_simp) ?_
                      refine mix_pure (.int .i64 (c : Int)) rfl (fun w' => by go_simp) ?_
                      refine mix_pure (.pointer (some ⟨G, c, none⟩)) rfl (fun w' => by go_simp) ?_
                      refine mix_still (.slice (some ⟨gp, 0, none⟩) U cp) rfl (fun w' hw' => by subst hw'; go_simp) ?_
                      refine mix_pure (.slice (some ⟨G, 0, none⟩) k cap) rfl (fun w' => by go_simp) ?_
                      refine mix_pure (.int .i64 (rM : Int)) rfl (fun w' => by go_simp) ?_
                      refine mix_pure (.pointer (some ⟨G, rM, none⟩)) rfl (fun w' => by go_simp) ?_
                      refine mix_still (.slice (some ⟨gr, 0, none⟩) U cr) rfl (fun w' hw' => by subst hw'; go_simp) ?_
                      refine mix_pure (.int .i64 (c : Int)) rfl (fun w' => by go_simp) ?_
                      refine mix_pure (.pointer (some ⟨gr, c, none⟩)) rfl (fun w' => by go_simp) ?_
                      refine mix_still (.int .u8 (fv.val : Int)) rfl (fun w' hw' => by subst hw'; go_simp) ?_
                      refine mix_callLast 200 #[.slice (some ⟨gr, 0, none⟩) U cr, .slice (some ⟨gp, 0, none⟩) U cp, .int .u8 (fv.val : Int)] rfl (by go_simp) ?_
                      refine HCALL.out.mono ?_
                      rintro e w7 ⟨rfl, ha⟩
                      have HK7 := Lib.hid (HADD.out w7 ha)
                      clear ha HADD HCALL g1 g2 g3
                      refine ⟨_, rfl, ?_⟩
                      refine mix_nil ?_
                      go_simp
                      go_wp2_with fail
                      go_roundw
                      case rel => exact ⟨rM + 1, by omega, by go_num, HK7.out⟩
                      case measure => simp [intOf]; omega
                  · obtain rfl : k = rM := by omega
                    have HK6 : Hid (MatSt w W5 B G k cap U V1 (clrR R c rN k)) := Lib.hid (by rw [← HCL.out]; exact hK5)
                    have HG6 : Hid (GInv k A (c + 1) fun i j => ser (clrR R c rN k i) j) := Lib.hid (HG.out.cleared (fun i hi => by rw [← HUE.out]; exact HM.out.len i hi) hlt hr1 hrk (by rw [← HX.out]; exact HX0.out))
                    clear hK5
                    go_wp2_with fail
                    go_roundg g
                    case measure => omega
                    case rel => exact ⟨c + 1, V1, _, by omega, by go_num, by go_num, HK6.out, HG6.out⟩
        · exfalso
          obtain ⟨r, h1, h2, h3⟩ := HG.out.pivot hlt
          exact h3 (HZ.out r h1 (by omega))
    · obtain rfl : c = k := by omega
      have HF := Lib.hid (And.intro hM hG)
      clear hM hG
      go_wp2_with fail
      first | rw [Exit.noGoto_ret] | skip
      go_ret
      exact ⟨rfl, V, R, HUE.out ▸ HF.out.1, HF.out.2⟩
end Go.Proofs.Ytdoeelfcihdmbaa
/-
  Layer 3: a matrix with another one behind it.
-/
namespace Go.Proofs.Ytdoeelfcihdmbaa
open Go.RowKit Gf
set_option maxRecDepth 20000
set_option linter.unusedVariables false

/-- The rows while they are laid. -/
structure Bes (w wr : World) (G N : Nat) (V : List Value) (R : Nat → List E) (i : Nat) : Prop where
  ext : Ext w wr
  len : V.length = N
  list : Own wr w.heap.size 26 (.slice (some ⟨G, 0, none⟩) N N) V
  rows : ∀ (j : Nat) (u : Value), V[j]? = some u → Own wr w.heap.size 63 u (bs (if j < i then R j else []))
  far : FarApart V
theorem Bes.start (w : World) (N : Nat) (R : Nat → List E) (hN : N ≤ 255) : Bes w (w.alloc (.cells (zrow (.slice none 0 0) N) 26)) w.heap.size N (List.replicate N (.slice none 0 0)) R 0 := by
  refine ⟨(Ext.refl w).alloc _, List.length_replicate, ?_, fun j u hj => ?_, fun i j a b ha hb _ => ?_⟩
  · have h1 := (Blk.new w 26 (zrow (.slice none 0 0) N)).own (B := w.heap.size) (n := N) (cap := N) (Nat.le_refl _) (Nat.le_refl _) (by simp only [maxLen]; omega) (zrow_size _ _)
    rw [zrow_list, List.take_of_length_le (by simp)] at h1
    exact h1
  · rw [List.getElem?_replicate] at hj
    split at hj
    · cases hj; rw [if_neg (by omega)]; exact Own.nil _ _ _
    · cases hj
  · rw [List.getElem?_replicate] at ha
    split at ha
    · cases ha; exact .inl rfl
    · cases ha
/-- A row of its own is laid, filled twice, and hung into the list. -/
theorem Bes.step {w W W2 W3 : World} {G N : Nat} {V : List Value} {R : Nat → List E} {i cap : Nat} {v2 v3 : Value} {xs : List Value} (h : Bes w W G N V R i) (hi : i < N) (hcap : cap ≤ maxLen)
    (h1 : Own W2 w.heap.size 63 v2 xs) (m1 : Moved ((W.alloc (.cells (zrow (.int .u8 0) cap) 63)).setCell ⟨G, i, none⟩ (.slice (some ⟨W.heap.size, 0, none⟩) 0 cap)) W2 (.slice (some ⟨W.heap.size, 0, none⟩) 0 cap) v2)
    (h2 : Own W3 w.heap.size 63 v3 (bs (R i))) (m2 : Moved W2 W3 v2 v3) : Bes w (W3.setCell ⟨G, i, none⟩ v3) G N (V.set i v3) R (i + 1) := by
  obtain ⟨W1, hW1⟩ : ∃ W1, W1 = (W.alloc (.cells (zrow (.int .u8 0) cap) 63)).setCell ⟨G, i, none⟩ (.slice (some ⟨W.heap.size, 0, none⟩) 0 cap) := ⟨_, rfl⟩
  rw [← hW1] at m1
  have hxa : Ext W (W.alloc (.cells (zrow (.int .u8 0) cap) 63)) := (Ext.refl W).alloc _
  have hG : w.heap.size ≤ G := h.list.blk.1
  have hGW : G < W.heap.size := (h.list.lt G rfl).2
  have hl1 : Own W1 w.heap.size 26 (.slice (some ⟨G, 0, none⟩) N N) (V.set i (.slice (some ⟨W.heap.size, 0, none⟩) 0 cap)) := by rw [hW1]; exact (h.list.ext hxa).set i _
  have hrow : Own W1 w.heap.size 63 (.slice (some ⟨W.heap.size, 0, none⟩) 0 cap) [] := by
    rw [hW1]
    exact ((Blk.new W 63 (zrow (.int .u8 0) cap)).own (n := 0) h.ext.le (Nat.zero_le _) hcap (zrow_size _ _)).far (p := ⟨G, i, none⟩) (by simp only [Value.ownBlock, ne_eq, Option.some.injEq]; omega) _
  have hl2 : Own W2 w.heap.size 26 (.slice (some ⟨G, 0, none⟩) N N) (V.set i (.slice (some ⟨W.heap.size, 0, none⟩) 0 cap)) := hl1.kept m1.grown (hl1.types hrow (by decide))
  have hl3 : Own W3 w.heap.size 26 (.slice (some ⟨G, 0, none⟩) N N) (V.set i (.slice (some ⟨W.heap.size, 0, none⟩) 0 cap)) := hl2.kept m2.grown (hl2.types h1 (by decide))
  have hsz1 : W1.heap.size = W.heap.size + 1 := by rw [hW1]; simp
  have hx1 : Ext w W1 := by rw [hW1]; exact (h.ext.trans hxa).new (p := ⟨G, i, none⟩) hG _
  have hx2 : Ext w W2 := hx1.below.trans (m1.below hx1.le fun g hg => (hrow.lt g hg).1)
  have hx3 : Ext w W3 := hx2.below.trans (m2.below hx2.le fun g hg => (h1.lt g hg).1)
  have hle12 : W1.heap.size ≤ W2.heap.size := m1.grown.size
  have b2 : ∀ g, v2.ownBlock = some g → W.heap.size ≤ g := fun g hg => by
    rcases m1 with ⟨e, -⟩ | ⟨e, -⟩
    · rw [e] at hg; cases hg; exact Nat.le_refl _
    · rw [e] at hg; cases hg; omega
  have b3 : ∀ g, v3.ownBlock = some g → W.heap.size ≤ g := fun g hg => by
    rcases m2 with ⟨e, -⟩ | ⟨e, -⟩
    · rw [e] at hg; exact b2 g hg
    · rw [e] at hg; cases hg; omega
  have hold : ∀ (j : Nat) (u : Value), V[j]? = some u → Own W3 w.heap.size 63 u (bs (if j < i then R j else [])) ∧ ∀ g, u.ownBlock = some g → g < W.heap.size := fun j u hj => by
    have k0 := h.rows j u hj
    have klt := fun g hg => (k0.lt g hg).2
    have k1 : Own W1 w.heap.size 63 u (bs (if j < i then R j else [])) := by
      rw [hW1]
      refine (k0.ext hxa).far (p := ⟨G, i, none⟩) (fun e => ?_) _
      rcases k0.types h.list (by decide) with e1 | e1
      · rw [e] at e1; cases e1
      · exact e1 e
    have k2 : Own W2 w.heap.size 63 u (bs (if j < i then R j else [])) := k1.kept m1.grown (by
      cases e : u.ownBlock with
      | none => exact .inl rfl
      | some g => right; have := klt g e; simp only [Value.ownBlock, ne_eq, Option.some.injEq]; omega)
    have k3 : Own W3 w.heap.size 63 u (bs (if j < i then R j else [])) := k2.kept m2.grown (by
      cases e : u.ownBlock with
      | none => exact .inl rfl
      | some g =>
        right
        have := klt g e
        intro e2
        have := b2 g e2.symm
        omega)
    exact ⟨k3, klt⟩
  have hiV : i < V.length := by rw [h.len]; exact hi
  have h3G : ∀ {v : Value} {xs : List Value}, Own W3 w.heap.size 63 v xs → v.ownBlock ≠ some G := fun {v xs} ho e => by
    rcases ho.types hl3 (by decide) with e1 | e1
    · rw [e] at e1; cases e1
    · exact e1 e
  refine ⟨hx3.new (p := ⟨G, i, none⟩) hG _, by rw [List.length_set]; exact h.len, ?_, fun j u hj => ?_, fun j j' u u' hu hu' hne => ?_⟩
  · have := hl3.set i v3
    rwa [List.set_set] at this
  · by_cases e : j = i
    · subst e
      rw [List.getElem?_set_self hiV] at hj
      cases hj
      rw [if_pos (by omega)]
      exact h2.far (p := ⟨G, j, none⟩) (h3G h2) _
    · rw [List.getElem?_set_ne (fun h => e h.symm)] at hj
      have k := (hold j u hj).1
      have e2 : (if j < i + 1 then R j else []) = (if j < i then R j else []) := by
        by_cases h5 : j < i
        · rw [if_pos h5, if_pos (by omega)]
        · rw [if_neg h5, if_neg (by omega)]
      rw [e2]
      exact k.far (p := ⟨G, i, none⟩) (h3G k) _
  · have key : ∀ (j : Nat) (u : Value), j ≠ i → V[j]? = some u → u.ownBlock = none ∨ u.ownBlock ≠ v3.ownBlock := fun j u hji hj => by
      cases e : u.ownBlock with
      | none => exact .inl rfl
      | some g =>
        right
        have := (hold j u hj).2 g e
        intro e2
        have := b3 g e2.symm
        omega
    by_cases e : j = i
    · subst e
      rw [List.getElem?_set_self hiV] at hu
      cases hu
      rw [List.getElem?_set_ne hne] at hu'
      rcases key j' u' (fun h => hne h.symm) hu' with h5 | h5
      · cases e5 : v3.ownBlock with
        | none => exact .inl rfl
        | some g => right; rw [h5]; simp
      · exact .inr fun h6 => h5 h6.symm
    · rw [List.getElem?_set_ne (fun h => e h.symm)] at hu
      by_cases e' : j' = i
      · subst e'
        rw [List.getElem?_set_self hiV] at hu'
        cases hu'
        exact key j u e hu
      · rw [List.getElem?_set_ne (fun h => e' h.symm)] at hu'
        exact h.far j j' u u' hu hu' hne
theorem moved_drew {w w' : World} {v v' : Value} (h : Moved w.drew w' v v') : Moved w w' v v' := by
  rcases h with ⟨e, g⟩ | ⟨e, g⟩
  · exact .inl ⟨e, ⟨g.os, g.tape, g.output, g.size, g.block⟩⟩
  · exact .inr ⟨e, ⟨g.os, g.tape, g.output, g.size, g.block⟩⟩
theorem wrd_at {w : World} {A : Option Addr} {rs : List (List E)} (h : RdRows w A rs) {i m : Nat} (hi : i < rs.length) (hl : ∀ r ∈ rs, r.length = m) : ∃ ad B c, A = some ad ∧ w.cell? (ad.add i) = some (.slice B m c) ∧ Rd w B (bs (rs.getD i [])) ∧ (rs.getD i []).length = m := by
  obtain ⟨ad, B, c, h1, h2, h3, -⟩ := h.at_ hi
  have e : rs.getD i [] = rs[i] := by rw [List.getD_eq_getElem?_getD, List.getElem?_eq_getElem hi]; rfl
  rw [e]
  have h4 := hl _ (List.getElem_mem hi)
  rw [h4] at h2
  exact ⟨ad, B, c, h1, h2, h3, h4⟩
def BesOut (k : Nat) (rs ss : List (List E)) (w : World) (e : Ending) (w' : World) : Prop := ∃ V, e = .returned (.slice (some ⟨w.heap.size, 0, none⟩) k k) ∧ Bes w w' w.heap.size k V (fun i => rs.getD i [] ++ ss.getD i []) k
set_option maxHeartbeats 8000000 in
theorem beside_n (A C : Option Addr) (k c cc m1 m2 : Nat) (rs ss : List (List E)) (w : World) (hn : rs.length = k) (hs : ss.length = k) (hr : RdRows w A rs) (hr2 : RdRows w C ss) (hl1 : ∀ r ∈ rs, r.length = m1) (hl2 : ∀ r ∈ ss, r.length = m2) (hk : k ≤ 255) (hm1 : m1 ≤ 255) (hm2 : m2 ≤ 255) :
    Calls Try.prog 194 #[.slice A k c, .slice C k cc] w (BesOut k rs ss w) := by
  have hmo : Try.prog.follows Departure.mixedOrders = true := by kernel_rfl
  have hmk : ∀ w, (Instr.makeSlice 117 (.int .i64 (k : Int)) (.int .i64 (k : Int))).run Try.prog w = .ok (.slice (some ⟨w.heap.size, 0, none⟩) k k) (w.alloc (.cells (zrow (.slice none 0 0) k) 26)) := fun w => run_make_elt eltRowEl _ _ k (by omega) w
  have HN := Lib.hid (And.intro hn hs)
  have HL := Lib.hid (And.intro hl1 hl2)
  have HR := Lib.hid (And.intro hr hr2)
  clear hn hs hl1 hl2 hr hr2
  go_enter Try.func194, Try.ntmps194
  go_wp2_with fail
  clear hmk
  obtain ⟨R, hR⟩ : ∃ R : Nat → List E, R = fun i => rs.getD i [] ++ ss.getD i [] := ⟨_, rfl⟩
  have HRR := Lib.hid hR
  clear hR
  go_loopw [12] (fun i wr => ∃ (q : Nat) (V : List Value), q ≤ k ∧ i = .int .i64 q ∧ Bes w wr w.heap.size k V R q) (fun i _ => k - (intOf i).toNat)
  case atStart => exact ⟨0, _, by omega, rfl, Bes.start w k R hk⟩
  case round =>
    obtain ⟨W, rfl⟩ : ∃ W, W = wr := ⟨_, rfl⟩
    obtain ⟨q, V, hq, rfl, hB⟩ := hrel
    by_cases hlt : q < k
    · obtain ⟨ad, A1, c1, rfl, hc1, hr1, hb1⟩ := wrd_at HR.out.1 (show q < rs.length by rw [HN.out.1]; exact hlt) HL.out.1
      obtain ⟨bd, A2, c2, rfl, hc2, hr2, hb2⟩ := wrd_at HR.out.2 (show q < ss.length by rw [HN.out.2]; exact hlt) HL.out.2
      obtain ⟨ra, hra⟩ : ∃ r, r = rs.getD q [] := ⟨_, rfl⟩
      obtain ⟨rb, hrb⟩ : ∃ r, r = ss.getD q [] := ⟨_, rfl⟩
      rw [← hra] at hr1 hb1
      rw [← hrb] at hr2 hb2
      have HRQ : Hid (R q = ra ++ rb) := Lib.hid (by rw [HRR.out, hra, hrb])
      have la := World.block_lt_of_cell? _ _ hc1
      have lb := World.block_lt_of_cell? _ _ hc2
      have k1 := fun w' (hx : Ext w w') => (hx.cell la).trans hc1
      have k2 := fun w' (hx : Ext w w') => (hx.cell lb).trans hc2
      obtain ⟨W0, hW0⟩ : ∃ W0, W0 = W.drew := ⟨_, rfl⟩
      have hx0 : Ext W W0 := by rw [hW0]; exact (Ext.refl W).drewN 1
      obtain ⟨cap, hcap⟩ : ∃ cap, cap = m1 + m2 := ⟨_, rfl⟩
      have hcapI : (m1 : Int) + (m2 : Int) = ((cap : Nat) : Int) := by rw [hcap]; omega
      have hcap2 : cap ≤ 510 := by omega
      clear hcap
      have hmkR := fun w => run_make_cap (P := Try.prog) eltEl .i64 .i64 cap (by omega) w
      have wr1 : IntKind.i64.wrap (cap : Int) = (cap : Int) := by rw [IntKind.wrap_i64]; omega
      have HRD := Lib.hid (And.intro (And.intro hr1 hb1) (And.intro hr2 hb2))
      have HX0 := Lib.hid (And.intro hx0 (hB.ext.trans hx0))
      have k1W := k1 W hB.ext
      have k2W := k2 W hB.ext
      have HB := Lib.hid hB
      clear hB hra hrb hr1 hr2 hb1 hb2 la lb hx0
      go_wp2_with fail
      refine wp_region_mix (fun i => [3, 3, 3, 3, 3, 0, 3, 3, 3, 3, 0, 3, 3, 1, 3, 2].getD i 0) (fun w' => Ext w w') hmo (by kernel_rfl) (by kernel_rfl) (hW0 ▸ HX0.out.2) ?_
      rw [← hW0]
      clear hW0 hc1 hc2 k1W k2W
      refine mix_pure (.slice (some ⟨w.heap.size, 0, none⟩) k k) rfl (fun w' => by go_simp) ?_
      refine mix_pure (.int .i64 (q : Int)) rfl (fun w' => by go_simp) ?_
      refine mix_pure (.slice (some ad) k c) rfl (fun w' => by go_simp) ?_
      refine mix_pure (.int .i64 (q : Int)) rfl (fun w' => by go_simp) ?_
      refine mix_pure (.pointer (some (ad.add q))) rfl (fun w' => by go_simp) ?_
      refine mix_still (.slice A1 m1 c1) rfl (fun w' hw' => by have := k1 w' hw'; go_simp) ?_
      refine mix_pure (.int .i64 (m1 : Int)) rfl (fun w' => by go_simp) ?_
      refine mix_pure (.slice (some bd) k cc) rfl (fun w' => by go_simp) ?_
      refine mix_pure (.int .i64 (q : Int)) rfl (fun w' => by go_simp) ?_
      refine mix_pure (.pointer (some (bd.add q))) rfl (fun w' => by go_simp) ?_
      refine mix_still (.slice A2 m2 c2) rfl (fun w' hw' => by have := k2 w' hw'; go_simp) ?_
      refine mix_pure (.int .i64 (m2 : Int)) rfl (fun w' => by go_simp) ?_
      refine mix_pure (.int .i64 (cap : Int)) rfl (fun w' => by go_simp) ?_
      refine mix_laid (.slice (some ⟨W0.heap.size, 0, none⟩) 0 cap) (W0.alloc (.cells (zrow (.int .u8 0) cap) 63)) rfl (by have := hmkR W0; go_simp) (HX0.out.2.alloc _) ?_
      refine mix_pure (.pointer (some ⟨w.heap.size, q, none⟩)) rfl (fun w' => by go_simp) ?_
      have hB0 : Bes w W0 w.heap.size k V R q := ⟨HX0.out.2, HB.out.len, HB.out.list.ext HX0.out.1, fun j u hj => (HB.out.rows j u hj).ext HX0.out.1, HB.out.far⟩
      have hxa : Ext W0 (W0.alloc (.cells (zrow (.int .u8 0) cap) 63)) := (Ext.refl W0).alloc _
      have hla := hB0.list.ext hxa
      have fa := hla.frozen q
      obtain ⟨ua, ca⟩ : ∃ u, (W0.alloc (.cells (zrow (.int .u8 0) cap) 63)).cell? ⟨w.heap.size, q, none⟩ = some u := ⟨_, hla.cell (List.getElem?_eq_getElem (show q < V.length by rw [hB0.len]; exact hlt))⟩
      obtain ⟨W1, hW1⟩ : ∃ W1, W1 = (W0.alloc (.cells (zrow (.int .u8 0) cap) 63)).setCell ⟨w.heap.size, q, none⟩ (.slice (some ⟨W0.heap.size, 0, none⟩) 0 cap) := ⟨_, rfl⟩
      refine mix_store W1 rfl (by rw [hW1]; go_simp) ?_
      refine mix_nil ?_
      have h1l : Own W1 w.heap.size 26 (.slice (some ⟨w.heap.size, 0, none⟩) k k) (V.set q (.slice (some ⟨W0.heap.size, 0, none⟩) 0 cap)) := by rw [hW1]; exact hla.set q _
      have h1r : Own W1 w.heap.size 63 (.slice (some ⟨W0.heap.size, 0, none⟩) 0 cap) [] := by
        rw [hW1]
        exact ((Blk.new W0 63 (zrow (.int .u8 0) cap)).own (n := 0) hB0.ext.le (Nat.zero_le _) (by unfold maxLen; omega) (zrow_size _ _)).far (p := ⟨w.heap.size, q, none⟩) (by have := (hB0.list.lt w.heap.size rfl).2; simp only [Value.ownBlock, ne_eq, Option.some.injEq]; omega) _
      have h1x : Ext w W1 := by rw [hW1]; exact (hB0.ext.trans hxa).new (p := ⟨w.heap.size, q, none⟩) (Nat.le_refl _) _
      have hqV : q < V.length := by rw [hB0.len]; exact hlt
      have cw1 : W1.cell? ⟨w.heap.size, q, none⟩ = some (.slice (some ⟨W0.heap.size, 0, none⟩) 0 cap) := h1l.cell (List.getElem?_set_self hqV)
      have H1 := Lib.hid (And.intro h1l (And.intro h1r (And.intro h1x (And.intro hB0 hW1))))
      clear hB0 hxa hla fa ca hW1 h1l h1r h1x HB HX0 hmkR
      go_simp
      go_wp2_with fail
      obtain ⟨W5, hW5⟩ : ∃ W5, W5 = W1.drew := ⟨_, rfl⟩
      have hx5 : Ext W1 W5 := by rw [hW5]; exact (Ext.refl W1).drewN 1
      have h5r := H1.out.2.1.ext hx5
      have h5x := H1.out.2.2.1.trans hx5
      have h5l := H1.out.1.ext hx5
      have c5 : W5.cell? ⟨w.heap.size, q, none⟩ = some (.slice (some ⟨W0.heap.size, 0, none⟩) 0 cap) := h5l.cell (List.getElem?_set_self hqV)
      obtain ⟨v2, W6, hrun1, h6, m6, -⟩ := run_app2 (P := Try.prog) W5 eltEl 26 w.heap.size (.slice (some ⟨W0.heap.size, 0, none⟩) 0 cap) [] h5r A1 m1 c1 (bs ra) (HRD.out.1.1.ext h5x) (by rw [bs_length, HRD.out.1.2]) (bs_ones _) (by simp; omega) h5x.le
      have h6x : Ext w W6 := h5x.below.trans (m6.below h5x.le fun g hg => (h5r.lt g hg).1)
      have h6l := h5l.kept m6.grown (h5l.types h5r (by decide))
      have c6 : W6.cell? ⟨w.heap.size, q, none⟩ = some (.slice (some ⟨W0.heap.size, 0, none⟩) 0 cap) := h6l.cell (List.getElem?_set_self hqV)
      obtain ⟨v3, W7, hrun2, h7, m7, -⟩ := run_app2 (P := Try.prog) W6 eltEl 26 w.heap.size v2 ([] ++ bs ra) h6 A2 m2 c2 (bs rb) (HRD.out.2.1.ext h6x) (by rw [bs_length, HRD.out.2.2]) (bs_ones _) (by simp [bs_length, HRD.out.1.2]; omega) h6x.le
      obtain ⟨A6, n6, q6, rfl⟩ : ∃ A n c, v2 = Value.slice A n c := by obtain ⟨A, c, h⟩ := h6.anySlice; exact ⟨_, _, _, h⟩
      obtain ⟨A7, n7, q7, rfl⟩ : ∃ A n c, v3 = Value.slice A n c := by obtain ⟨A, c, h⟩ := h7.anySlice; exact ⟨_, _, _, h⟩
      have h7x : Ext w W7 := h6x.below.trans (m7.below h6x.le fun g hg => (h6.lt g hg).1)
      have h7l := h6l.kept m7.grown (h6l.types h6 (by decide))
      have f7 := h7l.frozen q
      have c7 : W7.cell? ⟨w.heap.size, q, none⟩ = some (.slice (some ⟨W0.heap.size, 0, none⟩) 0 cap) := h7l.cell (List.getElem?_set_self hqV)
      have m61 : Moved W1 W6 (.slice (some ⟨W0.heap.size, 0, none⟩) 0 cap) (.slice A6 n6 q6) := by rw [hW5] at m6; exact moved_drew m6
      have HST : Hid (Bes w (W7.setCell ⟨w.heap.size, q, none⟩ (.slice A7 n7 q7)) w.heap.size k (V.set q (.slice A7 n7 q7)) R (q + 1)) := Lib.hid (by
        refine Bes.step (cap := cap) H1.out.2.2.2.1 hlt (by unfold maxLen; omega) h6 (H1.out.2.2.2.2 ▸ m61) ?_ m7
        rw [HRQ.out, bs_append]
        simpa using h7)
      refine wp_region_mix (fun i => [3, 3, 3, 3, 3, 0, 3, 3, 3, 0, 1, 3, 3, 3, 0, 1, 3, 2].getD i 0) (fun w' => Ext w w' ∧ w'.cell? ⟨w.heap.size, q, none⟩ = some (.slice (some ⟨W0.heap.size, 0, none⟩) 0 cap)) hmo (by kernel_rfl) (by kernel_rfl) (hW5 ▸ ⟨h5x, c5⟩) ?_
      rw [← hW5]
      have HC6 := Lib.hid (And.intro h6x c6)
      have HC7 := Lib.hid (And.intro h7x c7)
      have HR1 := Lib.hid hrun1
      have HR2 := Lib.hid hrun2
      clear hW5 hx5 h5r h5x h5l c5 h6 m6 h6x h6l c6 h7 m7 h7x h7l m61 H1 cw1 hrun1 hrun2
      refine mix_pure (.slice (some ⟨w.heap.size, 0, none⟩) k k) rfl (fun w' => by go_simp) ?_
      refine mix_pure (.int .i64 (q : Int)) rfl (fun w' => by go_simp) ?_
      refine mix_pure (.slice (some ⟨w.heap.size, 0, none⟩) k k) rfl (fun w' => by go_simp) ?_
      refine mix_pure (.int .i64 (q : Int)) rfl (fun w' => by go_simp) ?_
      refine mix_pure (.pointer (some ⟨w.heap.size, q, none⟩)) rfl (fun w' => by go_simp) ?_
      refine mix_still (.slice (some ⟨W0.heap.size, 0, none⟩) 0 cap) rfl (fun w' hw' => by have := hw'.2; go_simp) ?_
      refine mix_pure (.slice (some ad) k c) rfl (fun w' => by go_simp) ?_
      refine mix_pure (.int .i64 (q : Int)) rfl (fun w' => by go_simp) ?_
      refine mix_pure (.pointer (some (ad.add q))) rfl (fun w' => by go_simp) ?_
      refine mix_still (.slice A1 m1 c1) rfl (fun w' hw' => by have := k1 w' hw'.1; go_simp) ?_
      refine mix_laid (.slice A6 n6 q6) W6 rfl (append_run (by rfl) (by go_simp) (by go_simp) HR1.out) HC6.out ?_
      refine mix_pure (.slice (some bd) k cc) rfl (fun w' => by go_simp) ?_
      refine mix_pure (.int .i64 (q : Int)) rfl (fun w' => by go_simp) ?_
      refine mix_pure (.pointer (some (bd.add q))) rfl (fun w' => by go_simp) ?_
      refine mix_still (.slice A2 m2 c2) rfl (fun w' hw' => by have := k2 w' hw'.1; go_simp) ?_
      refine mix_laid (.slice A7 n7 q7) W7 rfl (append_run (by rfl) (by go_simp) (by go_simp) HR2.out) HC7.out ?_
      refine mix_pure (.pointer (some ⟨w.heap.size, q, none⟩)) rfl (fun w' => by go_simp) ?_
      have c7 := HC7.out.2
      obtain ⟨WF, hWF⟩ : ∃ WF, WF = W7.setCell ⟨w.heap.size, q, none⟩ (.slice A7 n7 q7) := ⟨_, rfl⟩
      refine mix_store WF rfl (by rw [hWF]; go_simp) ?_
      rw [← hWF] at HST
      clear hWF c7 f7 HC6 HC7 HR1 HR2
      refine mix_nil ?_
      go_simp
      go_wp2_with fail
      go_roundw
      case rel => exact ⟨q + 1, _, by omega, by go_num, HST.out⟩
      case measure => simp [intOf]; omega
    · obtain rfl : q = k := by omega
      have HB := Lib.hid hB
      clear hB
      go_wp2_with fail
      go_ret
      exact ⟨V, rfl, HRR.out ▸ HB.out⟩
end Go.Proofs.Ytdoeelfcihdmbaa
/-
  Layer 3: a matrix is turned round.
-/
namespace Go.Proofs.Ytdoeelfcihdmbaa
open Go.RowKit Gf
set_option maxRecDepth 20000
set_option linter.unusedVariables false

theorem tyEl : Try.prog.underlying 26 = some (.slice (Try.prog.elem 26)) := by kernel_rfl
theorem oneEl : ∃ i, Try.prog.info? (Try.prog.elem 26) = some i ∧ i.size = 1 := by
  have h : (Try.prog.info? (Try.prog.elem 26)).map (·.size) = some 1 := by kernel_rfl
  cases hq : Try.prog.info? (Try.prog.elem 26) with
  | none => simp [hq] at h
  | some i => exact ⟨i, rfl, by simpa [hq] using h⟩
section
variable {P : Program}
/-- copy, to a place of a block. -/
theorem copy_at {t e : TypeId} {z : Value} {bytes : Nat} (E : Elt P t e z bytes) (ty : TypeId) (w : World) (D : Option Addr) (g off dLen dCap : Nat) (A : Option Addr) (n c : Nat) (T : TypeId) (cur : Array Value) (xs : List Value) (hb : Blk w g T cur)
    (hD : 0 < xs.length → D = some ⟨g, off, none⟩) (hn : xs.length = Nat.min n dLen) (hr : Rd w A xs) (hfit : off + xs.length ≤ cur.size) (h1 : ∀ v ∈ xs, v.oneCell' = true) :
    ∃ w', (Builtin.copy_ #[t, t] ty #[.slice D dLen dCap, .slice A n c]).run P w = .ok (goInt xs.length) w' ∧ Blk w' g T (seg cur off xs) ∧ Touch (fun b => b = g) w w' := by
  obtain ⟨i, hi, _, hs1, _⟩ := E.info
  by_cases h0 : xs.length = 0
  · obtain rfl : xs = [] := List.eq_nil_of_length_eq_zero h0
    have hrun := run_copy_none (P := P) w t t ty e D A dLen dCap n c E.ty (by rw [hi, Option.map_some, hs1]) (by simpa using hn.symm)
    refine ⟨w, hrun, ?_, Touch.refl _⟩
    have e : seg cur off [] = cur := by simp [seg]
    rw [e]; exact hb
  · obtain ⟨ad, rfl, hc⟩ := hr (by omega)
    rw [hD (by omega)]
    have hrun := run_copy_row (P := P) w t t ty e g off dLen dCap ad n c cur T xs E.ty (by rw [hi, Option.map_some, hs1]) hb hn hc hfit h1
    exact ⟨_, hrun, setRow_blk w g T cur _ hb, setRow_touch w g _⟩
theorem copy_run {o : Oper} {a : Act} {w w' : World} {t : TypeId} {s x : Operand} (ho : o.op = .call { callee := .builtin .copy, args := #[s, x], argTypes := #[t, t] }) {v u v' : Value} (hs : a.eval s = v) (hx : a.eval x = u)
    (h : (Builtin.copy_ #[t, t] o.type #[v, u]).run P w = .ok v' w') : (execOp a.eval o).run P w = .ok (.value v') w' := by
  unfold execOp
  simp only [ho, resolve, invoke, builtin, Sem.run_bind, Sem.run_pure, Result.andThen_ok, List.map_toArray, List.map_cons, List.map_nil, hs, hx, h]
end
theorem Grid.rd {W0 wr : World} {N m : Nat} {R : Nat → List E} (h : Grid W0 wr N m R) (hl : ∀ i, i < N → (R i).length = m) (hm : m ≤ 255) : RdRows wr (some ⟨W0.heap.size, 0, none⟩) ((List.range N).map R) := by
  refine ⟨rowsV (W0.heap.size + 1) m N, by simp [rowsV_length], h.list.rd, fun i r hi => ?_⟩
  have hiN : i < N := by have := (List.getElem?_eq_some_iff.1 hi).1; simpa using this
  rw [List.getElem?_map, List.getElem?_range hiN] at hi
  cases hi
  refine ⟨some ⟨W0.heap.size + 1 + i, 0, none⟩, m, by rw [rowsV_get _ _ _ _ hiN, hl i hiN], (h.rows i hiN).rd, by rw [hl i hiN]; exact Nat.le_refl _, by unfold maxLen; omega⟩
theorem Grid.upd {W0 wr w2 : World} {N m : Nat} {R : Nat → List E} (h : Grid W0 wr N m R) {i : Nat} (hi : i < N) {l : List E} (ht : Touch (fun b => b = W0.heap.size + 1 + i) wr w2) (ho : Own w2 W0.heap.size 63 (.slice (some ⟨W0.heap.size + 1 + i, 0, none⟩) m m) (bs l)) : Grid W0 w2 N m (updR R i l) := by
  refine ⟨ht.extNew h.ext (by omega), h.list.touch ht fun k hk e => ?_, fun j hj => ?_⟩
  · have : W0.heap.size = k := Option.some.inj hk
    omega
  · by_cases e : j = i
    · subst e; rw [updR_same]; exact ho
    · rw [updR_other _ _ _ e]
      exact (h.rows j hj).touch ht fun k hk e2 => by
        have : W0.heap.size + 1 + j = k := Option.some.inj hk
        omega
theorem Bes.mat {w wr : World} {G N U : Nat} {V : List Value} {R : Nat → List E} (h : Bes w wr G N V R N) (hl : ∀ i, i < N → (R i).length = U) : MatSt wr wr w.heap.size G N N U V R :=
  ⟨Below.refl _ _, h.list, ⟨fun i v hi => by
    have := h.rows i v hi
    rwa [if_pos (by rw [← h.len]; exact (List.getElem?_eq_some_iff.1 hi).1)] at this⟩, h.far, h.len, hl, h.ext.le⟩
def InvOut (k : Nat) (rs : List (List E)) (w : World) (e : Ending) (w' : World) : Prop := (∃ A' c' bk, e = .returned (.tuple #[.slice A' k c', .int .i64 0]) ∧ RdRows w' A' bk ∧ Inv k rs bk) ∧ Ext w w'
set_option maxHeartbeats 8000000 in
theorem minverse_n (A : Option Addr) (k c : Nat) (rs : List (List E)) (w : World) (hn : rs.length = k) (hr : RdRows w A rs) (hl : ∀ r ∈ rs, r.length = k) (hk0 : 0 < k) (hk : k ≤ 255) (hg : GInv k (entry rs) 0 (besideM k (entry rs))) :
    Calls Try.prog 174 #[.slice A k c] w (InvOut k rs w) := by
  have hmo : Try.prog.follows Departure.mixedOrders = true := by kernel_rfl
  have HN := Lib.hid hn
  have HL := Lib.hid hl
  have HR := Lib.hid hr
  have HG := Lib.hid hg
  have hex : ∃ r ∈ rs, ∃ x ∈ r, x ≠ 0 := by
    obtain ⟨r, h1, h2, h3⟩ := hg.pivot hk0
    rw [besideM, if_pos hk0] at h3
    have hr1 : r < rs.length := by rw [hn]; exact h2
    have h0 : 0 < rs[r].length := by rw [hl _ (List.getElem_mem hr1)]; exact hk0
    refine ⟨rs[r], List.getElem_mem hr1, rs[r][0], List.getElem_mem h0, fun e => h3 ?_⟩
    rw [entry, List.getD_eq_getElem?_getD (l := rs), List.getElem?_eq_getElem hr1, Option.getD_some, List.getD_eq_getElem?_getD, List.getElem?_eq_getElem h0]
    exact e
  have HEX := Lib.hid hex
  have d1 : decide ((k : Int) < (k : Int)) = false := decide_eq_false (by omega)
  have d2 : ((k : Int) != (k : Int)) = false := by simp
  clear hn hr hl hg hex
  go_enter Try.func174, Try.ntmps174
  go_wp2_with fail
  refine (fault_n A k c k rs w HN.out HR.out HL.out hk hk).mono ?_
  rintro e w' ⟨rfl, rfl⟩
  go_wp2_with fail
  refine (columns_n A k c k rs w HN.out HR.out HL.out hk0).mono ?_
  rintro e w' ⟨rfl, rfl⟩
  go_wp2_with fail
  refine (one_n A k c k rs w HN.out HR.out HL.out hk hk HEX.out).mono ?_
  rintro e w' ⟨rfl, rfl⟩
  go_wp2_with fail
  refine (identity_n k w hk).mono ?_
  rintro e w1 ⟨rfl, hg1, -⟩
  have hul : ∀ i, i < k → (unitR k i).length = k := fun i _ => by rw [unitR, List.length_set, List.length_replicate]
  have HG1 := Lib.hid (And.intro hg1.ext (hg1.rd hul hk))
  clear hg1
  go_wp2_with fail
  refine (beside_n A (some ⟨w.heap.size, 0, none⟩) k c k k k rs ((List.range k).map (unitR k)) w1 HN.out (by simp) (HR.out.ext HG1.out.1) HG1.out.2 HL.out (fun r hr => by
    obtain ⟨i, hi, rfl⟩ := List.mem_map.1 hr
    exact hul i (List.mem_range.1 hi)) hk hk hk).mono ?_
  rintro e w2 ⟨V, rfl, hb⟩
  obtain ⟨R, hR⟩ : ∃ R : Nat → List E, R = fun i => rs.getD i [] ++ ((List.range k).map (unitR k)).getD i [] := ⟨_, rfl⟩
  rw [← hR] at hb
  have hRB : ∀ i, i < k → R i = besideR rs k i := fun i hi => by
    rw [hR, besideR]
    simp only [List.getD_eq_getElem?_getD, List.getElem?_map, List.getElem?_range hi, Option.map_some, Option.getD_some]
  have hRl : ∀ i, i < k → (R i).length = k + k := fun i hi => by rw [hRB i hi]; exact besideR_length HN.out HL.out hi
  have hms := hb.mat hRl
  have hgi : GInv k (entry rs) 0 fun i j => ser (R i) j := HG.out.congr (Nat.zero_le _) fun i j hi hj => by rw [hRB i hi]; exact besideR_ser HN.out HL.out hi hj
  obtain ⟨G2, hG2⟩ : ∃ g, g = w1.heap.size := ⟨_, rfl⟩
  rw [← hG2] at hms ⊢
  have HM := Lib.hid (And.intro hms (And.intro hgi (And.intro (HG1.out.1.trans hb.ext) (hG2 ▸ HG1.out.1.le))))
  clear hb hR hRB hRl hms hgi hG2 HG1 hul
  go_wp2_with fail
  refine (cleared_n G2 k k G2 V R (entry rs) w2 HM.out.1 HM.out.2.1 hk0 hk).mono ?_
  rintro e w3 ⟨rfl, V3, R3, hm3, hg3⟩
  have hx3 : Ext w w3 := HM.out.2.2.1.below.trans (Below.mono hm3.below HM.out.2.2.2)
  have HM3 := Lib.hid (And.intro hm3 (And.intro hg3 hx3))
  clear hm3 hg3 hx3 HM
  go_wp2_with fail
  refine (zeros_n k k w3 hk hk).mono ?_
  rintro e w4 ⟨rfl, hg4, -⟩
  have HG4 := Lib.hid hg4
  clear hg4
  go_wp2_with fail
  go_loopw [54] (fun i wr => ∃ q : Nat, q ≤ k ∧ i = .int .i64 q ∧ Grid w3 wr k k (fun i => if i < q then (R3 i).drop k else List.replicate k 0)) (fun i _ => k - (intOf i).toNat)
  case atStart => exact ⟨0, by omega, rfl, HG4.out.congr fun i hi => by rw [if_neg (by omega)]⟩
  case round =>
    clear HG4
    obtain ⟨W, rfl⟩ : ∃ W, W = wr := ⟨_, rfl⟩
    obtain ⟨q, hq, rfl, hgr⟩ := hrel
    by_cases hlt : q < k
    · obtain ⟨W0, hW0⟩ : ∃ W0, W0 = W.drew := ⟨_, rfl⟩
      have hg0 : Grid w3 W0 k k (fun i => if i < q then (R3 i).drop k else List.replicate k 0) := by rw [hW0]; exact hgr.beyond ((Ext.refl W).drewN 1)
      obtain ⟨gq, cq, hvq, -⟩ := HM3.out.1.at_ (by omega) hlt
      have hm0 := HM3.out.1.ext hg0.ext
      have c1 : W0.cell? ⟨w3.heap.size, q, none⟩ = some (.slice (some ⟨w3.heap.size + 1 + q, 0, none⟩) k k) := hg0.list.cell (rowsV_get _ _ _ _ hlt)
      have c2 : W0.cell? ⟨G2, q, none⟩ = some (.slice (some ⟨gq, 0, none⟩) (k + k) cq) := hm0.own.cell hvq
      have hrow := hm0.rows.own q _ hvq
      have hlen := HM3.out.1.len q hlt
      obtain ⟨-, cs0, hcs0, hcsz, -, hcle, -, -⟩ := hrow.blk
      have hcq : k + k ≤ cq := by rw [bs_length, hlen] at hcle; exact hcle
      have hsl := fun w => slice_l tyEl oneEl (some ⟨gq, 0, none⟩) (k + k) cq k .i64 (k : Int) rfl (by omega) hcq w
      obtain ⟨A7, hA7⟩ : ∃ A7, A7 = cutA (some ⟨gq, 0, none⟩) cq k := ⟨_, rfl⟩
      rw [← hA7, show k + k - k = k by omega] at hsl
      have hr7 : Rd W0 A7 (bs ((R3 q).drop k)) := by
        rw [hA7, bs_drop]
        exact hrow.rd.cutA (by rw [bs_length, hlen]; omega) (by rw [bs_length, hlen]; exact hcq)
      have hrl : ((R3 q).drop k).length = k := by rw [List.length_drop, hlen]; omega
      have hz := hg0.rows q hlt
      rw [if_neg (by omega)] at hz
      obtain ⟨-, cz, hcz, hczs, -, -, -, hctk⟩ := hz.blk
      obtain ⟨W5, hrun, hb5, ht5⟩ := copy_at (P := Try.prog) eltEl 3 W0 (some ⟨w3.heap.size + 1 + q, 0, none⟩) (w3.heap.size + 1 + q) 0 k k A7 k (cq - k) 63 cz (bs ((R3 q).drop k)) hcz (fun _ => rfl) (by rw [bs_length, hrl]; exact (Nat.min_self k).symm) hr7 (by rw [bs_length, hrl, hczs]; omega) (bs_ones _)
      have ho5 : Own W5 w3.heap.size 63 (.slice (some ⟨w3.heap.size + 1 + q, 0, none⟩) k k) (bs ((R3 q).drop k)) := by
        have e : seg cz 0 (bs ((R3 q).drop k)) = (bs ((R3 q).drop k)).toArray := by
          exact seg_all cz (bs ((R3 q).drop k)).toArray (by rw [hczs, List.size_toArray, bs_length, hrl])
        rw [e] at hb5
        have := hb5.own (B := w3.heap.size) (n := k) (cap := k) (by omega) (Nat.le_refl _) (by unfold maxLen; omega) (by rw [List.size_toArray, bs_length, hrl])
        rw [List.take_of_length_le (by rw [bs_length, hrl]; exact Nat.le_refl _)] at this
        exact this
      have HG5 : Hid (Grid w3 W5 k k (fun i => if i < q + 1 then (R3 i).drop k else List.replicate k 0)) := Lib.hid ((hg0.upd hlt ht5 ho5).congr fun i hi => by
        by_cases e : i = q
        · subst e; rw [updR_same, if_pos (by omega)]
        · rw [updR_other _ _ _ e]
          by_cases e2 : i < q
          · rw [if_pos e2, if_pos (by omega)]
          · rw [if_neg e2, if_neg (by omega)])
      rw [bs_length, hrl] at hrun
      have HRUN := Lib.hid hrun
      clear hgr hg0 hm0 hrow hcs0 hcsz hcle hz hcz hczs hctk hA7 hr7 hrl hb5 ht5 ho5 hrun hvq hlen
      go_wp2_with fail
      refine wp_region_mix (fun i => [3, 3, 3, 0, 3, 3, 3, 0, 3, 3, 2].getD i 0) (fun w' => w' = W0) hmo (by kernel_rfl) (by kernel_rfl) hW0.symm ?_
      rw [← hW0]
      clear hW0
      refine mix_pure (.slice (some ⟨w3.heap.size, 0, none⟩) k k) rfl (fun w' => by go_simp) ?_
      refine mix_pure (.int .i64 (q : Int)) rfl (fun w' => by go_simp) ?_
      refine mix_pure (.pointer (some ⟨w3.heap.size, q, none⟩)) rfl (fun w' => by go_simp) ?_
      refine mix_still (.slice (some ⟨w3.heap.size + 1 + q, 0, none⟩) k k) rfl (fun w' hw' => by subst hw'; go_simp) ?_
      refine mix_pure (.slice (some ⟨G2, 0, none⟩) k k) rfl (fun w' => by go_simp) ?_
      refine mix_pure (.int .i64 (q : Int)) rfl (fun w' => by go_simp) ?_
      refine mix_pure (.pointer (some ⟨G2, q, none⟩)) rfl (fun w' => by go_simp) ?_
      refine mix_still (.slice (some ⟨gq, 0, none⟩) (k + k) cq) rfl (fun w' hw' => by subst hw'; go_simp) ?_
      refine mix_pure (.int .i64 (k : Int)) rfl (fun w' => by go_simp) ?_
      refine mix_pure (.slice A7 k (cq - k)) rfl (fun w' => by have := hsl w'; go_simp) ?_
      refine mix_last (goInt k) W5 rfl (copy_run rfl (by go_simp) (by go_simp) HRUN.out) ?_
      refine mix_nil ?_
      clear c1 c2 hsl HRUN
      go_simp
      go_wp2_with fail
      go_roundw
      case rel => exact ⟨q + 1, by omega, by go_num, HG5.out⟩
      case measure => simp [intOf]; omega
    · obtain rfl : q = k := by omega
      have hl3 := HM3.out.1.len
      have hgf : Grid w3 W q q (fun i => (R3 i).drop q) := hgr.congr fun i hi => by rw [if_pos hi]
      have hrd := hgf.rd (fun i hi => by rw [List.length_drop, hl3 i hi]; omega) hk
      have HF := Lib.hid (And.intro hrd (And.intro (right_inv HM3.out.2.1 hl3) (HM3.out.2.2.trans hgf.ext)))
      clear hgr hgf hrd hl3
      go_wp2_with fail
      go_ret2
      exact ⟨⟨_, _, _, rfl, HF.out.1, HF.out.2.1⟩, HF.out.2.2⟩
end Go.Proofs.Ytdoeelfcihdmbaa
/-
  Layer 4, plain: which rows are there.
-/
namespace Go.Proofs.Ytdoeelfcihdmbaa
open Go.RowKit Gf
set_option linter.unusedVariables false

/-- The places at which there is a row, of the first q. -/
def presentL (rs : List (List E)) (q : Nat) : List Nat := (List.range q).filter fun i => decide (0 < (rs.getD i []).length)
theorem presentL_yes {rs : List (List E)} {q : Nat} (h : 0 < (rs.getD q []).length) : presentL rs (q + 1) = presentL rs q ++ [q] := by
  rw [presentL, List.range_succ, List.filter_append, List.filter_cons_of_pos (by simpa using h), List.filter_nil]; rfl
theorem presentL_no {rs : List (List E)} {q : Nat} (h : ¬ 0 < (rs.getD q []).length) : presentL rs (q + 1) = presentL rs q := by
  rw [presentL, List.range_succ, List.filter_append, List.filter_cons_of_neg (by simpa using h), List.filter_nil, List.append_nil]; rfl
theorem presentL_mem {rs : List (List E)} {q i : Nat} (h : i ∈ presentL rs q) : i < q ∧ 0 < (rs.getD i []).length := by
  obtain ⟨h1, h2⟩ := List.mem_filter.1 h
  exact ⟨List.mem_range.1 h1, of_decide_eq_true h2⟩
theorem presentL_lt (rs : List (List E)) (q : Nat) : (presentL rs q).Pairwise (· < ·) := List.Pairwise.filter _ List.pairwise_lt_range
theorem presentL_nodup (rs : List (List E)) (q : Nat) : (presentL rs q).Nodup := List.nodup_range.filter _
theorem gap {l : List Nat} (h : l.Pairwise (· < ·)) : ∀ (d i : Nat) (hi : i + d < l.length), l[i]'(by omega) + d ≤ l[i + d]
  | 0, i, hi => Nat.le_refl _
  | d + 1, i, hi => by
    have h1 := gap h d i (by omega)
    have h2 := List.pairwise_iff_getElem.1 h (i + d) (i + (d + 1)) (by omega) hi (by omega)
    omega
theorem take_first {l : List Nat} (h : l.Pairwise (· < ·)) {k : Nat} (hk : 0 < k) (hl : k ≤ l.length) (he : l[k - 1]'(by omega) = k - 1) : l.take k = List.range k := by
  apply List.ext_getElem (by rw [List.length_take, List.length_range]; omega)
  intro i h1 h2
  rw [List.length_range] at h2
  rw [List.getElem_take, List.getElem_range]
  have e1 := gap h (k - 1 - i) i (by omega)
  have e2 := gap h i 0 (by omega)
  have e3 : l[i + (k - 1 - i)]'(by omega) = l[k - 1]'(by omega) := by congr 1; omega
  have e4 : l[0 + i]'(by omega) = l[i]'(by omega) := by congr 1; omega
  rw [e3, he] at e1
  rw [e4] at e2
  omega
theorem rowsAt_range {rs : List (List E)} {k : Nat} (h : k ≤ rs.length) : rowsAt (List.range k) rs = rs.take k := by
  apply List.ext_getElem
  · rw [rowsAt_length, List.length_range, List.length_take]; omega
  · intro i h2 h3
    rw [rowsAt_length, List.length_range] at h2
    simp only [rowsAt, List.getElem_map, List.getElem_range, List.getElem_take]
    rw [List.getD_eq_getElem?_getD, List.getElem?_eq_getElem (by omega)]; rfl
/-- Each row that is there is the word's. -/
def Part (k n L : Nat) (data rs : List (List E)) : Prop := rs.length = n ∧ ∀ i, i < n → rs.getD i [] = [] ∨ rs.getD i [] = (encM k n L data).getD i []
section
variable {k n L : Nat} {data rs : List (List E)}
theorem Part.rows (h : Part k n L data rs) {at_ : List Nat} (ha : ∀ i ∈ at_, i ∈ presentL rs n) : rowsAt at_ rs = rowsAt at_ (encM k n L data) := by
  rw [rowsAt, rowsAt]
  apply List.map_congr_left
  intro i hi
  obtain ⟨h1, h2⟩ := presentL_mem (ha i hi)
  rcases h.2 i h1 with e | e
  · rw [e] at h2; exact absurd h2 (by simp)
  · exact e
theorem Part.len (h : Part k n L data rs) : ∀ r ∈ rowsAt (presentL rs n) rs, r.length = L := fun r hr => by
  rw [h.rows (fun i hi => hi)] at hr
  obtain ⟨i, hi, rfl⟩ := List.mem_map.1 hr
  have hin := (presentL_mem hi).1
  rw [List.getD_eq_getElem?_getD, List.getElem?_eq_getElem (by rw [encM_length]; exact hin)]
  exact prodM_rows _ _ _ _ (List.getElem_mem _)
theorem Part.first (h : Part k n L data rs) (hk : k ≤ 256) (hkn : k ≤ n) (hd : data.length = k) (hr : ∀ r ∈ data, r.length = L) (hk0 : 0 < k) (hl : k ≤ (presentL rs n).length) (he : (presentL rs n)[k - 1]'(by omega) = k - 1) : rowsAt ((presentL rs n).take k) rs = data := by
  rw [h.rows (fun i hi => List.mem_of_mem_take hi), take_first (presentL_lt _ _) hk0 hl he]
  exact (rowsAt_range (by rw [encM_length]; exact hkn)).trans (enc_data (n := n) (L := L) hk hkn hd hr)
theorem Part.back (h : Part k n L data rs) {B : List (List E)} (hd : data.length = k) (hr : ∀ r ∈ data, r.length = L) (hl : k ≤ (presentL rs n).length) (hB : Inv k (rowsAt ((presentL rs n).take k) (codeR k n)) B) : prodM B (rowsAt ((presentL rs n).take k) rs) L = data := by
  rw [h.rows (fun i hi => List.mem_of_mem_take hi)]
  exact data_back (by rw [List.length_take]; omega) (fun i hi => (presentL_mem (List.mem_of_mem_take hi)).1) hd hr hB
end
end Go.Proofs.Ytdoeelfcihdmbaa
/-
  Layer 4: the rows that were lost come back.
-/
namespace Go.Proofs.Ytdoeelfcihdmbaa
open Go.RowKit Gf
set_option maxRecDepth 20000
set_option linter.unusedVariables false

/-- What is there, and where, while it is gathered. -/
structure Have (w wr : World) (va vh : Value) (V : List Value) (at_ : List Nat) (rs : List (List E)) : Prop where
  ext : Ext w wr
  ats : Own wr w.heap.size 3 va (ints at_)
  list : Own wr w.heap.size 24 vh V
  len : V.length = at_.length
  rows : ∀ (i : Nat) (u : Value), V[i]? = some u → ∃ B c, u = .slice B ((rowsAt at_ rs).getD i []).length c ∧ Rd w B (bs ((rowsAt at_ rs).getD i [])) ∧ ((rowsAt at_ rs).getD i []).length ≤ c ∧ c ≤ maxLen
theorem Have.rd {w wr : World} {va vh : Value} {V : List Value} {at_ : List Nat} {rs : List (List E)} (h : Have w wr va vh V at_ rs) : ∃ A c, vh = .slice A at_.length c ∧ RdRows wr A (rowsAt at_ rs) ∧ at_.length ≤ c ∧ c ≤ maxLen := by
  obtain ⟨A, c, rfl, h1, h2, h3, -⟩ := h.list.slice
  rw [h.len] at h2 ⊢
  refine ⟨A, c, rfl, ⟨V, by rw [h.len, rowsAt_length], h1, fun i r hi => ?_⟩, h2, h3⟩
  have hlt : i < V.length := by rw [h.len, ← rowsAt_length at_ rs]; exact (List.getElem?_eq_some_iff.1 hi).1
  obtain ⟨B, c', e, k1, k2, k3⟩ := h.rows i V[i] (List.getElem?_eq_getElem hlt)
  have hr : (rowsAt at_ rs).getD i [] = r := by rw [List.getD_eq_getElem?_getD, hi]; rfl
  rw [hr] at e k1 k2
  exact ⟨B, c', by rw [List.getElem?_eq_getElem hlt, e], k1.ext h.ext, k2, k3⟩
theorem RdRows.short {w : World} {A : Option Addr} {rs : List (List E)} (h : RdRows w A rs) {i : Nat} (hi : i < rs.length) : ∃ ad B c, A = some ad ∧ w.cell? (ad.add i) = some (.slice B (rs.getD i []).length c) ∧ Rd w B (bs (rs.getD i [])) ∧ (rs.getD i []).length ≤ c ∧ c ≤ maxLen := by
  have e : rs.getD i [] = rs[i] := by rw [List.getD_eq_getElem?_getD, List.getElem?_eq_getElem hi]; rfl
  rw [e]; exact h.at_ hi
theorem tyInts : Try.prog.underlying 31 = some (.slice (Try.prog.elem 31)) := by kernel_rfl
theorem oneInts : ∃ i, Try.prog.info? (Try.prog.elem 31) = some i ∧ i.size = 1 := by
  have h : (Try.prog.info? (Try.prog.elem 31)).map (·.size) = some 1 := by kernel_rfl
  cases hq : Try.prog.info? (Try.prog.elem 31) with
  | none => simp [hq] at h
  | some i => exact ⟨i, rfl, by simpa [hq] using h⟩
theorem RowsOut.mono {w : World} {B B' : Nat} {v : Value} {rs : List (List E)} (h : RowsOut w B v rs) (hB : B' ≤ B) : RowsOut w B' v rs := by
  obtain ⟨V, h1, h2, h3, h4⟩ := h
  exact ⟨V, h1.mono hB, h2, fun i u hi => (h3 i u hi).mono hB, h4⟩
def RebOut (k n L : Nat) (data : List (List E)) (w : World) (e : Ending) (w' : World) : Prop := (∃ v, e = .returned (.tuple #[v, .int .i64 0]) ∧ RowsOut w' w.heap.size v (encM k n L data)) ∧ Ext w w'
set_option maxHeartbeats 16000000 in
theorem rebuild_n (g k n L : Nat) (A : Option Addr) (ca : Nat) (rs data : List (List E)) (w : World) (hc : CodeAt w g k n) (hr : RdRows w A rs) (hp : Part k n L data rs) (hd : data.length = k) (hdl : ∀ r ∈ data, r.length = L) (hk0 : 0 < k) (hkn : k ≤ n) (hn2 : n ≤ 255) (hL0 : 0 < L) (hL : L ≤ 1000000000) (hen : k ≤ (presentL rs n).length) :
    Calls Try.prog 118 #[.pointer (some ⟨g, 0, none⟩), .slice A n ca] w (RebOut k n L data w) := by
  have hmo : Try.prog.follows Departure.mixedOrders = true := by kernel_rfl
  have HC := Lib.hid hc
  have HR := Lib.hid hr
  have HP := Lib.hid hp
  have HD := Lib.hid (And.intro hd hdl)
  have HEN := Lib.hid hen
  obtain ⟨CA, cc, hcb, hcr⟩ := hc.ex
  have k0 : w.cell? ⟨g, 0, none⟩ = some (.int .i64 (k : Int)) := hcb.cell 0
  have k1 : w.cell? ⟨g, 1, none⟩ = some (.int .i64 (n : Int)) := hcb.cell 1
  have HCB := Lib.hid (And.intro hcb hcr)
  have hnn : ((n : Int) != (n : Int)) = false := by simp
  clear hc hr hp hd hdl hen hcb hcr
  go_enter Try.func118, Try.ntmps118
  go_wp2_with fail
  refine (none_n g k n w hk0 HC.out).mono ?_
  rintro e w' ⟨rfl, rfl⟩
  go_wp2_with fail
  clear k0 k1
  go_loopw [6, 7, 25] (fun va vh i wr => ∃ (q : Nat) (va' vh' : Value) (V : List Value), va' = va ∧ vh' = vh ∧ q ≤ n ∧ i = .int .i64 q ∧ Have w wr va' vh' V (presentL rs q) rs) (fun _ _ i _ => n - (intOf i).toNat)
  case atStart => exact ⟨0, _, _, [], rfl, rfl, by omega, rfl, Ext.refl _, Own.nil _ _ _, Own.nil _ _ _, rfl, fun i u h => by simp at h⟩
  case round =>
    obtain ⟨W, rfl⟩ : ∃ W, W = wr := ⟨_, rfl⟩
    obtain ⟨q, va, vh, V, rfl, rfl, hq, rfl, hH⟩ := hrel
    by_cases hlt : q < n
    · have hqr : q < rs.length := by rw [HP.out.1]; exact hlt
      obtain ⟨ad, B, cB, rfl, hc1, hr1, hb1, hb2⟩ := HR.out.short hqr
      obtain ⟨row, hrow⟩ : ∃ r, r = rs.getD q [] := ⟨_, rfl⟩
      obtain ⟨m, hm⟩ : ∃ m, m = row.length := ⟨_, rfl⟩
      rw [← hrow, ← hm] at hc1
      rw [← hrow] at hr1 hb1
      have c1 : W.cell? (ad.add q) = some (.slice B m cB) := (hH.ext.cell (World.block_lt_of_cell? _ _ hc1)).trans hc1
      obtain ⟨Aa, na, ca', rfl⟩ : ∃ A n c, va = Value.slice A n c := by obtain ⟨A, c, h⟩ := hH.ats.anySlice; exact ⟨_, _, _, h⟩
      obtain ⟨Ah, nh, ch, rfl⟩ : ∃ A n c, vh = Value.slice A n c := by obtain ⟨A, c, h⟩ := hH.list.anySlice; exact ⟨_, _, _, h⟩
      have HH := Lib.hid hH
      have HRW := Lib.hid (And.intro hr1 (And.intro hb1 hb2))
      have HROW := Lib.hid (And.intro hrow hm)
      clear hH hr1 hb1 hb2 hrow hm hc1
      by_cases hm0 : 0 < m
      · have hpl : presentL rs (q + 1) = presentL rs q ++ [q] := presentL_yes (by rw [← HROW.out.1, ← HROW.out.2]; exact hm0)
        have HPL := Lib.hid hpl
        have hle : w.heap.size ≤ W.heap.size := HH.out.ext.le
        have hplen : (presentL rs q).length ≤ q := by
          have := List.length_filter_le (fun i => decide (0 < (rs.getD i []).length)) (List.range q)
          rwa [List.length_range] at this
        have hbd1 : ((ints (presentL rs q)).length + 1) * 8 ≤ 140737488355328 := by rw [ints_length]; omega
        have HPLN := Lib.hid hplen
        clear hpl hplen
        go_wp2_with (at_builtin; refine wpList_push2 W eltInt rfl _ _ (by rfl) w.heap.size (.slice Aa na ca') _ (by rfl) (by exact HH.out.ats) (.int .i64 (q : Int)) W.heap.size rfl (by rfl) rfl hbd1 hle ?_)
        intro v2 W2 a1 a2 a3 a4
        have hl2 : Own W2 w.heap.size 24 (.slice Ah nh ch) V := by
          have h1 := HH.out.list.alloc (.cells #[.int .i64 (q : Int)] 3)
          exact h1.kept a2.grown (h1.types (HH.out.ats.alloc _) (by decide))
        have hx2 : Ext w W2 := HH.out.ext.below.trans a3
        have hle2 := hx2.le
        have hbd2 : (V.length + 1) * 24 ≤ 140737488355328 := by rw [HH.out.len]; have := HPLN.out; omega
        obtain ⟨Ab, nb, cb, rfl⟩ : ∃ A n c, v2 = Value.slice A n c := by obtain ⟨A, c, h⟩ := a1.anySlice; exact ⟨_, _, _, h⟩
        have HA1 := Lib.hid a1
        have HX2 := Lib.hid hx2
        clear a1 a2 a3 a4 hle hbd1 hx2 c1
        go_wp2_with (at_builtin; refine wpList_push2 W2 eltRowU8 rfl _ _ (by rfl) w.heap.size (.slice Ah nh ch) _ (by rfl) (by exact hl2) (.slice B m cB) W2.heap.size rfl (by rfl) rfl hbd2 hle2 ?_)
        intro v3 W3 b1 b2 b3 b4
        have HN : Hid (Have w W3 (.slice Ab nb cb) v3 (V ++ [.slice B m cB]) (presentL rs (q + 1)) rs) := Lib.hid (by
          have ha3 : Own W3 w.heap.size 3 (.slice Ab nb cb) (ints (presentL rs q) ++ [.int .i64 (q : Int)]) := by
            have h1 := HA1.out.alloc (.cells #[.slice B m cB] 24)
            exact h1.kept b2.grown (h1.types (hl2.alloc _) (by decide))
          refine ⟨HX2.out.below.trans b3, ?_, b1, by rw [HPL.out]; simp [HH.out.len], fun i u hu => ?_⟩
          · rw [HPL.out, ints_snoc]; exact ha3
          · have hsn : rowsAt (presentL rs (q + 1)) rs = rowsAt (presentL rs q) rs ++ [row] := by
              rw [HPL.out, rowsAt, List.map_append, rowsAt]
              simp only [List.map_cons, List.map_nil]
              rw [← HROW.out.1]
            rw [hsn]
            rcases Nat.lt_trichotomy i V.length with h1 | h1 | h1
            · rw [List.getElem?_append_left h1] at hu
              have e : (rowsAt (presentL rs q) rs ++ [row]).getD i [] = (rowsAt (presentL rs q) rs).getD i [] := by
                rw [List.getD_eq_getElem?_getD, List.getElem?_append_left (by rw [rowsAt_length, ← HH.out.len]; exact h1), ← List.getD_eq_getElem?_getD]
              rw [e]
              exact HH.out.rows i u hu
            · subst h1
              rw [List.getElem?_append_right (Nat.le_refl _)] at hu
              simp at hu
              subst hu
              have e : (rowsAt (presentL rs q) rs ++ [row]).getD V.length [] = row := by
                rw [List.getD_eq_getElem?_getD, List.getElem?_append_right (by rw [rowsAt_length, ← HH.out.len]; exact Nat.le_refl _)]
                simp [rowsAt_length, HH.out.len]
              rw [e]
              exact ⟨B, cB, by rw [HROW.out.2], HRW.out.1, HRW.out.2.1, HRW.out.2.2⟩
            · rw [List.getElem?_eq_none (by simp; omega)] at hu; cases hu)
        clear b1 b2 b3 b4 hl2 hle2 hbd2
        go_wp2_with fail
        go_roundw
        case rel => exact ⟨q + 1, _, _, _, rfl, rfl, by omega, by go_num, HN.out⟩
        case measure => simp [intOf]; omega
      · have HN : Hid (Have w W (.slice Aa na ca') (.slice Ah nh ch) V (presentL rs (q + 1)) rs) := Lib.hid (by
          rw [presentL_no (by rw [← HROW.out.1, ← HROW.out.2]; exact hm0)]; exact HH.out)
        go_wp2_with fail
        go_roundw
        case rel => exact ⟨q + 1, _, _, _, rfl, rfl, by omega, by go_num, HN.out⟩
        case measure => simp [intOf]; omega
    · obtain rfl : q = n := by omega
      obtain ⟨Ah, ch, rfl, hrh, hch, hcm⟩ := hH.rd
      obtain ⟨at_, hat⟩ : ∃ l, l = presentL rs q := ⟨_, rfl⟩
      obtain ⟨m, hm⟩ : ∃ m, m = at_.length := ⟨_, rfl⟩
      have hats := hH.ats.slice
      rw [← hat] at hrh hch hats ⊢
      rw [← hm] at hch ⊢
      obtain ⟨Aa, ca', rfl, hra, hca, -, -⟩ := hats
      rw [ints_length, ← hm] at hca ⊢
      have hkm : k ≤ m := by rw [hm, hat]; exact HEN.out
      have HAT := Lib.hid (And.intro hat hm)
      have HRA := Lib.hid (And.intro hra (And.intro hrh hH.ext))
      have HLEN : Hid (∀ r ∈ rowsAt at_ rs, r.length = L) := Lib.hid (by rw [hat]; exact HP.out.len)
      have k0 : W.cell? ⟨g, 0, none⟩ = some (.int .i64 (k : Int)) := ((HCB.out.1.below hH.ext HCB.out.1.lt)).cell 0
      have k2 : W.cell? ⟨g, 2, none⟩ = some (.slice CA q cc) := ((HCB.out.1.below hH.ext HCB.out.1.lt)).cell 2
      have hm2 : m ≤ q := by
        rw [hm, hat]
        have := List.length_filter_le (fun i => decide (0 < (rs.getD i []).length)) (List.range q)
        rwa [List.length_range] at this
      clear hat hm hra hrh hH hlt hq
      go_wp2_with fail
      refine (even_n Ah m ch L (rowsAt at_ rs) W (by rw [rowsAt_length]; exact HAT.out.2.symm) HRA.out.2.1 HLEN.out (by omega)).mono ?_
      rintro e w' ⟨rfl, rfl⟩
      have hdk : decide ((m : Int) < (k : Int)) = false := decide_eq_false (by omega)
      go_wp2_with fail
      obtain ⟨kp, hkp⟩ : ∃ kp, kp = k - 1 := ⟨_, rfl⟩
      have hk1 : IntKind.i64.wrap ((k : Int) - 1) = (kp : Int) := by rw [IntKind.wrap_i64]; omega
      have hkpm : kp < at_.length := by rw [← HAT.out.2]; omega
      obtain ⟨x, hx⟩ : ∃ x, x = at_[kp] := ⟨_, rfl⟩
      have hint : (ints at_)[kp]? = some (.int .i64 (x : Int)) := by rw [ints_at, List.getElem?_eq_getElem hkpm, hx]; rfl
      obtain ⟨da, rfl, hca1⟩ := HRA.out.1.at_ hint
      have l0 := World.block_lt_of_cell? _ _ k0
      have l2 := World.block_lt_of_cell? _ _ k2
      have la := World.block_lt_of_cell? _ _ hca1
      have j0 := fun w' (hx : Ext W w') => (hx.cell l0).trans k0
      have j2 := fun w' (hx : Ext W w') => (hx.cell l2).trans k2
      have ja := fun w' (hx : Ext W w') => (hx.cell la).trans hca1
      have hkm2 : (kp : Int) < (m : Int) := by omega
      obtain ⟨r, hr⟩ : ∃ r, r = ((x : Int) == (kp : Int)) := ⟨_, rfl⟩
      obtain ⟨W1, hW1⟩ : ∃ W1, W1 = W.drew := ⟨_, rfl⟩
      have hx1 : Ext W W1 := by rw [hW1]; exact (Ext.refl W).drewN 1
      have HXK : Hid (at_[kp]? = some x ∧ kp = k - 1) := Lib.hid ⟨by rw [List.getElem?_eq_getElem hkpm, hx], hkp⟩
      clear hx hkp hint
      refine wp_region_mix (fun i => [3, 3, 3, 3, 0, 3, 3, 0, 3, 3, 3, 0, 3, 3].getD i 0) (fun w' => Ext W w') hmo (by kernel_rfl) (by kernel_rfl) ((Ext.refl _).drewN 1) ?_
      rw [← hW1]
      clear hW1
      refine mix_pure (.slice (some da) m ca') rfl (fun w' => by go_simp) ?_
      refine mix_pure (.pointer (some ⟨g, 0, none⟩)) rfl (fun w' => by go_simp) ?_
      refine mix_pure (.pointer (some ⟨g, 0, none⟩)) rfl (fun w' => by go_simp) ?_
      refine mix_pure (.pointer (some ⟨g, 0, none⟩)) rfl (fun w' => by go_simp) ?_
      refine mix_still (.int .i64 (k : Int)) rfl (fun w' hw' => by have := j0 w' hw'; go_simp) ?_
      refine mix_pure (.int .i64 (kp : Int)) rfl (fun w' => by go_simp) ?_
      refine mix_pure (.pointer (some (da.add kp))) rfl (fun w' => by go_simp) ?_
      refine mix_still (.int .i64 (x : Int)) rfl (fun w' hw' => by have := ja w' hw'; go_simp) ?_
      refine mix_pure (.pointer (some ⟨g, 0, none⟩)) rfl (fun w' => by go_simp) ?_
      refine mix_pure (.pointer (some ⟨g, 0, none⟩)) rfl (fun w' => by go_simp) ?_
      refine mix_pure (.pointer (some ⟨g, 0, none⟩)) rfl (fun w' => by go_simp) ?_
      refine mix_still (.int .i64 (k : Int)) rfl (fun w' hw' => by have := j0 w' hw'; go_simp) ?_
      refine mix_pure (.int .i64 (kp : Int)) rfl (fun w' => by go_simp) ?_
      refine mix_pure (.bool r) rfl (fun w' => by rw [hr]; go_simp) ?_
      refine mix_nil ?_
      have HRR := Lib.hid hr
      have hslR := fun w => slice_h tyRows oneRows Ah m ch k .i64 (k : Int) rfl (Nat.le_trans hkm hch) w
      have hslI := fun w => slice_h tyInts oneInts (some da) m ca' k .i64 (k : Int) rfl (Nat.le_trans hkm hca) w
      have HX1 := Lib.hid hx1
      have HRT : Hid (RdRows W Ah (rowsAt (at_.take k) rs) ∧ (rowsAt (at_.take k) rs).length = k ∧ ∀ r ∈ rowsAt (at_.take k) rs, r.length = L) := Lib.hid (by
        have e : rowsAt (at_.take k) rs = (rowsAt at_ rs).take k := by rw [rowsAt, rowsAt, List.map_take]
        refine ⟨by rw [e]; exact HRA.out.2.1.take k, by rw [rowsAt_length, List.length_take, ← HAT.out.2]; omega, fun r hr => HLEN.out r ?_⟩
        rw [e] at hr
        exact List.mem_of_mem_take hr)
      clear hr k0 k2 hca1 l0 l2 la hk1 hkm2 hdk ja hx1
      cases r with
      | true =>
        have HDT : Hid (rowsAt (at_.take k) rs = data) := Lib.hid (by
          have e1 : x = kp := by have := HRR.out; rw [eq_comm, beq_iff_eq] at this; omega
          rw [HAT.out.1]
          refine HP.out.first (by omega) hkn HD.out.1 HD.out.2 hk0 HEN.out ?_
          have h1 := HXK.out.1
          rw [HAT.out.1, e1, HXK.out.2] at h1
          exact (List.getElem?_eq_some_iff.1 h1).2)
        go_simp
        go_wp2_with fail
        have hxd : Ext W W1.drew := HX1.out.trans ((Ext.refl W1).drewN 1)
        refine wp_region_mix (fun i => [3, 3, 3, 0, 3, 3, 3, 3, 0, 3, 1, 3, 3].getD i 0) (fun w' => Ext W w') hmo (by kernel_rfl) (by kernel_rfl) hxd ?_
        refine mix_pure (.pointer (some ⟨g, 0, none⟩)) rfl (fun w' => by go_simp) ?_
        refine mix_pure (.pointer (some ⟨g, 0, none⟩)) rfl (fun w' => by go_simp) ?_
        refine mix_pure (.pointer (some ⟨g, 2, none⟩)) rfl (fun w' => by go_simp) ?_
        refine mix_still (.slice CA q cc) rfl (fun w' hw' => by have := j2 w' hw'; go_simp) ?_
        refine mix_pure (.slice Ah m ch) rfl (fun w' => by go_simp) ?_
        refine mix_pure (.pointer (some ⟨g, 0, none⟩)) rfl (fun w' => by go_simp) ?_
        refine mix_pure (.pointer (some ⟨g, 0, none⟩)) rfl (fun w' => by go_simp) ?_
        refine mix_pure (.pointer (some ⟨g, 0, none⟩)) rfl (fun w' => by go_simp) ?_
        refine mix_still (.int .i64 (k : Int)) rfl (fun w' hw' => by have := j0 w' hw'; go_simp) ?_
        refine mix_pure (.slice Ah k ch) rfl (fun w' => by have := hslR w'; go_simp) ?_
        refine mix_call 172 #[.slice CA q cc, .slice Ah k ch] rfl (by go_simp) ?_
        refine (product_n CA Ah q k cc ch L (codeR k q) (rowsAt (at_.take k) rs) _ (codeR_length k q) HRT.out.2.1 (HCB.out.2.ext (HRA.out.2.2.trans hxd)) (HRT.out.1.ext hxd) codeR_rows HRT.out.2.2 hk0 hL0 hn2 (by omega) hL).mono ?_
        rintro e w2 ⟨v, rfl, hv, hx2⟩
        refine ⟨_, rfl, hxd.trans hx2, ?_⟩
        have hw2 : Ext w w2 := HRA.out.2.2.trans (hxd.trans hx2)
        have hvo : RowsOut w2 w.heap.size v (encM k q L data) := by
          have h1 : RowsOut w2 W1.drew.heap.size v (encM k q L data) := by
            have e : encM k q L data = prodM (codeR k q) (rowsAt (at_.take k) rs) L := by rw [HDT.out]; rfl
            rw [e]; exact hv
          exact h1.mono (HRA.out.2.2.trans hxd).le
        have HV := Lib.hid (And.intro hvo hw2)
        clear hv hx2 hxd hvo hw2
        refine mix_pure v rfl (fun w' => by go_simp) ?_
        refine mix_pure (.int .i64 0) rfl (fun w' => by go_simp) ?_
        refine mix_nil ?_
        clear j0 j2 hslR hslI
        go_simp
        go_wp2_with fail
        go_ret2
        exact ⟨⟨v, rfl, HV.out.1⟩, HV.out.2⟩
      | false =>
        go_simp
        go_wp2_with fail
        have hxd : Ext W W1.drew := HX1.out.trans ((Ext.refl W1).drewN 1)
        refine wp_region_mix (fun i => [3, 3, 3, 0, 3, 3, 3, 3, 0, 3, 1, 3, 3, 3, 3, 3].getD i 0) (fun w' => Ext W w') hmo (by kernel_rfl) (by kernel_rfl) hxd ?_
        refine mix_pure (.pointer (some ⟨g, 0, none⟩)) rfl (fun w' => by go_simp) ?_
        refine mix_pure (.pointer (some ⟨g, 0, none⟩)) rfl (fun w' => by go_simp) ?_
        refine mix_pure (.pointer (some ⟨g, 2, none⟩)) rfl (fun w' => by go_simp) ?_
        refine mix_still (.slice CA q cc) rfl (fun w' hw' => by have := j2 w' hw'; go_simp) ?_
        refine mix_pure (.slice (some da) m ca') rfl (fun w' => by go_simp) ?_
        refine mix_pure (.pointer (some ⟨g, 0, none⟩)) rfl (fun w' => by go_simp) ?_
        refine mix_pure (.pointer (some ⟨g, 0, none⟩)) rfl (fun w' => by go_simp) ?_
        refine mix_pure (.pointer (some ⟨g, 0, none⟩)) rfl (fun w' => by go_simp) ?_
        refine mix_still (.int .i64 (k : Int)) rfl (fun w' hw' => by have := j0 w' hw'; go_simp) ?_
        refine mix_pure (.slice (some da) k ca') rfl (fun w' => by have := hslI w'; go_simp) ?_
        refine mix_call 173 #[.slice CA q cc, .slice (some da) k ca'] rfl (by go_simp) ?_
        have hal : (at_.take k).length = k := by rw [List.length_take, ← HAT.out.2]; omega
        have hmem : ∀ i ∈ at_.take k, i < q := fun i hi => (presentL_mem (by rw [← HAT.out.1]; exact List.mem_of_mem_take hi)).1
        have hInt : Rd W1.drew (some da) (ints (at_.take k)) := by
          have := (HRA.out.1.take k).ext hxd
          rwa [show (ints at_).take k = ints (at_.take k) from by rw [ints, ints, List.map_take]] at this
        refine (rows_n CA (some da) q k cc ca' k (codeR k q) (at_.take k) _ (codeR_length k q) (HCB.out.2.ext (HRA.out.2.2.trans hxd)) codeR_rows hal hInt hmem hn2 (by omega) (by omega)).mono ?_
        rintro e w2 ⟨⟨A2, c2, rfl, hr2⟩, hx2⟩
        refine ⟨_, rfl, hxd.trans hx2, ?_⟩
        have HX2 := Lib.hid (hxd.trans hx2)
        have HR2 := Lib.hid hr2
        have HAL := Lib.hid (And.intro hal hmem)
        clear hx2 hxd hr2 hal hmem hInt
        refine mix_pure (.tuple #[.slice A2 k c2, .int .i64 0]) rfl (fun w' => by go_simp) ?_
        refine mix_pure (.slice A2 k c2) rfl (fun w' => by go_simp) ?_
        refine mix_pure (.int .i64 0) rfl (fun w' => by go_simp) ?_
        refine mix_pure (.slice A2 k c2) rfl (fun w' => by go_simp) ?_
        refine mix_pure (.int .i64 0) rfl (fun w' => by go_simp) ?_
        refine mix_nil ?_
        go_simp
        go_wp2_with fail
        have hrl : ∀ r ∈ rowsAt (at_.take k) (codeR k q), r.length = k := fun r hr => by
          obtain ⟨i, hi, rfl⟩ := List.mem_map.1 hr
          rw [codeR_getD (HAL.out.2 i hi), wrow_length]
        refine (minverse_n A2 k c2 (rowsAt (at_.take k) (codeR k q)) w2 (by rw [rowsAt_length]; exact HAL.out.1) HR2.out hrl hk0 (by omega) (code_start HAL.out.1 ((presentL_nodup rs q).sublist (by rw [← HAT.out.1]; exact List.take_sublist _ _)) HAL.out.2 hn2 (by omega))).mono ?_
        rintro e w3 ⟨⟨A3, c3, bk, rfl, hr3, hinv⟩, hx3⟩
        have HX3 := Lib.hid (HX2.out.trans hx3)
        have HINV : Hid (RdRows w3 A3 bk ∧ Inv k (rowsAt (at_.take k) (codeR k q)) bk) := Lib.hid ⟨hr3, hinv⟩
        clear hx3 hr3 hinv hrl
        go_wp2_with fail
        have hxd3 : Ext W w3.drew := HX3.out.trans ((Ext.refl w3).drewN 1)
        refine wp_region_mix (fun i => [3, 3, 3, 0, 3, 3, 3, 3, 3, 0, 3, 1, 1, 3, 3].getD i 0) (fun w' => Ext W w') hmo (by kernel_rfl) (by kernel_rfl) hxd3 ?_
        refine mix_pure (.pointer (some ⟨g, 0, none⟩)) rfl (fun w' => by go_simp) ?_
        refine mix_pure (.pointer (some ⟨g, 0, none⟩)) rfl (fun w' => by go_simp) ?_
        refine mix_pure (.pointer (some ⟨g, 2, none⟩)) rfl (fun w' => by go_simp) ?_
        refine mix_still (.slice CA q cc) rfl (fun w' hw' => by have := j2 w' hw'; go_simp) ?_
        refine mix_pure (.slice A3 k c3) rfl (fun w' => by go_simp) ?_
        refine mix_pure (.slice Ah m ch) rfl (fun w' => by go_simp) ?_
        refine mix_pure (.pointer (some ⟨g, 0, none⟩)) rfl (fun w' => by go_simp) ?_
        refine mix_pure (.pointer (some ⟨g, 0, none⟩)) rfl (fun w' => by go_simp) ?_
        refine mix_pure (.pointer (some ⟨g, 0, none⟩)) rfl (fun w' => by go_simp) ?_
        refine mix_still (.int .i64 (k : Int)) rfl (fun w' hw' => by have := j0 w' hw'; go_simp) ?_
        refine mix_pure (.slice Ah k ch) rfl (fun w' => by have := hslR w'; go_simp) ?_
        refine mix_call 172 #[.slice A3 k c3, .slice Ah k ch] rfl (by go_simp) ?_
        refine (product_n A3 Ah k k c3 ch L bk (rowsAt (at_.take k) rs) _ HINV.out.2.1 HRT.out.2.1 (HINV.out.1.ext ((Ext.refl w3).drewN 1)) (HRT.out.1.ext hxd3) HINV.out.2.2.1 HRT.out.2.2 hk0 hL0 (by omega) (by omega) hL).mono ?_
        rintro e w4 ⟨v4, rfl, hv4, hx4⟩
        have HDT : Hid (prodM bk (rowsAt (at_.take k) rs) L = data) := Lib.hid (by
          have h1 := HINV.out.2
          rw [HAT.out.1] at h1 ⊢
          exact HP.out.back HD.out.1 HD.out.2 HEN.out h1)
        rw [HDT.out] at hv4
        obtain ⟨A4, c4, rfl, hr4, -, -⟩ := hv4.rd
        rw [HD.out.1]
        refine ⟨_, rfl, hxd3.trans hx4, ?_⟩
        refine mix_call 172 #[.slice CA q cc, .slice A4 k c4] rfl (by go_simp) ?_
        refine (product_n CA A4 q k cc c4 L (codeR k q) data _ (codeR_length k q) HD.out.1 (HCB.out.2.ext (HRA.out.2.2.trans (hxd3.trans hx4))) hr4 codeR_rows HD.out.2 hk0 hL0 hn2 (by omega) hL).mono ?_
        rintro e w5 ⟨v5, rfl, hv5, hx5⟩
        refine ⟨_, rfl, (hxd3.trans hx4).trans hx5, ?_⟩
        have hw5 : Ext w w5 := HRA.out.2.2.trans ((hxd3.trans hx4).trans hx5)
        have hvo : RowsOut w5 w.heap.size v5 (encM k q L data) := by
          have h1 : RowsOut w5 w4.heap.size v5 (encM k q L data) := hv5
          exact h1.mono (HRA.out.2.2.trans (hxd3.trans hx4)).le
        have HV := Lib.hid (And.intro hvo hw5)
        clear hv4 hv5 hx4 hx5 hxd3 hvo hw5 hr4
        refine mix_pure v5 rfl (fun w' => by go_simp) ?_
        refine mix_pure (.int .i64 0) rfl (fun w' => by go_simp) ?_
        refine mix_nil ?_
        clear j0 j2 hslR hslI
        go_simp
        go_wp2_with fail
        go_ret2
        exact ⟨⟨v5, rfl, HV.out.1⟩, HV.out.2⟩
end Go.Proofs.Ytdoeelfcihdmbaa
