/-
  The walks of layer 5: there, near, Column.
-/
import Derived.Test.YtemnlcfabaocbaaCol0
import Derived.Test.YtemnlcfabaocbaaPoly6
import Derived.Test.YtemnlcfabaocbaaPoly7
namespace Go.Proofs.Ytemnlcfabaocbaa
open Go.RowKit Gf
set_option maxRecDepth 20000
set_option linter.unusedVariables false

theorem there_n (A : Option Addr) (n cap : Nat) (lost : List Bool) (w : World) (hn : lost.length = n) (hr : Rd w A (bools lost)) (hlen : n ≤ 1000000000000) :
    Calls Try.prog 105 #[.slice A n cap] w fun e w' => ∃ v, e = .returned v ∧ Own w' w.heap.size 3 v (ints (thereL lost)) ∧ Ext w w' := by
  have HN := Lib.hid hn
  clear hn
  go_enter Try.func105, Try.ntmps105
  go_wp2_with fail
  go_loopw [3, 8] (fun v i wr => ∃ (k : Nat) (V : Value), V = v ∧ k ≤ n ∧ i = .int .i64 k ∧ Ext w wr ∧ Own wr w.heap.size 3 V (ints (thereTo lost k))) (fun _ i _ => n - (intOf i).toNat)
  case atStart => exact ⟨0, _, rfl, by omega, rfl, Ext.refl _, Own.nil _ _ _⟩
  case round =>
    obtain ⟨k, V, rfl, hk, rfl, hx, ho⟩ := hrel
    by_cases hlt : k < n
    · have hkl : k < lost.length := by rw [HN.out]; exact hlt
      obtain ⟨ad, rfl, hc⟩ := (hr.ext hx).at_ (bools_get lost k hkl)
      have hle := hx.le
      have hbd : ((ints (thereTo lost k)).length + 1) * 8 ≤ 140737488355328 := by rw [ints_length]; have := thereTo_le lost k; omega
      cases hb : lost[k] with
      | false =>
        rw [hb] at hc
        have HT := Lib.hid (thereTo_yes hkl hb)
        clear hb
        go_wp2_with (at_builtin; refine wpList_push wr eltInt rfl _ _ (by rfl) w.heap.size V _ (by rfl) (by exact ho) (.int .i64 k) (by rfl) rfl hbd hle ?_; intro v' w' ho' _ hb' _)
        go_roundw
        case rel => exact ⟨k + 1, _, rfl, by omega, by go_num, Below.trans hx hb', by rw [HT.out, ints_snoc]; exact ho'⟩
        case measure => simp [intOf]; omega
      | true =>
        rw [hb] at hc
        have HT := Lib.hid (thereTo_no hkl hb)
        clear hb
        go_wp2_with fail
        go_roundw
        case rel => exact ⟨k + 1, _, rfl, by omega, by go_num, hx, by rw [HT.out]; exact ho⟩
        case measure => simp [intOf]; omega
    · obtain rfl : n = k := by omega
      go_wp2
      go_ret
      exact ⟨_, rfl, by rw [thereL, HN.out]; exact ho, hx⟩

/-- What near answers. -/
def NearOut (k : Nat) (xs ys : List E) (B : Nat) (e : Ending) (w' : World) : Prop :=
  (∃ v p, e = .returned (.tuple #[v, .bool true]) ∧ NearOK k xs ys p ∧ p.length ≤ k ∧ Own w' B 34 v (bs p)) ∨ (∃ v, e = .returned (.tuple #[v, .bool false]) ∧ ∀ p, ¬ NearOK k xs ys p)
/-- A row that is being filled. -/
structure Filling (w : World) (g n : Nat) (T : TypeId) (l : List E) (j : Nat) : Prop where
  blk : ∃ cs, Blk w g T cs ∧ cs.size = n ∧ cs.toList.take j = bs (l.take j)
theorem Filling.start {w : World} {g n : Nat} {T : TypeId} {cs : Array Value} (l : List E) (h : Blk w g T cs) (hs : cs.size = n) : Filling w g n T l 0 := ⟨cs, h, hs, by simp [bs]⟩
theorem Filling.frozen {w : World} {g n j : Nat} {T : TypeId} {l : List E} (h : Filling w g n T l j) (i : Nat) : w.frozen? ⟨g, i, none⟩ = false := by obtain ⟨cs, hb, _⟩ := h.blk; exact hb.frozen i
theorem Filling.some_ {w : World} {g n j : Nat} {T : TypeId} {l : List E} (h : Filling w g n T l j) {i : Nat} (hi : i < n) : ∃ u, w.cell? ⟨g, i, none⟩ = some u := by
  obtain ⟨cs, hb, hs, _⟩ := h.blk
  exact ⟨cs[i], by rw [hb.cell i]; exact Array.getElem?_eq_getElem (by omega)⟩
theorem Filling.step {w : World} {g n j : Nat} {T : TypeId} {l : List E} (h : Filling w g n T l j) (hj : j < l.length) (hn : j < n) : Filling (w.setCell ⟨g, j, none⟩ (bv l[j])) g n T l (j + 1) := by
  obtain ⟨cs, hb, hs, ht⟩ := h.blk
  refine ⟨_, hb.set_ j _, by simpa using hs, ?_⟩
  rw [set_take _ (by omega) ht, take_snoc' l j hj, bs_append]
  rfl
theorem Filling.far {w : World} {g n j : Nat} {T : TypeId} {l : List E} (h : Filling w g n T l j) {p : Addr} (hp : g ≠ p.block) (u : Value) : Filling (w.setCell p u) g n T l j := by
  obtain ⟨cs, hb, hs, ht⟩ := h.blk
  exact ⟨cs, hb.far hp u, hs, ht⟩
theorem Filling.ext {w w' : World} {g n j : Nat} {T : TypeId} {l : List E} (h : Filling w g n T l j) (hx : Ext w w') : Filling w' g n T l j := by
  obtain ⟨cs, hb, hs, ht⟩ := h.blk
  exact ⟨cs, hb.below hx hb.lt, hs, ht⟩
theorem Filling.done {w : World} {g n B : Nat} {T : TypeId} {l : List E} (h : Filling w g n T l n) (hl : l.length = n) (hB : B ≤ g) (hm : n ≤ maxLen) : Own w B T (.slice (some ⟨g, 0, none⟩) n n) (bs l) := by
  obtain ⟨cs, hb, hs, ht⟩ := h.blk
  have := hb.own (B := B) (n := n) (cap := n) hB (Nat.le_refl _) hm hs
  subst hl
  rwa [ht, List.take_length] at this
set_option maxHeartbeats 4000000 in
theorem near_n (A C : Option Addr) (n N ca cc : Nat) (k : Nat) (word : List E) (at_ : List Nat) (w : World) (hn : word.length = n) (hN : at_.length = N) (hr : Rd w A (bs word)) (hs : Rd w C (ints at_)) (hb : ∀ i ∈ at_, i < n) (hnd : at_.Nodup) (hn2 : n ≤ 255) (hk : 1 ≤ k) (hkN : k ≤ N) (hN2 : N ≤ 255) :
    Calls Try.prog 106 #[.int .i64 (k : Int), .slice A n ca, .slice C N cc] w fun e w' => NearOut k (ptsL at_) (valsL word at_) w.heap.size e w' ∧ Ext w w' := by
  have HN := Lib.hid hn
  have HNN := Lib.hid hN
  have HB := Lib.hid hb
  have HND := Lib.hid (pts_nodup hnd fun i hi => by have := hb i hi; omega)
  have HP := Lib.hid (pts_length at_)
  have HV := Lib.hid (vals_length word at_)
  have hmk := make_elems N (by omega)
  have hz := Lib.hid (zrow_size (.int .u8 0) N)
  clear hn hN hb hnd
  go_enter Try.func106, Try.ntmps106
  go_wp2_with fail
  obtain ⟨w0, hw0⟩ : ∃ w0, w0 = (w.alloc (.cells (zrow (.int .u8 0) N) 34)).alloc (.cells (zrow (.int .u8 0) N) 34) := ⟨_, rfl⟩
  have hx0 : Ext w w0 := by rw [hw0]; exact ((Ext.refl w).alloc _).alloc _
  have hf1 : Filling w0 w.heap.size N 34 (ptsL at_) 0 := by rw [hw0]; exact Filling.start _ ((Blk.new _ _ _).alloc _) hz.out
  have hf2 : Filling w0 (w.heap.size + 1) N 34 (valsL word at_) 0 := by
    rw [hw0]
    refine Filling.start _ ?_ hz.out
    have := Blk.new (w.alloc (.cells (zrow (.int .u8 0) N) 34)) 34 (zrow (.int .u8 0) N)
    rwa [World.size_alloc] at this
  have H0 := Lib.hid (And.intro hx0 (And.intro hf1 hf2))
  rw [← hw0]
  clear hw0 hx0 hf1 hf2
  go_loopw [27] (fun i wr => ∃ j : Nat, j ≤ N ∧ i = .int .i64 j ∧ Ext w wr ∧ Filling wr w.heap.size N 34 (ptsL at_) j ∧ Filling wr (w.heap.size + 1) N 34 (valsL word at_) j) (fun i _ => N - (intOf i).toNat)
  case atStart => exact ⟨0, by omega, rfl, H0.out.1, H0.out.2.1, H0.out.2.2⟩
  case round =>
    obtain ⟨j, hj, rfl, hx, hf, hg⟩ := hrel
    clear H0
    by_cases hlt : j < N
    · have hja : j < at_.length := by rw [HNN.out]; exact hlt
      obtain ⟨ad, rfl, hc⟩ := (hs.ext hx).at_ (ints_get at_ j hja)
      have hib := HB.out at_[j] (List.getElem_mem hja)
      obtain ⟨i, hi⟩ : ∃ i, at_[j] = i := ⟨_, rfl⟩
      have e1 : (ptsL at_)[j]'(by rw [pts_length]; exact hja) = E.of i := by simp [ptsL, hi]
      have hiw : i < word.length := by rw [HN.out, ← hi]; exact hib
      have e2 : (valsL word at_)[j]'(by rw [vals_length]; exact hja) = word[i] := by simp [valsL, hi, List.getD_eq_getElem?_getD, hiw]
      rw [hi] at hc hib
      obtain ⟨bd, rfl, hc2⟩ := (hr.ext hx).byte hiw
      have f1 := hf.frozen j
      obtain ⟨u1, hu1⟩ := hf.some_ hlt
      have h1 := hf.step (by rw [pts_length]; exact hja) hlt
      rw [e1] at h1
      have hev : bv (E.of i) = .int .u8 (i : Int) := by rw [bv, E.val_of (by omega)]
      rw [hev] at h1
      have hg1 := hg.far (p := ⟨w.heap.size, j, none⟩) (show w.heap.size + 1 ≠ w.heap.size by omega) (.int .u8 (i : Int))
      have f2 := hg1.frozen j
      obtain ⟨u2, hu2⟩ := hg1.some_ hlt
      have h2 := hg1.step (by rw [vals_length]; exact hja) hlt
      rw [e2] at h2
      have h1' := h1.far (p := ⟨w.heap.size + 1, j, none⟩) (show w.heap.size ≠ w.heap.size + 1 by omega) (bv word[i])
      have hx2 := (hx.new (p := ⟨w.heap.size, j, none⟩) (Nat.le_refl _) (.int .u8 (i : Int))).new (p := ⟨w.heap.size + 1, j, none⟩) (Nat.le_succ _) (bv word[i])
      have HH := Lib.hid (And.intro hx2 (And.intro h1' h2))
      rw [bv] at HH
      have hwl := (word[i]).lt
      have hcr : (wr.setCell ⟨w.heap.size, j, none⟩ (.int .u8 (i : Int))).cell? (bd.add i) = some (.int .u8 ((word[i]).val : Int)) := by
        obtain ⟨bd', e', hc'⟩ := (hr.ext (hx.new (p := ⟨w.heap.size, j, none⟩) (Nat.le_refl _) (.int .u8 (i : Int)))).byte hiw
        injection e' with e'
        subst e'
        exact hc'
      clear hx hf hg h1 hg1 h2 h1' hx2 hev e1 e2 hi
      go_wp2_with fail
      go_roundw
      case rel => exact ⟨j + 1, by omega, by go_num, HH.out.1, HH.out.2.1, HH.out.2.2⟩
      case measure => simp [intOf]; omega
    · obtain rfl : N = j := by omega
      have hp := hf.done (B := w.heap.size) (by rw [HP.out, HNN.out]) (Nat.le_refl _) (by simp only [maxLen]; omega)
      have hv := hg.done (B := w.heap.size) (by rw [HV.out, HNN.out]) (Nat.le_succ _) (by simp only [maxLen]; omega)
      have HPO := Lib.hid hp
      have HVO := Lib.hid hv
      have HX := Lib.hid hx
      have hpl : (ptsL at_).length = N := by rw [HP.out, HNN.out]
      have hvl : (valsL word at_).length = N := by rw [HV.out, HNN.out]
      have HPL := Lib.hid hpl
      have HVL := Lib.hid hvl
      clear hf hg hx hp hv hpl hvl
      go_wp2_with fail
      refine (polyThrough_all _ _ N N N N (ptsL at_) (valsL word at_) _ HPL.out HVL.out HPO.out.rd HVO.out.rd (by omega)).mono ?_
      rintro e w1 ⟨v, t, kk, rfl, hth, ho, hx1⟩
      obtain ⟨hT, rfl⟩ : ThOK (ptsL at_) (valsL word at_) t ∧ kk = 0 := by
        rcases hth with ⟨h, _⟩ | ⟨_, h, _⟩ | ⟨_, _, h, h2⟩
        · rw [HPL.out, HVL.out] at h; exact absurd rfl h
        · exact absurd HND.out h
        · exact ⟨h, h2⟩
      have htl := hT.len
      rw [HPL.out] at htl
      have HT := Lib.hid hT
      clear hth hT
      obtain ⟨At, ct, rfl, hrt, hct, hmt⟩ := ho.bytesN rfl
      simp only [maxLen] at hmt
      have HOT := Lib.hid ho
      have HX1 := Lib.hid hx1
      clear ho hx1
      by_cases hle : t.length ≤ k
      · have hd : decide ((t.length : Int) ≤ (k : Int)) = true := decide_eq_true (by omega)
        go_wp2
        go_ret2
        refine ⟨.inl ⟨_, t, rfl, near_straight (Nat.le_trans (dg_le t) hle) (by rw [HPL.out]; exact hkN) (by rw [HPL.out, HVL.out]) (fun i hi => HT.out.at_ i hi (by rw [HVL.out]; rw [HPL.out] at hi; exact hi)), hle, HOT.out.mono HX.out.le⟩, HX.out.trans HX1.out⟩
      · have hd : decide ((t.length : Int) ≤ (k : Int)) = false := decide_eq_false (by omega)
        obtain ⟨K, hK⟩ : ∃ K, K = (N + k + 1) / 2 := ⟨_, rfl⟩
        have hKi : ((N : Int) + (k : Int) + 1) / 2 = (K : Int) := by rw [hK]; omega
        have hKb : K ≤ 300 := by omega
        have HK := Lib.hid hK
        have HKI := Lib.hid hKi
        clear hK hKi
        go_wp2_with fail
        refine (polyVanish_n _ N N (ptsL at_) _ HPL.out (HPO.out.rd.ext HX1.out) (by omega)).mono ?_
        rintro e w2 ⟨v, rfl, ho, hx2⟩
        have hvlen := vanish_length (ptsL at_)
        rw [HPL.out] at hvlen
        obtain ⟨Av, cv, rfl, hrv, hcv, hmv⟩ := ho.bytesN hvlen
        simp only [maxLen] at hmv
        have HVAN := Lib.hid hvlen
        clear hvlen ho
        go_wp2_with fail
        rw [HKI.out]
        refine (polyPartial_n Av At (N + 1) t.length cv ct (vanishL (ptsL at_)) t K _ HVAN.out rfl hrv (hrt.ext hx2) (by omega) (by omega) hcv hct (wf_nat K (by omega))).mono ?_
        rintro e w3 ⟨vg, vu, vv, r, rfl, hpr, hog, hou, hov, hx3, hul, hvl, hgl⟩
        have HPR := Lib.hid hpr
        clear hpr
        obtain ⟨Ag, cg, rfl, hrg, hcg, hmg⟩ := hog.bytesN rfl
        obtain ⟨Avv, cvv, rfl, hrvv, hcvv, hmvv⟩ := hov.bytesN rfl
        simp only [maxLen] at hmg hmvv
        have HX3 := Lib.hid ((HX.out.trans HX1.out).trans (hx2.trans hx3))
        clear hog hov hou hx2 hx3 hrv hrt
        go_wp2_with fail
        refine (polyDivide_all Ag Avv _ _ cg cvv r.g r.v _ rfl rfl hrg hrvv (by omega) (by omega) (by omega) (by omega)).mono ?_
        rintro e w4 ⟨vs, vr, s, rr, kk, rfl, hd4, hos, hor, -, hx4⟩
        have hk2 : k < (ptsL at_).length := by rw [HPL.out]; omega
        have hK2 : K = ((ptsL at_).length + k + 1) / 2 := by rw [HPL.out]; exact HK.out
        have hrow := gao_row hk2 HT.out hK2 HPR.out
        obtain ⟨hD, rfl⟩ : DivOK r.g r.v s rr ∧ kk = 0 := by
          rcases hd4 with ⟨h0, _⟩ | ⟨_, h, e⟩
          · have := hrow.1; omega
          · exact ⟨h, e⟩
        have HD := Lib.hid hD
        have hll : (valsL word at_).length = (ptsL at_).length := by rw [HPL.out, HVL.out]
        have HF : Hid (∀ p, NearOK k (ptsL at_) (valsL word at_) p → rr.length = 0 ∧ s.length ≤ k) := Lib.hid fun p hp => by
          have h5 := gao_full HND.out hll hk hk2 HT.out hK2 HPR.out hp
          obtain ⟨e1, e2⟩ := hD.uniq h5
          rw [e1, e2, trim_length]
          exact ⟨rfl, hp.len⟩
        have HS : Hid (rr.length = 0 → s.length ≤ k → NearOK k (ptsL at_) (valsL word at_) s) := Lib.hid fun h1 h2 => by
          obtain rfl := List.length_eq_zero_iff.1 h1
          exact gao_sound HND.out hll hk2 HT.out hK2 HPR.out hD h2
        obtain ⟨As, cs, rfl, -, -, -⟩ := hos.bytesN rfl
        obtain ⟨Ar, cr, rfl, -, -, -⟩ := hor.bytesN rfl
        have HOS := Lib.hid hos
        have HXF := Lib.hid (HX3.out.trans hx4)
        have hwl : w.heap.size ≤ w3.heap.size := HX3.out.le
        clear hd4 hD hrow hk2 hK2 hll hos hor hx4 hrg hrvv
        by_cases hr0 : rr.length = 0
        · have hr0b : ((rr.length : Int) == 0) = true := by rw [beq_iff_eq]; omega
          by_cases hsk : s.length ≤ k
          · have hskd : decide ((s.length : Int) ≤ (k : Int)) = true := decide_eq_true (by omega)
            have HR0 := Lib.hid hr0
            clear hr0
            go_wp2_with fail
            go_ret2
            exact ⟨.inl ⟨_, s, rfl, HS.out HR0.out hsk, hsk, HOS.out.mono hwl⟩, HXF.out⟩
          · have hskd : decide ((s.length : Int) ≤ (k : Int)) = false := decide_eq_false (by omega)
            clear hr0
            go_wp2_with fail
            go_ret2
            exact ⟨.inr ⟨_, rfl, fun p hp => hsk (HF.out p hp).2⟩, HXF.out⟩
        · have hr0b : ((rr.length : Int) == 0) = false := by rw [beq_eq_false_iff_ne]; omega
          go_wp2_with fail
          go_ret2
          exact ⟨.inr ⟨_, rfl, fun p hp => hr0 (HF.out p hp).1⟩, HXF.out⟩
end Go.Proofs.Ytemnlcfabaocbaa
