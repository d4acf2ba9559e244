/-
  The walks of the document's answer for chapter 5: straight, near.
-/
import Derived.Test.YtemnlcfabaocbaaThr5
import Derived.Test.YtemnlcfabaocbaaKer
import Derived.Test.YtemnlcfabaocbaaRef4
import Derived.Test.YtemnlcfabaocbaaRef6
namespace Go.Proofs.Ytemnlcfabaocbaa
open Go.RowKit Gf
set_option maxRecDepth 20000
set_option linter.unusedVariables false

/-- What straight answers. -/
def StrOut (k N : Nat) (xs ys : List E) (B : Nat) (e : Ending) (w' : World) : Prop :=
  (∃ v p, e = .returned (.tuple #[v, .bool true]) ∧ Own w' B 5 v (bs p) ∧ p.length = k ∧ ∀ i, i < N → evL p (xs.getD i 0) = ys.getD i 0) ∨ (e = .returned (.tuple #[.slice none 0 0, .bool false]))
theorem getD_at {l : List E} {i : Nat} (h : i < l.length) : l.getD i 0 = l[i] := by rw [List.getD_eq_getElem?_getD, List.getElem?_eq_getElem h]; rfl
theorem getD_take {l : List E} {i k : Nat} (h : i < k) : (l.take k).getD i 0 = l.getD i 0 := by rw [List.getD_eq_getElem?_getD, List.getD_eq_getElem?_getD, List.getElem?_take, if_pos h]
set_option maxHeartbeats 4000000 in
theorem straight_n (gt ct : Nat) (A C : Option Addr) (N k ca cc : Nat) (xs ys : List E) (w : World) (ht : Tab w gt) (hn : xs.length = N) (hm : ys.length = N) (hr : Rd w A (bs xs)) (hs : Rd w C (bs ys)) (hnd : xs.Nodup) (hkN : k ≤ N) (hca : N ≤ ca) (hcc : N ≤ cc) (hca2 : ca ≤ maxLen) (hcc2 : cc ≤ maxLen) (hlen : N ≤ 300) :
    Calls Try.prog 124 #[.slice (some ⟨gt, 0, none⟩) 256 ct, .int .i64 (k : Int), .slice A N ca, .slice C N cc] w fun e w' => StrOut k N xs ys w.heap.size e w' ∧ Ext w w' := by
  simp only [maxLen] at hca2 hcc2
  have hmo : Try.prog.follows Departure.mixedOrders = true := by kernel_rfl
  have HN := Lib.hid hn
  have HM := Lib.hid hm
  have HT := Lib.hid ht
  have HR := Lib.hid hr
  have HS := Lib.hid hs
  have hxd : Ext w w.drew := (Ext.refl w).drewN 1
  have HTH := Lib.hid (through5_n gt ct A C k ca cc (xs.take k) (ys.take k) w.drew (ht.ext hxd) (by rw [List.length_take, hn]; omega) (by rw [List.length_take, hm]; omega) (by rw [bs_take]; exact (hr.take k)) (by rw [bs_take]; exact (hs.take k)) (hnd.sublist (List.take_sublist _ _)) (by omega))
  have hkca : k ≤ ca := by omega
  have hkcc : k ≤ cc := by omega
  clear hn hm ht hr hs hnd hxd
  go_enter Try.func124, Try.ntmps124
  go_wp2_with fail
  refine wp_region_mix (fun i => [0, 0, 0, 0, 0, 0, 0, 1, 3].getD i 0) (fun w' => Ext w w') hmo (by kernel_rfl) (by kernel_rfl) ((Ext.refl _).drewN 1) ?_
  refine mix_still (.slice (some ⟨gt, 0, none⟩) 256 ct) rfl (fun w' hw' => by go_simp) ?_
  refine mix_still (.slice A N ca) rfl (fun w' hw' => by go_simp) ?_
  refine mix_still (.int .i64 (k : Int)) rfl (fun w' hw' => by go_simp) ?_
  refine mix_still (.slice A k ca) rfl (fun w' hw' => by go_simp) ?_
  refine mix_still (.slice C N cc) rfl (fun w' hw' => by go_simp) ?_
  refine mix_still (.int .i64 (k : Int)) rfl (fun w' hw' => by go_simp) ?_
  refine mix_still (.slice C k cc) rfl (fun w' hw' => by go_simp) ?_
  refine mix_call 127 #[.slice (some ⟨gt, 0, none⟩) 256 ct, .slice A k ca, .slice C k cc] rfl (by go_simp) ?_
  refine HTH.out.mono ?_
  rintro e w1 ⟨v, s, rfl, ho, hsl, hsp, hx⟩
  have hx1 : Ext w w1 := ((Ext.refl w).drewN 1).trans hx
  refine ⟨v, rfl, hx1, ?_⟩
  refine mix_pure v rfl (fun w' => by go_simp) ?_
  refine mix_nil ?_
  obtain ⟨Ap, cp, rfl, hrp, hcp, hmp⟩ := ho.bytesN hsl
  have HSL := Lib.hid hsl
  have HSP : Hid (∀ i, i < k → evL s (xs.getD i 0) = ys.getD i 0) := Lib.hid fun i hi => by
    have := hsp i hi
    rwa [getD_take hi, getD_take hi] at this
  have HO : Hid (Own w1 w.heap.size 5 (.slice Ap k cp) (bs s)) := Lib.hid ho
  have HX1 := Lib.hid hx1
  have HRP := Lib.hid hrp
  clear hsl hsp ho hx hx1 hrp HTH
  go_wp2_with fail
  go_simp
  go_loopw [11] (fun i wr => ∃ iN : Nat, k ≤ iN ∧ iN ≤ N ∧ i = .int .i64 iN ∧ Ext w1 wr ∧ ∀ t, t < iN → evL s (xs.getD t 0) = ys.getD t 0) (fun i _ => N - (intOf i).toNat)
  case atStart => exact ⟨k, Nat.le_refl _, hkN, rfl, Ext.refl _, HSP.out⟩
  case round =>
    obtain ⟨W2, rfl⟩ : ∃ W, W = wr := ⟨_, rfl⟩
    obtain ⟨iN, hi1, hi2, rfl, hx2, hall⟩ := hrel
    have HALL := Lib.hid hall
    have HX2 := Lib.hid hx2
    clear hall
    by_cases hlt : iN < N
    · have hip : iN < xs.length := by rw [HN.out]; exact hlt
      have hiv : iN < ys.length := by rw [HM.out]; exact hlt
      obtain ⟨ad, rfl, ca1⟩ := (HR.out.ext (HX1.out.trans hx2)).byte hip
      obtain ⟨bd, rfl, ca2⟩ := (HS.out.ext (HX1.out.trans hx2)).byte hiv
      have HA := Lib.hid (fun nn : Nat => at5_n gt ct Ap k s cp xs[iN] (W2.drewN nn) ((HT.out.ext (HX1.out.trans hx2)).ext ((Ext.refl W2).drewN nn)) HSL.out ((HRP.out.ext hx2).drewN nn) (by omega))
      have hl1 := (xs[iN]).lt
      have hl2 := (ys[iN]).lt
      have hl3 := (evL s xs[iN]).lt
      clear hx2
      by_cases he : evL s xs[iN] = ys[iN]
      · have hb : (((evL s xs[iN]).val : Int) != ((ys[iN]).val : Int)) = false := by rw [he]; simp
        have HE := Lib.hid he
        clear he
        go_wp2_with fail
        go_quiet ((go_at_call 121; with_reducible exact quiet_left (HA.out _)))
        have HX3 := Lib.hid (HX2.out.drewN (w := W2) nq)
        clear ca1 ca2 HA
        go_wp2_with fail
        go_roundw
        case rel => exact ⟨iN + 1, by omega, by omega, by go_num, HX3.out, fun t ht => by
          rcases Nat.lt_or_ge t iN with h | h
          · exact HALL.out t h
          · obtain rfl : t = iN := by omega
            rw [getD_at hip, getD_at hiv]; exact HE.out⟩
        case measure => simp [intOf]; omega
      · have hb : (((evL s xs[iN]).val : Int) != ((ys[iN]).val : Int)) = true := by
          rw [bne_iff_ne]
          intro e
          exact he (E.ext (by omega))
        clear he
        go_wp2_with fail
        go_quiet ((go_at_call 121; with_reducible exact quiet_left (HA.out _)))
        have HX3 := Lib.hid (HX2.out.drewN (w := W2) nq)
        clear ca1 ca2 HA
        go_wp2_with fail
        go_ret2
        exact ⟨.inr rfl, HX1.out.trans HX3.out⟩
    · obtain rfl : N = iN := by omega
      go_wp2
      go_ret2
      exact ⟨.inl ⟨_, s, rfl, HO.out.ext HX2.out, HSL.out, HALL.out⟩, HX1.out.trans HX2.out⟩
end Go.Proofs.Ytemnlcfabaocbaa
