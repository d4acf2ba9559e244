/-
  The walks of layer 2: the product over points; the polynomial through points.
-/
import Derived.Test.YtemnlcfabaocbaaPoly2
import Derived.Test.YtemnlcfabaocbaaPoly3
import Derived.Test.YtemnlcfabaocbaaPoly4
import Derived.Test.YtemnlcfabaocbaaQuiet2
import Derived.Test.YtemnlcfabaocbaaRootsFew
namespace Go.Proofs.Ytemnlcfabaocbaa
open Go.RowKit Gf
set_option maxRecDepth 20000
set_option linter.unusedVariables false

theorem own_lit (w : World) (T : TypeId) (l : List E) (hl : l.length ≤ 1000) : Own (w.alloc (.cells (bs l).toArray T)) w.heap.size T (.slice (some ⟨w.heap.size, 0, none⟩) l.length l.length) (bs l) := by
  have hs : (bs l).toArray.size = l.length := by simp [bs]
  have ho := (Blk.new w T (bs l).toArray).own (B := w.heap.size) (n := l.length) (cap := l.length) (Nat.le_refl _) (Nat.le_refl _) (by simp only [maxLen]; omega) hs
  rwa [List.toList_toArray, List.take_of_length_le (by rw [bs_length]; exact Nat.le_refl _)] at ho
theorem rd_lit (w : World) (T : TypeId) (l : List E) (hl : l.length ≤ 1000) : Rd (w.alloc (.cells (bs l).toArray T)) (some ⟨w.heap.size, 0, none⟩) (bs l) := (own_lit w T l hl).rd
set_option maxHeartbeats 1000000 in
theorem polyVanish_n (A : Option Addr) (n cap : Nat) (pts : List E) (w : World) (hn : pts.length = n) (hr : Rd w A (bs pts)) (hlen : n ≤ 140737488355000) :
    Calls Try.prog 49 #[.slice A n cap] w fun e w' => ∃ v, e = .returned v ∧ Own w' w.heap.size 34 v (bs (vanishL pts)) ∧ Ext w w' := by
  have HN := Lib.hid hn
  clear hn
  have h0 := Lib.hid (own_lit w 34 [1] (by simp))
  go_enter Try.func49, Try.ntmps49
  go_wp2_with fail
  go_loopw [3, 9] (fun v i wr => ∃ (k : Nat) (V : Value), V = v ∧ k ≤ n ∧ i = .int .i64 k ∧ Ext w wr ∧ Own wr w.heap.size 34 V (bs (vanishL (pts.take k)))) (fun _ i _ => n - (intOf i).toNat)
  case atStart => exact ⟨0, _, rfl, by omega, rfl, (Ext.refl _).alloc _, h0.out⟩
  case round =>
    obtain ⟨k, V, rfl, hk, rfl, hx, ho⟩ := hrel
    by_cases hlt : k < n
    · have hkt : k < pts.length := by rw [HN.out]; exact hlt
      obtain ⟨ad, rfl, hc⟩ := (hr.ext hx).byte hkt
      have hal := (pts[k]).lt
      obtain ⟨Ao, co, rfl, -, hro, -, -⟩ := ho.bytes
      have HS := Lib.hid (vanishL_take pts k hkt)
      have hvl : (vanishL (pts.take k)).length = k + 1 := by rw [vanish_length, List.length_take]; omega
      have hrl := rd_lit wr 34 [pts[k], 1] (by simp)
      rw [hvl]
      go_wp2_with fail
      refine (polyTimes_n Ao _ _ 2 co 2 (vanishL (pts.take k)) [pts[k], 1] (wr.alloc (.cells (bs [pts[k], 1]).toArray 34)) hvl rfl (hro.alloc _) hrl (by omega)).mono ?_
      rintro e w2 ⟨v, rfl, ho2, hx2⟩
      have hx2' : Ext wr w2 := ((Ext.refl wr).alloc _).trans hx2
      go_wp2
      go_roundw
      case rel => exact ⟨k + 1, _, rfl, by omega, by go_num, hx.trans hx2', by rw [HS.out]; exact ho2.mono (hx.alloc _).le⟩
      case measure => simp [intOf]; omega
    · obtain rfl : k = n := by omega
      have hta : pts.take k = pts := List.take_of_length_le (by rw [HN.out]; exact Nat.le_refl _)
      rw [hta] at ho
      go_wp2
      go_ret
      exact ⟨_, rfl, ho, hx⟩

/-- What the call answers. -/
def ThAny (pts vals t : List E) (k : Int) : Prop :=
  (pts.length ≠ vals.length ∧ t = [] ∧ k = 2) ∨ (pts.length = vals.length ∧ ¬ pts.Nodup ∧ t = [] ∧ k = 20) ∨ (pts.length = vals.length ∧ pts.Nodup ∧ ThOK pts vals t ∧ k = 0)
theorem ThAny.uniq {pts vals t t' : List E} {k k' : Int} (h : ThAny pts vals t k) (h' : ThAny pts vals t' k') : t = t' ∧ k = k' := by
  rcases h with ⟨h0, rfl, rfl⟩ | ⟨h0, h1, rfl, rfl⟩ | ⟨h0, h1, h2, rfl⟩ <;> rcases h' with ⟨g0, rfl, rfl⟩ | ⟨g0, g1, rfl, rfl⟩ | ⟨g0, g1, g2, rfl⟩
  · exact ⟨rfl, rfl⟩
  · exact absurd g0 h0
  · exact absurd g0 h0
  · exact absurd h0 g0
  · exact ⟨rfl, rfl⟩
  · exact absurd g1 h1
  · exact absurd h0 g0
  · exact absurd h1 g1
  · exact ⟨h2.uniq h1 h0 g2, rfl⟩
theorem ThAny.len {pts vals t : List E} {k : Int} (h : ThAny pts vals t k) : t.length ≤ pts.length := by
  rcases h with ⟨h0, rfl, rfl⟩ | ⟨h0, h1, rfl, rfl⟩ | ⟨h0, h1, h2, rfl⟩
  · exact Nat.zero_le _
  · exact Nat.zero_le _
  · exact h2.len
theorem polyThrough_odd (A C : Option Addr) (n m ca cb : Nat) (w : World) (he : n ≠ m) :
    Calls Try.prog 50 #[.slice A n ca, .slice C m cb] w fun e w' => e = .returned (.tuple #[.slice none 0 0, .int .i64 2]) ∧ w = w' := by
  have h1 : ((n : Int) != (m : Int)) = true := by rw [bne_iff_ne]; omega
  go_enter Try.func50, Try.ntmps50
  go_wp2
  go_ret2
  exact ⟨rfl, rfl⟩
set_option maxHeartbeats 4000000 in
theorem polyThrough_n (A C : Option Addr) (n ca cb : Nat) (pts vals : List E) (w : World) (hn : pts.length = n) (hm : vals.length = n) (hr : Rd w A (bs pts)) (hs : Rd w C (bs vals)) (hlen : n ≤ 140737488355000) :
    Calls Try.prog 50 #[.slice A n ca, .slice C n cb] w fun e w' => ∃ v t k, e = .returned (.tuple #[v, .int .i64 k]) ∧ ThAny pts vals t k ∧ Own w' w.heap.size 34 v (bs t) ∧ Ext w w' := by
  have HN := Lib.hid hn
  have HM := Lib.hid hm
  clear hn hm
  have hmo : Try.prog.follows Departure.mixedOrders = true := by kernel_rfl
  have hwd : Fence.wide.depth = none := rfl
  have hwf : ∀ f, Fence.wide.fn f := fun _ => trivial
  have h0 := Lib.hid (own_lit w 34 [1] (by simp))
  go_enter Try.func50, Try.ntmps50
  go_wp2_with fail
  go_loopw [6, 7, 20] (fun p v i wr => ∃ (k : Nat) (Vp Vv : Value) (t : List E), Vp = p ∧ Vv = v ∧ k ≤ n ∧ i = .int .i64 k ∧ Hid ((pts.take k).Nodup ∧ ThOK (pts.take k) (vals.take k) t) ∧ Ext w wr ∧ Own wr w.heap.size 34 Vp (bs t) ∧ Own wr w.heap.size 34 Vv (bs (vanishL (pts.take k)))) (fun _ _ i _ => n - (intOf i).toNat)
  case atStart => exact ⟨0, _, _, [], rfl, rfl, by omega, rfl, ⟨by simp, th_nil _⟩, (Ext.refl _).alloc _, Own.nil _ _ _, h0.out⟩
  case round =>
    obtain ⟨k, Vp, Vv, t, rfl, rfl, hk, rfl, hok, hx, hop, hov⟩ := hrel
    clear h0
    by_cases hlt : k < n
    · have hkp : k < pts.length := by rw [HN.out]; exact hlt
      have hkv : k < vals.length := by rw [HM.out]; exact hlt
      obtain ⟨ad, rfl, hc⟩ := (hr.ext hx).byte hkp
      obtain ⟨bd, rfl, -⟩ := hs.byte hkv
      have hcv : ∀ u : Beyond wr, u.1.cell? (bd.add k) = some (.int .u8 ((vals[k]).val : Int)) := fun u => by
        obtain ⟨bd', e', hc'⟩ := (hs.ext (hx.trans u.2)).byte hkv
        injection e' with e'
        subst e'
        exact hc'
      have hvl : (vanishL (pts.take k)).length = k + 1 := by rw [vanish_length, List.length_take]; omega
      have htl : t.length ≤ k := by have := hok.out.2.len; rw [List.length_take] at this; omega
      obtain ⟨Ap, cp, rfl, -, hrp, -, -⟩ := hop.bytes
      obtain ⟨Av, cv, rfl, -, hrv, -, -⟩ := hov.bytes
      have HP := Lib.hid (fun u : Beyond wr => polyAt_n Ap t.length cp t pts[k] u.1 rfl (hrp.ext u.2) (by simp only [maxLen]; omega))
      have HV := Lib.hid (fun u : Beyond wr => polyAt_n Av (k + 1) cv (vanishL (pts.take k)) pts[k] u.1 hvl (hrv.ext u.2) (by simp only [maxLen]; omega))
      rw [hvl]
      have hpl := (pts[k]).lt
      have hvv := (vals[k]).lt
      have H1 := Lib.hid (And.intro hrp hrv)
      have H2 := Lib.hid (And.intro hop hov)
      have H3 := Lib.hid (And.intro hr hs)
      clear hrp hrv hop hov hr hs
      go_wp2_with fail
      refine region_beyond_plain hmo (by kernel_rfl) (by kernel_rfl) ?_
      repeat (gi_big_quiet_step ((first | (gi_at_call 35; with_reducible exact call_beyond (HP.out _)) | (gi_at_call 35; with_reducible exact call_beyond (HV.out _)) | (gi_at_call 57; with_reducible exact call_beyond0 (plus_any _ _ _)) | (gi_at_call 96; with_reducible exact call_beyond0 (over_all _ _ _)))))
      refine wpQuietIn_nil ?_
      rintro _ ⟨⟨w2, hx2⟩, rfl⟩
      obtain ⟨b, hb⟩ : ∃ b, b = evL (vanishL (pts.take k)) pts[k] := ⟨_, rfl⟩
      have HB := Lib.hid hb
      rw [← hb]
      clear hb hcv HP HV
      by_cases hz : b = 0
      · have hoe : overErr b = 10 := by rw [hz]; rfl
        have HE := Lib.hid (show ¬ pts.Nodup by
          intro hnd
          have h1 : pts[k] ∈ pts.take k := (vanish_ev _ _).1 (by rw [← HB.out, hz])
          have h2 : (pts.take (k + 1)).Nodup := hnd.sublist (List.take_sublist _ _)
          exact (nodup_take hkp hok.out.1).1 h2 h1)
        clear hz
        rw [hoe]
        go_wp2
        go_ret2
        exact ⟨_, [], 20, rfl, .inr (.inl ⟨by rw [HN.out, HM.out], HE.out, rfl, rfl⟩), Own.nil _ _ _, hx.trans hx2⟩
      · have hoe : overErr b = 0 := if_neg hz
        have HE := Lib.hid (show (pts.take (k + 1)).Nodup from (nodup_take hkp hok.out.1).2 (fun h1 => hz (by rw [HB.out]; exact (vanish_ev _ _).2 h1)))
        obtain ⟨c, hc'⟩ : ∃ c, c = (vals[k] + evL t pts[k]) * E.inv b := ⟨_, rfl⟩
        have HS := Lib.hid (th_step (c := c) hkp hkv hok.out.2 (by rw [← HB.out, hc', E.mul_assoc, E.inv_mul hz, E.mul_one]))
        rw [hoe, ← hc']
        have hcl := c.lt
        clear hz hc' hoe
        have hop2 := H2.out.1.ext hx2
        have hov2 := H2.out.2.ext hx2
        have hrp2 := H1.out.1.ext hx2
        have hrv2 := H1.out.2.ext hx2
        have HV := Lib.hid (vanishL_take pts k hkp)
        have hx3 := hx.trans hx2
        go_wp2_with fail
        refine (polyScale_n Av (k + 1) cv (vanishL (pts.take k)) c _ hvl hrv2 (by omega)).mono ?_
        rintro e w4 ⟨v4, rfl, ho4, hx4⟩
        obtain ⟨A4, c4, rfl, -, hr4, -, -⟩ := ho4.bytes
        have hl4 : (scaleL (vanishL (pts.take k)) c).length ≤ k + 1 := by rw [scaleL, trim_length]; exact Nat.le_trans (dg_le _) (by rw [ofS_length, hvl]; exact Nat.le_refl _)
        go_wp2_with fail
        refine (polyPlus_n Ap A4 _ _ cp c4 t (scaleL (vanishL (pts.take k)) c) w4 rfl rfl (hrp2.ext hx4) hr4 (by omega) (by omega)).mono ?_
        rintro e w5 ⟨v5, rfl, ho5, hx5⟩
        have hx45 := hx4.trans hx5
        have hrl := rd_lit w5 34 [pts[k], 1] (by simp)
        go_wp2_with fail
        refine (polyTimes_n Av _ (k + 1) 2 cv 2 (vanishL (pts.take k)) [pts[k], 1] (w5.alloc (.cells (bs [pts[k], 1]).toArray 34)) hvl rfl ((hrv2.ext hx45).alloc _) hrl (by omega)).mono ?_
        rintro e w6 ⟨v6, rfl, ho6, hx6⟩
        have hx6' : Ext w5 w6 := ((Ext.refl w5).alloc _).trans hx6
        go_wp2
        go_roundw
        case rel =>
          refine ⟨k + 1, _, _, plusL t (scaleL (vanishL (pts.take k)) c), rfl, rfl, by omega, by go_num, ⟨HE.out, HS.out⟩, hx3.trans (hx45.trans hx6'), ?_, ?_⟩
          · exact (ho5.mono (hx3.trans hx4).le).ext hx6'
          · rw [HV.out]; exact ho6.mono ((hx3.trans hx45).alloc _).le
        case measure => simp [intOf]; omega
    · obtain rfl : k = n := by omega
      have HK := Lib.hid (show pts.Nodup ∧ ThOK pts vals t by
        have := hok.out
        rwa [List.take_of_length_le (by rw [HN.out]; exact Nat.le_refl _), List.take_of_length_le (by rw [HM.out]; exact Nat.le_refl _)] at this)
      go_wp2
      go_ret2
      exact ⟨_, t, 0, rfl, .inr (.inr ⟨by rw [HN.out, HM.out], HK.out.1, HK.out.2, rfl⟩), hop, hx⟩
theorem polyThrough_all (A C : Option Addr) (n m ca cb : Nat) (pts vals : List E) (w : World) (hn : pts.length = n) (hm : vals.length = m) (hr : Rd w A (bs pts)) (hs : Rd w C (bs vals)) (hlen : n ≤ 140737488355000) :
    Calls Try.prog 50 #[.slice A n ca, .slice C m cb] w fun e w' => ∃ v t k, e = .returned (.tuple #[v, .int .i64 k]) ∧ ThAny pts vals t k ∧ Own w' w.heap.size 34 v (bs t) ∧ Ext w w' := by
  by_cases h : n = m
  · subst h
    exact polyThrough_n A C n ca cb pts vals w hn hm hr hs hlen
  · refine (polyThrough_odd A C n m ca cb w h).mono ?_
    rintro e w' ⟨rfl, rfl⟩
    exact ⟨_, [], 2, rfl, .inl ⟨by rw [hn, hm]; exact h, rfl, rfl⟩, Own.nil _ _ _, Ext.refl _⟩
end Go.Proofs.Ytemnlcfabaocbaa
