/-
  The walks of the outright laws' helpers of chapter 2: elems, equal, trimmed, num, awake.
-/
import Derived.Test.YtemnlcfabaocbaaLaw2
import Derived.Test.YtemnlcfabaocbaaPoly6
import Derived.Test.YtemnlcfabaocbaaPoly7
import Derived.Test.YtemnlcfabaocbaaRef4
namespace Go.Proofs.Ytemnlcfabaocbaa
open Go.RowKit Gf
set_option maxRecDepth 20000
set_option linter.unusedVariables false

theorem num2_any (k : Int) (hk : (Lit.int .i64 k).wf = true) (w : World) : Calls Try.prog 46 #[.int .i64 k] w fun e w' => e = .returned (.int .i64 k) ∧ w = w' := by
  go_enter Try.func46, Try.ntmps46
  go_wp2
  go_ret
  exact ⟨rfl, rfl⟩
set_option maxHeartbeats 1000000 in
theorem elems_n (A : Option Addr) (n : Nat) (xs : List E) (cap : Nat) (w : World) (hn : xs.length = n) (hr : Rd w A (bs xs)) (hlen : n ≤ 140737488355228) :
    Calls Try.prog 54 #[.slice A n cap] w fun e w' => ∃ v, e = .returned v ∧ Own w' w.heap.size 34 v (bs xs) ∧ Ext w w' := by
  have HN := Lib.hid hn
  clear hn
  go_enter Try.func54, Try.ntmps54
  go_wp2_with fail
  go_loopw [3, 4] (fun v i wr => ∃ (k : Nat) (V : Value), V = v ∧ k ≤ n ∧ i = .int .i64 k ∧ Ext w wr ∧ Own wr w.heap.size 34 V (bs (xs.take k))) (fun _ i _ => n - (intOf i).toNat)
  case atStart => exact ⟨0, _, rfl, by omega, rfl, Ext.refl _, Own.nil _ _ _⟩
  case round =>
    obtain ⟨k, V, rfl, hk, rfl, hx, ho⟩ := hrel
    by_cases hlt : k < n
    · have hkt : k < xs.length := by rw [HN.out]; exact hlt
      obtain ⟨ad, rfl, hck⟩ := (hr.ext hx).byte hkt
      have hle := hx.le
      have hbd : ((bs (xs.take k)).length + 1) * 1 ≤ 140737488355328 := by have := bs_len_le xs k; have := HN.out; omega
      have hsn := bs_snoc xs k hkt
      have hkl := (xs[k]).lt
      go_wp2_with (at_builtin; refine wpList_push wr eltEl rfl _ _ (by rfl) w.heap.size V _ (by rfl) (by exact ho) (.int .u8 (xs[k]).val) (by rfl) rfl hbd hle ?_; intro v' w' ho' _ hb' _)
      go_roundw
      case rel => exact ⟨k + 1, _, rfl, by omega, by go_num, Below.trans hx hb', by rw [hsn]; exact ho'⟩
      case measure => simp [intOf]; omega
    · obtain rfl : k = n := by omega
      have hta : xs.take k = xs := List.take_of_length_le (by rw [HN.out]; exact Nat.le_refl _)
      rw [hta] at ho
      go_wp2
      go_ret
      exact ⟨_, rfl, ho, hx⟩
theorem equal_n (A B : Option Addr) (n m : Nat) (xs : List E) (ca cb : Nat) (w : World) (hn : xs.length = n) (hm : xs.length = m) (hr : Rd w A (bs xs)) (hs : Rd w B (bs xs)) (hlen : n ≤ 9000000000000000000) :
    Calls Try.prog 55 #[.slice A n ca, .slice B m cb] w fun e w' => e = .returned (.bool true) ∧ Ext w w' := by
  subst hn
  subst hm
  go_enter Try.func55, Try.ntmps55
  go_wp2_with fail
  go_loopw [5] (fun i wr => ∃ k : Nat, k ≤ xs.length ∧ i = .int .i64 k ∧ Ext w wr) (fun i _ => xs.length - (intOf i).toNat)
  case atStart => exact ⟨0, by omega, rfl, Ext.refl _⟩
  case round =>
    obtain ⟨k, hk, rfl, hbel⟩ := hrel
    by_cases hlt : k < xs.length
    · obtain ⟨ad, rfl, hc1⟩ := (hr.ext hbel).byte hlt
      obtain ⟨bd, rfl, hc2⟩ := (hs.ext hbel).byte hlt
      have hl0 : (0 : Int) ≤ (k : Int) := by omega
      have hl1 : (k : Int) < (xs.length : Int) := by omega
      have hv := (xs[k]).lt
      go_wp2_with fail
      go_quiet (fail)
      go_wp2
      go_roundw
      case rel => exact ⟨k + 1, by omega, by go_num, hbel.drewN _⟩
      case measure => simp [intOf]; omega
    · obtain rfl : k = xs.length := by omega
      go_wp2
      go_ret
      exact ⟨rfl, hbel⟩
theorem trimmed_n (A : Option Addr) (n : Nat) (xs : List E) (cap : Nat) (w : World) (hn : xs.length = n) (hr : Rd w A (bs xs)) (hlen : n ≤ 9000000000000000000) (ht : Trimmed xs) :
    Calls Try.prog 56 #[.slice A n cap] w fun e w' => e = .returned (.bool true) ∧ w = w' := by
  rcases Nat.eq_zero_or_pos n with h0 | h0
  · subst h0
    go_enter Try.func56, Try.ntmps56
    go_wp2
    go_ret
    exact ⟨rfl, rfl⟩
  · obtain ⟨k, rfl⟩ : ∃ k, n = k + 1 := ⟨n - 1, by omega⟩
    have hk : k < xs.length := by omega
    obtain ⟨ad, rfl, hc⟩ := hr.byte hk
    have hne : ((((xs[k]).val : Nat) : Int) != 0) = true := by
      have := ht.last (by omega)
      rw [hn, Nat.add_sub_cancel, ser_at xs k hk] at this
      have h3 : (((xs[k]).val : Int) == 0) = false := (eqE _ 0).trans (decide_eq_false this)
      simp [bne, h3]
    have h1 : ((((k + 1 : Nat)) : Int) == 0) = false := by rw [beq_eq_false_iff_ne]; omega
    have h1' : (((k : Int) + 1) == 0) = false := by rw [beq_eq_false_iff_ne]; omega
    have hv := (xs[k]).lt
    have hw1 : wrap64 (((k + 1 : Nat) : Int) - 1) = (k : Int) := by rw [IntWalk.wrap64_in _ (by omega)]; omega
    have hkk : k < k + 1 := by omega
    clear hn ht h0
    go_enter Try.func56, Try.ntmps56
    go_wp2
    go_ret
    exact ⟨rfl, rfl⟩

theorem timesL_le (p q : List E) : (timesL p q).length ≤ p.length + q.length := by
  rw [timesL, trim_length]; exact Nat.le_trans (dg_le _) (by rw [ofS_length]; exact Nat.le_refl _)
theorem scaleL_le (p : List E) (c : E) : (scaleL p c).length ≤ p.length := by
  rw [scaleL, trim_length]; exact Nat.le_trans (dg_le _) (by rw [ofS_length]; exact Nat.le_refl _)
theorem trim_le (p : List E) : (trim p).length ≤ p.length := by rw [trim_length]; exact dg_le p
theorem plusL_comm (p q : List E) : plusL q p = plusL p q := (trimmed_plusL _ _).eq (trimmed_plusL _ _) (by rw [ser_plusL, ser_plusL, S.add_comm])
theorem timesL_comm (p q : List E) : timesL q p = timesL p q := (trimmed_timesL _ _).eq (trimmed_timesL _ _) (by rw [ser_timesL, ser_timesL, S.mul_comm])
theorem plusL_assoc (p q r : List E) : plusL p (plusL q r) = plusL (plusL p q) r := (trimmed_plusL _ _).eq (trimmed_plusL _ _) (by simp only [ser_plusL, S.add_assoc])
theorem timesL_assoc (p q r : List E) : timesL p (timesL q r) = timesL (timesL p q) r := (trimmed_timesL _ _).eq (trimmed_timesL _ _) (by simp only [ser_timesL, S.mul_assoc])
theorem timesL_plus (p q r : List E) : plusL (timesL p q) (timesL p r) = timesL p (plusL q r) := (trimmed_plusL _ _).eq (trimmed_timesL _ _) (by simp only [ser_plusL, ser_timesL, S.mul_add])
theorem plusL_self (p : List E) : plusL p p = [] := (trimmed_plusL _ _).zero (by rw [ser_plusL, S.add_self])
theorem dg_times {p q : List E} {d e : Nat} (hp : dg p = d + 1) (hq : dg q = e + 1) : dg (timesL p q) = d + e + 1 := by
  have h1 : S.Dlt (ser p) (d + 1) := hp ▸ dg_dlt p
  have h2 : S.Dlt (ser q) (e + 1) := hq ▸ dg_dlt q
  have h3 : ser p d ≠ 0 := by have := dg_last p (by omega); rwa [hp] at this
  have h4 : ser q e ≠ 0 := by have := dg_last q (by omega); rwa [hq] at this
  refine dg_eq (by rw [ser_timesL]; exact (S.Dlt.mulN h1 h2).mono (by omega)) (fun _ => ?_)
  rw [ser_timesL, Nat.add_sub_cancel, S.lead_mul h1 h2]
  intro h
  rcases E.mul_eq_zero.1 h with h | h
  · exact h3 h
  · exact h4 h
theorem dg_times_zero {p q : List E} (h : dg p = 0 ∨ dg q = 0) : dg (timesL p q) = 0 := by
  rw [dg_eq_zero, ser_timesL]
  rcases h with h | h
  · rw [dg_eq_zero.1 h, S.zero_mul]
  · rw [dg_eq_zero.1 h, S.mul_zero]
/-! awake -/
def e2 : E := E.of 2
def e3 : E := E.of 3
def e6 : E := E.of 6
theorem aw_times : timesL [e2, 1] [e3, 1] = [e6, 1, 1] := by decide +kernel
theorem aw_trim : Trimmed [e2, 1] := by unfold Trimmed; decide +kernel
theorem aw_trim3 : Trimmed [e6, 1, 1] := by unfold Trimmed; decide +kernel
theorem aw_dg : dg [e3, 1] = 2 := by decide +kernel
theorem aw_div {s r : List E} {k : Int} (h : DivAny [e6, 1, 1] [e3, 1] s r k) : s = [e2, 1] ∧ r = [] ∧ k = 0 := by
  rcases h with ⟨h0, _⟩ | ⟨_, h, rfl⟩
  · rw [aw_dg] at h0; omega
  · have hok : DivOK [e6, 1, 1] [e3, 1] [e2, 1] [] := ⟨aw_trim, trimmed_nil, by rw [ser_nil, S.zero_add, ← aw_times, ser_timesL], by rw [aw_dg]; decide⟩
    exact ⟨(DivOK.uniq h hok).1, (DivOK.uniq h hok).2, rfl⟩
theorem aw_thr {t : List E} {k : Int} (h : ThAny [0, 1, e2] [e6, e6, 0] t k) : t = [e6, 1, 1] ∧ k = 0 := by
  have hn : [0, 1, e2].Nodup := by decide +kernel
  have hok : ThOK [0, 1, e2] [e6, e6, 0] [e6, 1, 1] := ⟨aw_trim3, Nat.le_refl _, fun i hi hi' => by
    match i, hi with
    | 0, _ => exact (by decide +kernel : evL [e6, 1, 1] 0 = e6)
    | 1, _ => exact (by decide +kernel : evL [e6, 1, 1] 1 = e6)
    | 2, _ => exact (by decide +kernel : evL [e6, 1, 1] e2 = 0)⟩
  exact ThAny.uniq h (.inr (.inr ⟨rfl, hn, hok, rfl⟩))
theorem aw_roots : rootsL [e6, 1, 1] = [e2, e3] := by decide +kernel
theorem Own.bytesN {w : World} {B n : Nat} {T : TypeId} {v : Value} {xs : List E} (h : Own w B T v (bs xs)) (hn : xs.length = n) : ∃ A cap, v = .slice A n cap ∧ Rd w A (bs xs) ∧ n ≤ cap ∧ cap ≤ maxLen := by
  obtain ⟨A, cap, hv, -, hr, h1, h2⟩ := h.bytes
  subst hn
  exact ⟨A, cap, hv, hr, h1, h2⟩
set_option maxHeartbeats 4000000 in
theorem awake_any (w : World) : Calls Try.prog 53 #[] w fun e w' => e = .returned (.bool true) ∧ Ext w w' := by
  have r2 : Rd ((w.alloc (.cells #[.int .u8 2, .int .u8 1] 34)).alloc (.cells #[.int .u8 3, .int .u8 1] 34)) (some ⟨w.heap.size, 0, none⟩) (bs [e2, 1]) := (rd_lit w 34 [e2, 1] (by simp)).alloc _
  have r3 : Rd ((w.alloc (.cells #[.int .u8 2, .int .u8 1] 34)).alloc (.cells #[.int .u8 3, .int .u8 1] 34)) (some ⟨w.heap.size + 1, 0, none⟩) (bs [e3, 1]) := by
    have := rd_lit (w.alloc (.cells #[.int .u8 2, .int .u8 1] 34)) 34 [e3, 1] (by simp)
    rw [World.size_alloc] at this
    exact this
  have x2 : Ext w ((w.alloc (.cells #[.int .u8 2, .int .u8 1] 34)).alloc (.cells #[.int .u8 3, .int .u8 1] 34)) := ((Ext.refl w).alloc _).alloc _
  go_enter Try.func53, Try.ntmps53
  go_wp2_with fail
  with_reducible refine (polyTimes_n _ _ 2 2 2 2 [e2, 1] [e3, 1] _ rfl rfl r2 r3 (by omega)).mono ?_
  rintro e w3 ⟨v, rfl, ho, hx3⟩
  rw [aw_times] at ho
  obtain ⟨Am, cm, rfl, hrm, hcm, hmm⟩ := ho.bytesN (n := 3) rfl
  have y3 := x2.trans hx3
  replace r2 := r2.ext hx3
  replace r3 := r3.ext hx3
  simp only [maxLen] at hmm
  clear ho
  go_wp2_with fail
  refine (polyDivide_all _ _ 3 2 cm 2 [e6, 1, 1] [e3, 1] _ rfl rfl hrm r3 (by omega) (by omega) (by omega) (by omega)).mono ?_
  rintro e w4 ⟨vs, vr, s, r, k, rfl, hd, hos, hor, -, hx4⟩
  obtain ⟨rfl, rfl, rfl⟩ := aw_div hd
  clear hd
  obtain ⟨As, cs, rfl, hrs, -, -⟩ := hos.bytesN (n := 2) rfl
  obtain ⟨Ar, cr, rfl, -, -, -⟩ := hor.bytesN (n := 0) rfl
  have y4 := y3.trans hx4
  clear hos hor
  have r0 : Rd ((w4.alloc (.cells #[.int .u8 0, .int .u8 1, .int .u8 2] 34)).alloc (.cells #[.int .u8 6, .int .u8 6, .int .u8 0] 34)) (some ⟨w4.heap.size, 0, none⟩) (bs [0, 1, e2]) := (rd_lit w4 34 [0, 1, e2] (by simp)).alloc _
  have r6 : Rd ((w4.alloc (.cells #[.int .u8 0, .int .u8 1, .int .u8 2] 34)).alloc (.cells #[.int .u8 6, .int .u8 6, .int .u8 0] 34)) (some ⟨w4.heap.size + 1, 0, none⟩) (bs [e6, e6, 0]) := by
    have := rd_lit (w4.alloc (.cells #[.int .u8 0, .int .u8 1, .int .u8 2] 34)) 34 [e6, e6, 0] (by simp)
    rw [World.size_alloc] at this
    exact this
  have x4 : Ext w4 ((w4.alloc (.cells #[.int .u8 0, .int .u8 1, .int .u8 2] 34)).alloc (.cells #[.int .u8 6, .int .u8 6, .int .u8 0] 34)) := ((Ext.refl w4).alloc _).alloc _
  go_wp2_with fail
  with_reducible refine (polyThrough_all _ _ 3 3 3 3 [0, 1, e2] [e6, e6, 0] _ rfl rfl r0 r6 (by omega)).mono ?_
  rintro e w5 ⟨v, t, k, rfl, ht, ho, hx5⟩
  obtain ⟨rfl, rfl⟩ := aw_thr ht
  clear ht
  obtain ⟨At, ct, rfl, hrt, -, -⟩ := ho.bytesN (n := 3) rfl
  have z5 := x4.trans hx5
  have y5 := y4.trans z5
  have hm5 := hrm.ext (hx4.trans z5)
  have hs5 := hrs.ext z5
  have h25 := r2.ext (hx4.trans z5)
  clear ho x4 hx5 r0 r6 r2 r3 hrm hrs hx3 hx4 x2 y3 y4 z5
  go_wp2_with fail
  refine (polyRoots_n Am 3 [e6, 1, 1] cm _ rfl hm5 (by omega)).mono ?_
  rintro e w6 ⟨v, rfl, ho, hx6⟩
  rw [aw_roots] at ho
  obtain ⟨Al, cl, rfl, hrl, -, -⟩ := ho.bytesN (n := 2) rfl
  have y6 := y5.trans hx6
  clear ho
  have q6 : Rd (w6.alloc (.cells #[.int .u8 6, .int .u8 1, .int .u8 1] 34)) (some ⟨w6.heap.size, 0, none⟩) (bs [e6, 1, 1]) := rd_lit w6 34 [e6, 1, 1] (by simp)
  have x6 : Ext w6 (w6.alloc (.cells #[.int .u8 6, .int .u8 1, .int .u8 1] 34)) := (Ext.refl w6).alloc _
  go_wp2_with fail
  refine (equal_n Am _ 3 3 [e6, 1, 1] cm 3 _ rfl rfl (hm5.ext (hx6.trans x6)) q6 (by omega)).mono ?_
  rintro e w7 ⟨rfl, hx7⟩
  have z7 := x6.trans hx7
  have y7 := y6.trans z7
  have hm7 := hm5.ext (hx6.trans z7)
  have hs7 := hs5.ext (hx6.trans z7)
  have h27 := h25.ext (hx6.trans z7)
  have ht7 := hrt.ext (hx6.trans z7)
  have hl7 := hrl.ext z7
  clear hm5 hs5 h25 hrt hrl q6 x6 hx7 hx6 y5 y6 z7
  go_wp2_with (go_at_call 46; with_reducible refine (num2_any _ rfl _).mono ?_; rintro e w' ⟨rfl, rfl⟩)
  refine (equal_n As _ 2 2 [e2, 1] cs 2 _ rfl rfl hs7 h27 (by omega)).mono ?_
  rintro e w8 ⟨rfl, hx8⟩
  have y8 := y7.trans hx8
  go_wp2_with (go_at_call 46; with_reducible refine (num2_any _ rfl _).mono ?_; rintro e w' ⟨rfl, rfl⟩)
  refine (equal_n At Am 3 3 [e6, 1, 1] ct cm _ rfl rfl (ht7.ext hx8) (hm7.ext hx8) (by omega)).mono ?_
  rintro e w9 ⟨rfl, hx9⟩
  have y9 := y8.trans hx9
  have q9 : Rd (w9.alloc (.cells #[.int .u8 2, .int .u8 3] 34)) (some ⟨w9.heap.size, 0, none⟩) (bs [e2, e3]) := rd_lit w9 34 [e2, e3] (by simp)
  have x9 : Ext w9 (w9.alloc (.cells #[.int .u8 2, .int .u8 3] 34)) := (Ext.refl w9).alloc _
  go_wp2_with fail
  refine (equal_n Al _ 2 2 [e2, e3] cl 2 _ rfl rfl (hl7.ext (hx8.trans (hx9.trans x9))) q9 (by omega)).mono ?_
  rintro e w10 ⟨rfl, hx10⟩
  go_wp2
  go_ret
  exact ⟨rfl, y9.trans (x9.trans hx10)⟩
end Go.Proofs.Ytemnlcfabaocbaa
