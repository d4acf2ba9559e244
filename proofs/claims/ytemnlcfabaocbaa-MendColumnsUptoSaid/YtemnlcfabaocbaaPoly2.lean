/-
  The walks of layer 2: what two polynomials come to, coefficient by coefficient.
-/
import Derived.Test.YtemnlcfabaocbaaPoly1
namespace Go.Proofs.Ytemnlcfabaocbaa
open Go.RowKit Gf
set_option maxRecDepth 20000
set_option linter.unusedVariables false
set_option linter.unusedSimpArgs false

theorem plus_zero (x : E) (w : World) :
    Calls Try.prog 57 #[.int .u8 x.val, .int .u8 0] w fun e w' => e = .returned (.int .u8 (x + 0).val) ∧ w = w' := plus_any x 0 w
theorem scale1_zero (x c : E) (b : Nat) (w : World) (hc : w.cell? ⟨b, 0, none⟩ = some (.int .u8 c.val)) :
    Calls Try.prog 91 #[.int .u8 x.val, .int .u8 0, .pointer (some ⟨b, 0, none⟩)] w fun e w' => e = .returned (.int .u8 (x * c).val) ∧ w = w' := scale1_any x 0 c b w hc

def mixPlus (p q : List E) (k : Nat) : S := fun i => if i < k then ser p i + ser q i else ser p i
theorem mixPlus_step (p q : List E) (N k : Nat) (hk : k < N) : (bs (ofS N (mixPlus p q  k))).set k (.int .u8 ((ser p k + ser q k).val : Int)) = bs (ofS N (mixPlus p q  (k + 1))) := by
  have h : (ofS N (mixPlus p q  k)).set k (ser p k + ser q k) = ofS N (mixPlus p q  (k + 1)) := by
    rw [ofS_set]
    apply ofS_congr
    intro i hi
    simp only [mixPlus]
    by_cases h1 : i = k
    · subst h1; rw [if_pos rfl, if_pos (by omega)]
    · rw [if_neg h1]
      by_cases h2 : i < k
      · rw [if_pos h2, if_pos (by omega)]
      · rw [if_neg h2, if_neg (by omega)]
  rw [← h, bs, bs, List.map_set]; rfl
theorem mixPlus_get (p q : List E) (N k : Nat) (hk : k < N) : (bs (ofS N (mixPlus p q  k)))[k]? = some (.int .u8 ((ser p k).val : Int)) := by
  rw [bs_get _ k (by rw [ofS_length]; exact hk), ofS_getElem]
  simp [mixPlus]
set_option maxHeartbeats 2000000 in
theorem combinePlus (A B : Option Addr) (n m N ca cb : Nat) (p q : List E) (w : World) (hn : p.length = n) (hm : q.length = m) (hN : (N = n ∧ m ≤ n) ∨ (N = m ∧ n < m)) (hr : Rd w A (bs p)) (hs : Rd w B (bs q)) (hlen : N ≤ 140737488355328) :
    Calls Try.prog 90 #[.slice A n ca, .slice B m cb, .func (.func 57) #[] #[]] w fun e w' => ∃ v, e = .returned v ∧ Own w' w.heap.size 34 v (bs (trim (ofS N (fun i => ser p i + ser q i)))) ∧ Ext w w' := by
  have hmk := make_elems N (by omega)
  have HN := Lib.hid hn
  have HM := Lib.hid hm
  have hpN : n ≤ N := by omega
  have hmN : m ≤ N := by omega
  have HZ : ∀ cs' : Array Value, cs'.toList = bs p ++ (zrow (.int .u8 0) N).toList.drop n → cs' = (bs (ofS N (mixPlus p q  0))).toArray := by
    intro cs' h
    have e : ofS N (mixPlus p q  0) = p ++ List.replicate (N - n) 0 := by
      rw [← hn, ← ofS_pad p N (by omega)]
      exact ofS_congr fun i _ => by simp [mixPlus]
    rw [e, bs_append, ← Array.toList_inj, h, zrow_list, List.drop_replicate]
    simp [bs, bv, E.val_zero]
  have HZ' := Lib.hid HZ
  clear hn hm HZ
  rcases hN with ⟨rfl, hmn⟩ | ⟨rfl, hmn⟩
  all_goals
    go_enter Try.func90, Try.ntmps90
    go_wp2_with (refine wpList_copy0 (w.alloc (.cells (zrow (.int .u8 0) N) 34)) eltEl rfl (.tmp 16) (.tmp 17) rfl w.heap.size N N 34 _ (Blk.new _ _ _) (by rfl) A _ ca (bs p) (by rfl) (hr.alloc _) ((bs_length _).trans HN.out) hpN (by rw [zrow_size]; exact Nat.le_refl _) (bs_ones _) w.heap.size w ((Ext.refl w).alloc _) (Nat.le_refl _) ?_; intro w1 cs1 hb1 hcs1 hx1)
    have hb1' : Blk w1 w.heap.size 34 (bs (ofS N (mixPlus p q  0))).toArray := by rw [← HZ'.out cs1 hcs1.out]; exact hb1
    clear hb1
    go_loopw [21] (fun i wr => ∃ k : Nat, k ≤ N ∧ i = .int .i64 k ∧ Ext w wr ∧ Blk wr w.heap.size 34 (bs (ofS N (mixPlus p q  k))).toArray) (fun i _ => N - (intOf i).toNat)
    case atStart => exact ⟨0, by omega, rfl, hx1, hb1'⟩
    case round =>
      obtain ⟨k, hk, rfl, hx, hb⟩ := hrel
      clear hb1' hx1
      by_cases hlt : k < N
      · have hc1 : wr.cell? ⟨w.heap.size, k, none⟩ = some (.int .u8 ((ser p k).val : Int)) := (hb.cell k).trans (by rw [List.getElem?_toArray]; exact mixPlus_get p q  N k hlt)
        have hf := hb.frozen k
        have hb2 := hb.set_ k (.int .u8 ((ser p k + ser q k).val : Int))
        rw [List.setIfInBounds_toArray, mixPlus_step p q  N k hlt] at hb2
        have hx2 := hx.new (p := ⟨w.heap.size, k, none⟩) (Nat.le_refl _) (.int .u8 ((ser p k + ser q k).val : Int))
        skip
        have HB := Lib.hid hb2
        clear hb hb2
        rcases Nat.lt_or_ge k q.length with hj | hj
        · have hkm := hj
          rw [HM.out] at hkm
          obtain ⟨bd, rfl, hc2⟩ := (hs.ext hx).byte hj
          rw [← ser_at q k hj] at hc2
          go_wp2_with (go_at_call 57; with_reducible refine (plus_any _ _ _).mono ?_; rintro e w' ⟨rfl, rfl⟩)
          go_roundw
          case rel => exact ⟨k + 1, by omega, by go_num, hx2, HB.out⟩
          case measure => simp [intOf]; omega
        · have hz := Lib.hid (ser_out q k hj)
          have hd := decide_eq_false (Nat.not_lt.2 hj)
          rw [HM.out] at hj hd
          by_cases hcon : N ≤ k
          · exact absurd hcon (by omega)
          first
            | exact absurd hj hcon
            | (go_wp2_with (go_at_call 57; with_reducible refine (plus_zero _ _).mono ?_; rintro e w' ⟨rfl, rfl⟩)
               go_roundw
               case rel => exact ⟨k + 1, by omega, by go_num, by rw [hz.out] at hx2; exact hx2, by have := HB.out; rw [hz.out] at this; exact this⟩
               case measure => simp [intOf]; omega)
      · obtain rfl : k = N := by omega
        have e : ofS k (mixPlus p q  k) = ofS k (fun i => ser p i + ser q i) := ofS_congr fun i hi => by simp only [mixPlus]; rw [if_pos hi]
        rw [e] at hb
        have ho := hb.own (B := w.heap.size) (n := k) (cap := k) (Nat.le_refl _) (Nat.le_refl _) (by simp only [maxLen]; omega) (by simp [bs, ofS_length])
        have hd := dg_le (ofS k (fun i => ser p i + ser q i))
        rw [ofS_length] at hd
        have ho2 := hb.own (B := w.heap.size) (n := dg (ofS k (fun i => ser p i + ser q i))) (cap := k) (Nat.le_refl _) hd (by simp only [maxLen]; omega) (by simp [bs, ofS_length])
        rw [List.toList_toArray, ← bs_take] at ho2
        rw [List.toList_toArray, ← bs_take, List.take_of_length_le (by rw [ofS_length]; exact Nat.le_refl _)] at ho
        have hrd := ho.rd
        have HL := Lib.hid (ofS_length k (fun i => ser p i + ser q i))
        generalize hL : ofS k (fun i => ser p i + ser q i) = L at ho2 hrd hd HL
        have HLL := Lib.hid hL
        clear hL
        clear ho hb e
        go_wp2_with fail
        refine (degree_n _ k L _ _ HL.out hrd (by omega)).mono ?_
        rintro e w' ⟨rfl, rfl⟩
        go_wp2
        go_ret
        exact ⟨_, rfl, by rw [HLL.out]; exact ho2, hx⟩

def mixScale (p q : List E) (c : E) (k : Nat) : S := fun i => if i < k then ser p i * c else ser p i
theorem mixScale_step (p q : List E) (c : E) (N k : Nat) (hk : k < N) : (bs (ofS N (mixScale p q c k))).set k (.int .u8 ((ser p k * c).val : Int)) = bs (ofS N (mixScale p q c (k + 1))) := by
  have h : (ofS N (mixScale p q c k)).set k (ser p k * c) = ofS N (mixScale p q c (k + 1)) := by
    rw [ofS_set]
    apply ofS_congr
    intro i hi
    simp only [mixScale]
    by_cases h1 : i = k
    · subst h1; rw [if_pos rfl, if_pos (by omega)]
    · rw [if_neg h1]
      by_cases h2 : i < k
      · rw [if_pos h2, if_pos (by omega)]
      · rw [if_neg h2, if_neg (by omega)]
  rw [← h, bs, bs, List.map_set]; rfl
theorem mixScale_get (p q : List E) (c : E) (N k : Nat) (hk : k < N) : (bs (ofS N (mixScale p q c k)))[k]? = some (.int .u8 ((ser p k).val : Int)) := by
  rw [bs_get _ k (by rw [ofS_length]; exact hk), ofS_getElem]
  simp [mixScale]
set_option maxHeartbeats 2000000 in
theorem combineScale (A B : Option Addr) (n m N ca cb : Nat) (p q : List E) (c : E) (b : Nat) (w : World) (hn : p.length = n) (hm : q.length = m) (hN : (N = n ∧ m ≤ n) ∨ (N = m ∧ n < m)) (hr : Rd w A (bs p)) (hs : Rd w B (bs q)) (hbc : b < w.heap.size) (hcell : w.cell? ⟨b, 0, none⟩ = some (.int .u8 c.val)) (hlen : N ≤ 140737488355328) :
    Calls Try.prog 90 #[.slice A n ca, .slice B m cb, .func (.func 91) #[] #[.pointer (some ⟨b, 0, none⟩)]] w fun e w' => ∃ v, e = .returned v ∧ Own w' w.heap.size 34 v (bs (trim (ofS N (fun i => ser p i * c)))) ∧ Ext w w' := by
  have hmk := make_elems N (by omega)
  have HN := Lib.hid hn
  have HM := Lib.hid hm
  have hpN : n ≤ N := by omega
  have hmN : m ≤ N := by omega
  have HZ : ∀ cs' : Array Value, cs'.toList = bs p ++ (zrow (.int .u8 0) N).toList.drop n → cs' = (bs (ofS N (mixScale p q c 0))).toArray := by
    intro cs' h
    have e : ofS N (mixScale p q c 0) = p ++ List.replicate (N - n) 0 := by
      rw [← hn, ← ofS_pad p N (by omega)]
      exact ofS_congr fun i _ => by simp [mixScale]
    rw [e, bs_append, ← Array.toList_inj, h, zrow_list, List.drop_replicate]
    simp [bs, bv, E.val_zero]
  have HZ' := Lib.hid HZ
  clear hn hm HZ
  rcases hN with ⟨rfl, hmn⟩ | ⟨rfl, hmn⟩
  all_goals
    go_enter Try.func90, Try.ntmps90
    go_wp2_with (refine wpList_copy0 (w.alloc (.cells (zrow (.int .u8 0) N) 34)) eltEl rfl (.tmp 16) (.tmp 17) rfl w.heap.size N N 34 _ (Blk.new _ _ _) (by rfl) A _ ca (bs p) (by rfl) (hr.alloc _) ((bs_length _).trans HN.out) hpN (by rw [zrow_size]; exact Nat.le_refl _) (bs_ones _) w.heap.size w ((Ext.refl w).alloc _) (Nat.le_refl _) ?_; intro w1 cs1 hb1 hcs1 hx1)
    have hb1' : Blk w1 w.heap.size 34 (bs (ofS N (mixScale p q c 0))).toArray := by rw [← HZ'.out cs1 hcs1.out]; exact hb1
    clear hb1
    go_loopw [21] (fun i wr => ∃ k : Nat, k ≤ N ∧ i = .int .i64 k ∧ Ext w wr ∧ Blk wr w.heap.size 34 (bs (ofS N (mixScale p q c k))).toArray) (fun i _ => N - (intOf i).toNat)
    case atStart => exact ⟨0, by omega, rfl, hx1, hb1'⟩
    case round =>
      obtain ⟨k, hk, rfl, hx, hb⟩ := hrel
      clear hb1' hx1
      by_cases hlt : k < N
      · have hc1 : wr.cell? ⟨w.heap.size, k, none⟩ = some (.int .u8 ((ser p k).val : Int)) := (hb.cell k).trans (by rw [List.getElem?_toArray]; exact mixScale_get p q c N k hlt)
        have hf := hb.frozen k
        have hb2 := hb.set_ k (.int .u8 ((ser p k * c).val : Int))
        rw [List.setIfInBounds_toArray, mixScale_step p q c N k hlt] at hb2
        have hx2 := hx.new (p := ⟨w.heap.size, k, none⟩) (Nat.le_refl _) (.int .u8 ((ser p k * c).val : Int))
        have hcc : wr.cell? ⟨b, 0, none⟩ = some (.int .u8 c.val) := (hx.cell (p := ⟨b, 0, none⟩) hbc).trans hcell
        have HB := Lib.hid hb2
        clear hb hb2
        rcases Nat.lt_or_ge k q.length with hj | hj
        · have hkm := hj
          rw [HM.out] at hkm
          obtain ⟨bd, rfl, hc2⟩ := (hs.ext hx).byte hj
          rw [← ser_at q k hj] at hc2
          go_wp2_with (go_at_call 91; with_reducible refine (scale1_any _ _ c b _ hcc).mono ?_; rintro e w' ⟨rfl, rfl⟩)
          go_roundw
          case rel => exact ⟨k + 1, by omega, by go_num, hx2, HB.out⟩
          case measure => simp [intOf]; omega
        · have hz := Lib.hid (ser_out q k hj)
          have hd := decide_eq_false (Nat.not_lt.2 hj)
          rw [HM.out] at hj hd
          by_cases hcon : N ≤ k
          · exact absurd hcon (by omega)
          first
            | exact absurd hj hcon
            | (go_wp2_with (go_at_call 91; with_reducible refine (scale1_zero _ c b _ hcc).mono ?_; rintro e w' ⟨rfl, rfl⟩)
               go_roundw
               case rel => exact ⟨k + 1, by omega, by go_num, hx2, HB.out⟩
               case measure => simp [intOf]; omega)
      · obtain rfl : k = N := by omega
        have e : ofS k (mixScale p q c k) = ofS k (fun i => ser p i * c) := ofS_congr fun i hi => by simp only [mixScale]; rw [if_pos hi]
        rw [e] at hb
        have ho := hb.own (B := w.heap.size) (n := k) (cap := k) (Nat.le_refl _) (Nat.le_refl _) (by simp only [maxLen]; omega) (by simp [bs, ofS_length])
        have hd := dg_le (ofS k (fun i => ser p i * c))
        rw [ofS_length] at hd
        have ho2 := hb.own (B := w.heap.size) (n := dg (ofS k (fun i => ser p i * c))) (cap := k) (Nat.le_refl _) hd (by simp only [maxLen]; omega) (by simp [bs, ofS_length])
        rw [List.toList_toArray, ← bs_take] at ho2
        rw [List.toList_toArray, ← bs_take, List.take_of_length_le (by rw [ofS_length]; exact Nat.le_refl _)] at ho
        have hrd := ho.rd
        have HL := Lib.hid (ofS_length k (fun i => ser p i * c))
        generalize hL : ofS k (fun i => ser p i * c) = L at ho2 hrd hd HL
        have HLL := Lib.hid hL
        clear hL
        clear ho hb e
        go_wp2_with fail
        refine (degree_n _ k L _ _ HL.out hrd (by omega)).mono ?_
        rintro e w' ⟨rfl, rfl⟩
        go_wp2
        go_ret
        exact ⟨_, rfl, by rw [HLL.out]; exact ho2, hx⟩

theorem polyPlus_n (A B : Option Addr) (n m ca cb : Nat) (p q : List E) (w : World) (hn : p.length = n) (hm : q.length = m) (hr : Rd w A (bs p)) (hs : Rd w B (bs q)) (hn1 : n ≤ 140737488355328) (hm1 : m ≤ 140737488355328) :
    Calls Try.prog 40 #[.slice A n ca, .slice B m cb] w fun e w' => ∃ v, e = .returned v ∧ Own w' w.heap.size 34 v (bs (plusL p q)) ∧ Ext w w' := by
  have h := combinePlus A B n m (max n m) ca cb p q w hn hm (by omega) hr hs (by omega)
  have e : trim (ofS (max n m) (fun i => ser p i + ser q i)) = plusL p q := by rw [plusL, hn, hm]; rfl
  rw [e] at h
  have H := Lib.hid h
  clear h
  go_enter Try.func40, Try.ntmps40
  go_wp2_with fail
  refine H.out.mono ?_
  rintro e w1 ⟨v, rfl, ho, hx⟩
  go_wp2
  go_ret
  exact ⟨v, rfl, ho, hx⟩
theorem polyScale_n (A : Option Addr) (n ca : Nat) (p : List E) (c : E) (w : World) (hn : p.length = n) (hr : Rd w A (bs p)) (hn1 : n ≤ 140737488355328) :
    Calls Try.prog 42 #[.slice A n ca, .int .u8 c.val] w fun e w' => ∃ v, e = .returned v ∧ Own w' w.heap.size 34 v (bs (scaleL p c)) ∧ Ext w w' := by
  have hb := Blk.new w 34 #[.int .u8 (c.val : Int)]
  have h := combineScale A none n 0 n ca 0 p [] c w.heap.size (w.alloc (.cells #[.int .u8 (c.val : Int)] 34)) hn rfl (by omega) (hr.alloc _) (Rd.nil _ _) (by simp) ((hb.cell 0).trans rfl) (by omega)
  have e : trim (ofS n (fun i => ser p i * c)) = scaleL p c := by rw [scaleL, hn]; congr 1; exact ofS_congr fun i _ => E.mul_comm _ _
  rw [e] at h
  have H := Lib.hid h
  clear h hb
  go_enter Try.func42, Try.ntmps42
  go_wp2_with fail
  refine H.out.mono ?_
  rintro e w1 ⟨v, rfl, ho, hx⟩
  go_wp2
  go_ret
  exact ⟨v, rfl, ho.mono (by simp), ((Ext.refl w).alloc _).trans hx⟩
end Go.Proofs.Ytemnlcfabaocbaa
