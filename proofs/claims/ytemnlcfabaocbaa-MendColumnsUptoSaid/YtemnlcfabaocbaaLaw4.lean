/-
  The walks of the outright laws' helpers of chapter 2: unlike, values.
-/
import Derived.Test.YtemnlcfabaocbaaLaw3
namespace Go.Proofs.Ytemnlcfabaocbaa
open Go.RowKit Gf
set_option maxRecDepth 20000
set_option linter.unusedVariables false

set_option maxHeartbeats 1000000 in
theorem values_n (A B : Option Addr) (m n : Nat) (p pts : List E) (ca cb : Nat) (w : World) (hm : p.length = m) (hn : pts.length = n) (hr : Rd w A (bs p)) (hs : Rd w B (bs pts)) (hlen : m ≤ 140737488355000) (hlenn : n ≤ 140737488355000) :
    Calls Try.prog 60 #[.slice A m ca, .slice B n cb] w fun e w' => ∃ v, e = .returned v ∧ Own w' w.heap.size 34 v (bs (pts.map (evL p))) ∧ Ext w w' := by
  have HN := Lib.hid hn
  have HM := Lib.hid hm
  clear hn hm
  go_enter Try.func60, Try.ntmps60
  go_wp2_with fail
  go_loopw [5, 6] (fun v i wr => ∃ (k : Nat) (V : Value), V = v ∧ k ≤ n ∧ i = .int .i64 k ∧ Ext w wr ∧ Own wr w.heap.size 34 V (bs ((pts.take k).map (evL p)))) (fun _ i _ => n - (intOf i).toNat)
  case atStart => exact ⟨0, _, rfl, by omega, rfl, Ext.refl _, Own.nil _ _ _⟩
  case round =>
    obtain ⟨k, V, rfl, hk, rfl, hx, ho⟩ := hrel
    by_cases hlt : k < n
    · have hkt : k < pts.length := by rw [HN.out]; exact hlt
      obtain ⟨ad, rfl, hck⟩ := (hs.ext hx).byte hkt
      have hkl := (pts[k]).lt
      have hsn := Lib.hid (show bs ((pts.take (k + 1)).map (evL p)) = bs ((pts.take k).map (evL p)) ++ [.int .u8 ((evL p pts[k]).val : Int)] by
        rw [List.take_succ_eq_append_getElem hkt, List.map_append, bs_append]; rfl)
      have hbd : ((bs ((pts.take k).map (evL p))).length + 1) * 1 ≤ 140737488355328 := by rw [bs_length, List.length_map, List.length_take]; omega
      go_wp2_with fail
      refine (polyAt_n A m ca p pts[k] _ HM.out (hr.ext hx) (by simp only [maxLen]; omega)).mono ?_
      rintro e w2 ⟨rfl, hx2⟩
      have ho2 := ho.ext hx2
      have hx3 := hx.trans hx2
      have hle := hx3.le
      have hel := (evL p pts[k]).lt
      clear ho hx2 hck
      go_wp2_with (at_builtin; refine wpList_push _ eltEl rfl _ _ (by rfl) w.heap.size V _ (by rfl) (by exact ho2) (.int .u8 (evL p pts[k]).val) (by rfl) rfl hbd hle ?_; intro v' w' ho' _ hb' _)
      go_roundw
      case rel => exact ⟨k + 1, _, rfl, by omega, by go_num, Below.trans hx3 hb', by rw [hsn.out]; exact ho'⟩
      case measure => simp [intOf]; omega
    · obtain rfl : k = n := by omega
      have hta : pts.take k = pts := List.take_of_length_le (by rw [HN.out]; exact Nat.le_refl _)
      rw [hta] at ho
      go_wp2
      go_ret
      exact ⟨_, rfl, ho, hx⟩
/-- Each once, as they first stand. -/
def unl (xs : List E) : List E := xs.foldl (fun o x => if x ∈ o then o else o ++ [x]) []
theorem unl_snoc (xs : List E) (x : E) : unl (xs ++ [x]) = if x ∈ unl xs then unl xs else unl xs ++ [x] := by rw [unl, List.foldl_append]; rfl
theorem unl_take (xs : List E) (k : Nat) (h : k < xs.length) : unl (xs.take (k + 1)) = if xs[k] ∈ unl (xs.take k) then unl (xs.take k) else unl (xs.take k) ++ [xs[k]] := by
  rw [List.take_succ_eq_append_getElem h, unl_snoc]
theorem unl_nodup (xs : List E) : (unl xs).Nodup := by
  induction xs using snocInd with
  | h0 => simp [unl]
  | h1 l a ih =>
    rw [unl_snoc]
    split
    · exact ih
    · rw [List.nodup_append]
      exact ⟨ih, by simp, fun x hx y hy e => by rw [List.mem_singleton] at hy; subst hy; subst e; contradiction⟩
theorem unl_mem (xs : List E) (x : E) : x ∈ unl xs ↔ x ∈ xs := by
  induction xs using snocInd with
  | h0 => simp [unl]
  | h1 l a ih =>
    rw [unl_snoc]
    split
    · rw [ih, List.mem_append, List.mem_singleton]
      rename_i h
      exact ⟨.inl, fun h' => h'.elim id fun e => by subst e; exact ih.1 h⟩
    · rw [List.mem_append, List.mem_append, ih]
theorem unl_le (xs : List E) : (unl xs).length ≤ xs.length := by
  induction xs using snocInd with
  | h0 => simp [unl]
  | h1 l a ih => rw [unl_snoc]; split <;> simp <;> omega
def mets (o : List E) : List Value := (List.range 256).map (fun v => .bool (decide (E.of v ∈ o)))
theorem mets_get (o : List E) (x : E) : (mets o)[x.val]? = some (.bool (decide (x ∈ o))) := by
  simp [mets, x.lt, E.of_val]
theorem mets_set (o : List E) (x : E) : (mets o).set x.val (.bool true) = mets (o ++ [x]) := by
  apply List.ext_getElem?
  intro i
  rw [List.getElem?_set]
  by_cases h : i < 256
  · have h1 : (mets o)[i]? = some (.bool (decide (E.of i ∈ o))) := by simp [mets, h]
    have h2 : (mets (o ++ [x]))[i]? = some (.bool (decide (E.of i ∈ o ++ [x]))) := by simp [mets, h]
    have hl : (mets o).length = 256 := by simp [mets]
    rw [h2]
    by_cases e : x.val = i
    · subst e; rw [if_pos rfl, if_pos (by rw [hl]; exact h), E.of_val]; simp
    · rw [if_neg e, h1]
      have : E.of i ≠ x := fun e' => e (by rw [← e']; exact E.val_of h)
      simp [this]
  · have hl : (mets o).length = 256 := by simp [mets]
    have hl2 : (mets (o ++ [x])).length = 256 := by simp [mets]
    rw [if_neg (by have := x.lt; omega), List.getElem?_eq_none (by omega), List.getElem?_eq_none (by omega)]
theorem wpList_pushAt {P : Program} {w : World} {t e : TypeId} {z : Value} {bytes : Nat} (E : Elt P t e z bytes) {ops : Array Oper} {rest : List Oper} {o : Oper} {a : Act} {Q : Exit → Act → World → Prop} (hgd : o.guard = none) (s x : Operand)
    (ho : o.op = .call { callee := .builtin .append, args := #[s, x], argTypes := #[t, t] })
    (B : Nat) (v : Value) (xs : List Value) (hs : a.eval s = v) (hown : Own w B e v xs) (u : Value) (g : Nat) (hg : w.heap.size = g) (hx : a.eval x = .slice (some ⟨g, 0, none⟩) 1 1) (h1 : u.oneCell' = true)
    (hbytes : (xs.length + 1) * bytes ≤ 140737488355328) (hB : B ≤ w.heap.size)
    (h : ∀ v' w', Own w' B e v' (xs ++ [u]) → Below B w w' → wpList P ops Q rest (a.put o.dst v') w') :
    wpList P ops Q (o :: rest) a (w.alloc (.cells #[u] e)) := by
  subst hg
  exact wpList_push w E hgd s x ho B v xs hs hown u hx h1 hbytes hB fun v' w' h2 _ h3 _ => h v' w' h2 h3
set_option maxHeartbeats 1000000 in
theorem unlike_n (A : Option Addr) (n : Nat) (xs : List E) (cap : Nat) (w : World) (hn : xs.length = n) (hr : Rd w A (bs xs)) (hlen : n ≤ 140737488355000) :
    Calls Try.prog 59 #[.slice A n cap] w fun e w' => ∃ v, e = .returned v ∧ Own w' w.heap.size 34 v (bs (unl xs)) ∧ Ext w w' := by
  have HN := Lib.hid hn
  clear hn
  go_enter Try.func59, Try.ntmps59
  have hz : Try.zeroCells129 = (mets []).toArray := by kernel_rfl
  go_wp2_with fail
  go_loopw [3, 5] (fun v i wr => ∃ (k : Nat) (V : Value), V = v ∧ k ≤ n ∧ i = .int .i64 k ∧ Ext w wr ∧ Blk wr w.heap.size 129 (mets (unl (xs.take k))).toArray ∧ Own wr (w.heap.size + 1) 34 V (bs (unl (xs.take k)))) (fun _ i _ => n - (intOf i).toNat)
  case atStart => exact ⟨0, _, rfl, by omega, rfl, (Ext.refl _).alloc _, by first | exact Blk.new _ _ _ | (rw [hz]; exact Blk.new _ _ _), Own.nil _ _ _⟩
  case round =>
    clear hz
    obtain ⟨k, V, rfl, hk, rfl, hx, hb, ho⟩ := hrel
    by_cases hlt : k < n
    · have hkt : k < xs.length := by rw [HN.out]; exact hlt
      obtain ⟨ad, rfl, hc⟩ := (hr.ext hx).byte hkt
      have hv := (xs[k]).lt
      have hcm : wr.cell? ⟨w.heap.size, (xs[k]).val, none⟩ = some (.bool (decide (xs[k] ∈ unl (xs.take k)))) := (hb.cell _).trans (by rw [List.getElem?_toArray]; exact mets_get _ _)
      by_cases hin : xs[k] ∈ unl (xs.take k)
      · have HS := Lib.hid (show unl (xs.take (k + 1)) = unl (xs.take k) by rw [unl_take xs k hkt, if_pos hin])
        rw [decide_eq_true hin] at hcm
        clear hin
        go_wp2
        go_roundw
        case rel => exact ⟨k + 1, _, rfl, by omega, by go_num, hx, by rw [HS.out]; exact hb, by rw [HS.out]; exact ho⟩
        case measure => simp [intOf]; omega
      · have HS := Lib.hid (show unl (xs.take (k + 1)) = unl (xs.take k) ++ [xs[k]] by rw [unl_take xs k hkt, if_neg hin])
        rw [decide_eq_false hin] at hcm
        have hf := hb.frozen (xs[k]).val
        have hb2 := hb.set_ (xs[k]).val (.bool true)
        rw [List.setIfInBounds_toArray, mets_set] at hb2
        have ho2 := ho.far (p := ⟨w.heap.size, (xs[k]).val, none⟩) (fun e => by have := (ho.lt _ e).1; simp at this; omega) (.bool true)
        have hx2 := hx.new (p := ⟨w.heap.size, (xs[k]).val, none⟩) (Nat.le_refl _) (.bool true)
        have hc2 : (wr.setCell ⟨w.heap.size, (xs[k]).val, none⟩ (.bool true)).cell? (ad.add k) = some (.int .u8 ((xs[k]).val : Int)) := by
          obtain ⟨ad', e', hc'⟩ := (hr.ext hx2).byte hkt
          injection e' with e'
          subst e'
          exact hc'
        have hlb := hb2.lt
        have hul := unl_le (xs.take k)
        have hbd : ((bs (unl (xs.take k))).length + 1) * 1 ≤ 140737488355328 := by rw [bs_length]; rw [List.length_take] at hul; omega
        have HB2 := Lib.hid hb2
        clear hin hb hb2 ho
        go_wp2_with (at_builtin; refine wpList_pushAt eltEl rfl _ _ (by rfl) (w.heap.size + 1) V _ (by rfl) (by exact ho2) (.int .u8 (xs[k]).val) wr.heap.size (by simp) (by rfl) rfl hbd hlb ?_; intro v' w' ho' hb')
        go_roundw
        case rel =>
          refine ⟨k + 1, _, rfl, by omega, by go_num, Below.trans hx2 (hb'.mono (by omega)), ?_, ?_⟩
          · rw [HS.out]; exact HB2.out.below hb' (by omega)
          · rw [HS.out, bs_append]; exact ho'
        case measure => simp [intOf]; omega
    · obtain rfl : k = n := by omega
      have hta : xs.take k = xs := List.take_of_length_le (by rw [HN.out]; exact Nat.le_refl _)
      rw [hta] at ho
      go_wp2
      go_ret
      exact ⟨_, rfl, ho.mono (by omega), hx⟩
end Go.Proofs.Ytemnlcfabaocbaa
