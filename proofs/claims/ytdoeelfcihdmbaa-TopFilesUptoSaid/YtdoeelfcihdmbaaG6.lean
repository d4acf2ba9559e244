/-
  Texts of mine, merged: FrmX EqW FrmO FrmP.
-/
import Derived.Test.YtdoeelfcihdmbaaG5
import Derived.Lib.AppendStr
import Derived.Laws.IdiomStrings
import Derived.DeepKeys
import Derived.Laws.Cover3
/-
  Layer 8: the sum of a block; a shard as bytes.
-/
namespace Go.Proofs.Ytdoeelfcihdmbaa
open Go.RowKit Gf
set_option maxRecDepth 20000
set_option linter.unusedVariables false

theorem strCells_strB (l : List E) : Lib.strCells (strB l) = bs l := by
  simp only [Lib.strCells, strB, bytesU, bs, List.map_map]
  apply List.map_congr_left
  intro x _
  have := x.lt
  simp only [Function.comp, bv, UInt8.toNat_ofNat']
  rw [Nat.mod_eq_of_lt (by omega)]
section
variable {P : Program}
theorem run_make_cap {t e : TypeId} {z : Value} {bytes : Nat} (E : Elt P t e z bytes) (kl kc : IntKind) (m : Nat) (hb : bytes * m ≤ 281474976710656) (w : World) :
    (Instr.makeSlice t (.int kl 0) (.int kc (m : Int))).run P w = .ok (.slice (some ⟨w.heap.size, 0, none⟩) 0 m) (w.alloc (.cells (zrow z m) e)) := by
  obtain ⟨i, hi, hz, hs, hby⟩ := E.info
  have h63 : m ≤ bytes * m := Nat.le_mul_of_pos_left _ E.pos
  have hb' : (i.bytes : Int) * (m : Int) ≤ 281474976710656 := by
    have h : ((i.bytes * m : Nat) : Int) ≤ 281474976710656 := by rw [hby]; omega
    rwa [Int.natCast_mul] at h
  have hr := run_make (P := P) w t e i z E.ty hi hz kl kc 0 m (by omega) (by omega) hb' (by omega)
  simp only [Int.toNat_natCast, hs, Nat.mul_one, E.cells, Int.toNat_zero] at hr
  exact hr
theorem wpList_bytesOf {ops : Array Oper} {rest : List Oper} {o : Oper} {a : Act} {w : World} {Q : Exit → Act → World → Prop} (hgd : o.guard = none) (src dst e : TypeId) (x : Operand) (ho : o.op = .convert src dst x)
    (hs : P.underlying src = some .string) (hd : P.underlying dst = some (.slice e)) (he : P.underlying e = some (.int .u8)) (key : List E) (hx : a.eval x = .string (strB key))
    (h : ∀ (ad : Addr) c W, Rd W (some ad) (bs key) → Ext w W → wpList P ops Q rest (a.put o.dst (.slice (some ad) key.length c)) W) : wpList P ops Q (o :: rest) a w := by
  refine wpList_plain hgd fun K hK => ?_
  have hr := run_bytes_of_string w src dst e (strB key) hs hd he
  rw [strB_size] at hr
  unfold Oper.wp execOp
  simp only [ho, hx, Sem.run_bind, hr, Result.andThen_ok, Sem.run_pure]
  refine hK _ _ (h _ _ _ (fun _ => ⟨_, rfl, fun j u hu => ?_⟩) (((Ext.refl w).drewN 1).alloc _))
  rw [add_plain]
  have hg : (w.drew.alloc (.cells (bytesRow (strB key) (grownCap w key.length 0 e)) e ((bytesRow (strB key) (grownCap w key.length 0 e)).size, (bytesRow (strB key) (grownCap w key.length 0 e)).size + 1))).heap[w.heap.size]? = some (.cells (bytesRow (strB key) (grownCap w key.length 0 e)) e ((bytesRow (strB key) (grownCap w key.length 0 e)).size, (bytesRow (strB key) (grownCap w key.length 0 e)).size + 1)) := by
    exact heap_alloc_new w.drew _
  have hc := cell_of_row _ w.heap.size j _ _ _ hg
  rw [hc]
  have hl : j < key.length := by have := (List.getElem?_eq_some_iff.1 hu).1; rwa [bs_length] at this
  rw [← strCells_strB] at hu
  rw [bytesRow, Array.getElem?_append_left (by rw [Array.size_map]; show j < (bytesU key).toArray.size; rw [List.size_toArray, bytesU_length]; exact hl)]
  rw [← hu, Lib.strCells, List.getElem?_map, Array.getElem?_map, Array.getElem?_toList]
end
theorem write_len {A : Option Addr} {n c B : Nat} {xs : List E} {w : World} (h : Own w B 5 (.slice A n c) (bs xs)) : xs.length = n := by have := h.len; rw [bs_length] at this; exact this.symm
set_option maxHeartbeats 4000000 in
theorem ownSum_n (sum j : Nat) (A : Option Addr) (n c : Nat) (xs : List E) (w : World) (hsum : sum < 2 ^ 32) (hj : j ≤ 4294967295) (hn : xs.length = n) (hA : Rd w A (bs xs)) (hlen : n ≤ 9000000000000000) :
    Calls Try.prog 106 #[.int .u32 (sum : Int), .int .i64 (j : Int), .slice A n c] w fun e w' => e = .returned (.int .u32 (frameSum sum j xs : Int)) ∧ Ext w w' := by
  have HN := Lib.hid hn
  have HA := Lib.hid hA
  have hst : StreamAt (w.alloc (.cells #[.int .u32 0, .int .u64 0] 216)) w.heap.size 0 := ⟨0, Blk.new _ _ _⟩
  have HST := Lib.hid hst
  have HX0 := Lib.hid ((Ext.refl w).alloc (.cells #[.int .u32 0, .int .u64 0] 216))
  clear hn hA hst
  go_enter Try.func106, Try.ntmps106
  go_wp2_with fail
  refine (put32_n none 0 0 sum [] _ rfl (Rd.nil _ _) (by omega) hsum).mono ?_
  rintro e w1 ⟨v1, rfl, ho, hx⟩
  obtain ⟨A1, n1, c1, rfl⟩ : ∃ A n c, v1 = Value.slice A n c := by obtain ⟨A, c, h⟩ := ho.anySlice; exact ⟨_, _, _, h⟩
  have HO := Lib.hid ho
  have HL1 := Lib.hid (write_len ho)
  have HX1 := Lib.hid (HX0.out.trans hx)
  have HS1 : Hid (StreamAt w1 w.heap.size 0) := Lib.hid (by obtain ⟨c, hb⟩ := HST.out; exact ⟨c, hb.below hx hb.lt⟩)
  clear ho hx HST HX0
  go_wp2_with fail
  refine (put32_n A1 n1 c1 j _ _ HL1.out HO.out.rd (by have := HL1.out; simp [le_length] at this; omega) (by omega)).mono ?_
  rintro e w2 ⟨v2, rfl, ho, hx⟩
  obtain ⟨A2, n2, c2, rfl⟩ : ∃ A n c, v2 = Value.slice A n c := by obtain ⟨A, c, h⟩ := ho.anySlice; exact ⟨_, _, _, h⟩
  have HO2 := Lib.hid ho
  have HL2 := Lib.hid (write_len ho)
  have HX2 := Lib.hid (HX1.out.trans hx)
  have HS2 : Hid (StreamAt w2 w.heap.size 0) := Lib.hid (by obtain ⟨c, hb⟩ := HS1.out; exact ⟨c, hb.below hx hb.lt⟩)
  clear ho hx HS1 HX1 HO HL1
  go_wp2_with fail
  refine (write_n w.heap.size 0 A2 n2 c2 _ _ HS2.out (by decide) HL2.out HO2.out.rd (by have := HL2.out; simp [le_length] at this; omega)).mono ?_
  rintro e w3 ⟨rfl, hs3, ht3⟩
  have HX3 := Lib.hid (ht3.extNew HX2.out (Nat.le_refl _))
  have HS3 := Lib.hid hs3
  clear hs3 ht3 HX2 HS2 HO2 HL2
  go_wp2_with fail
  refine (write_n w.heap.size _ A n c xs _ HS3.out (crcM_lt (by decide) _) HN.out (HA.out.ext HX3.out) (by omega)).mono ?_
  rintro e w4 ⟨rfl, hs4, ht4⟩
  have HX4 := Lib.hid (ht4.extNew HX3.out (Nat.le_refl _))
  have HS4 := Lib.hid hs4
  clear hs4 ht4 HX3 HS3
  go_wp2_with fail
  refine (sumS_n w.heap.size _ _ HS4.out).mono ?_
  rintro e w' ⟨rfl, rfl⟩
  have HF : Hid (crcM (crcM 0 ([] ++ le 4 sum ++ le 4 j)) xs = frameSum sum j xs) := Lib.hid (by rw [crcM_append, List.nil_append, List.append_assoc]; rfl)
  rw [HF.out]
  go_wp2_with fail
  go_ret
  exact ⟨rfl, HX4.out⟩
/-- A shard's cells. -/
def shardC (h : HeadP) (v : Value) : Array Value := #[bv (h.store.getD 0 0), bv (h.store.getD 1 0), bv (h.store.getD 2 0), bv (h.store.getD 3 0), bv (h.store.getD 4 0), bv (h.store.getD 5 0), bv (h.store.getD 6 0), bv (h.store.getD 7 0),
  .int .i64 (h.k : Int), .int .i64 (h.m : Int), .int .i64 (h.blk : Int), .string (strB h.key), .int .i64 (h.size : Int), .int .i64 (h.idx : Int), .int .i64 (h.epoch : Int), .int .i64 (h.count : Int), v]
theorem shard_head (h : HeadP) (v : Value) : ∀ (j : Nat) (u : Value), (headC h)[j]? = some u → (shardC h v)[0 + j]? = some u := fun j u hu => by
  have hl : j < 16 := (Array.getElem?_eq_some_iff.1 hu).1
  obtain rfl | rfl | rfl | rfl | rfl | rfl | rfl | rfl | rfl | rfl | rfl | rfl | rfl | rfl | rfl | rfl : j = 0 ∨ j = 1 ∨ j = 2 ∨ j = 3 ∨ j = 4 ∨ j = 5 ∨ j = 6 ∨ j = 7 ∨ j = 8 ∨ j = 9 ∨ j = 10 ∨ j = 11 ∨ j = 12 ∨ j = 13 ∨ j = 14 ∨ j = 15 := by omega
  all_goals exact hu
theorem shard_shape (h : HeadP) (v : Value) : ∀ (j : Nat) (u : Value), (shapeC h)[j]? = some u → (shardC h v)[8 + j]? = some u := fun j u hu => by
  have := shard_head h v (8 + j) u (shape_in h j u hu)
  rwa [Nat.zero_add] at this
/-- What is laid so far. -/
structure Enc (w wr : World) (g : Nat) (h : HeadP) (bv_ v : Value) (xs : List E) : Prop where
  ext : Ext w wr
  box : Blk wr g 50 (shardC h bv_)
  own : Own wr w.heap.size 5 v (bs xs)
theorem Enc.beyond {w wr w' : World} {g : Nat} {h : HeadP} {b v : Value} {xs : List E} (e : Enc w wr g h b v xs) (hx : Ext wr w') : Enc w w' g h b v xs := ⟨e.ext.trans hx, e.box.below hx e.box.lt, e.own.ext hx⟩
theorem Enc.app {w wr w' : World} {g : Nat} {h : HeadP} {b v v' : Value} {xs ys : List E} (e : Enc w wr g h b v xs) (ho : Own w' w.heap.size 5 v' (bs xs ++ bs ys)) (hm : w.heap.size ≤ wr.heap.size → wr.grownBy w' v.ownBlock) : Enc w w' g h b v' (xs ++ ys) :=
  ⟨e.ext.below.trans (Below.grown (Below.refl _ _) (hm e.ext.le) e.ext.le fun q hq => (e.own.lt q hq).1), e.box.grown (hm e.ext.le) (fun k => e.own.notBlk e.box (by decide) k.symm), by rw [bs_append]; exact ho⟩
theorem framesF_snoc (sum : Nat) : ∀ (l : List (List E)) (j : Nat) (x : List E), framesF sum j (l ++ [x]) = framesF sum j l ++ (x ++ le 4 (frameSum sum (j + l.length) x))
  | [], j, x => by simp [framesF]
  | y :: l, j, x => by
    rw [List.cons_append, framesF, framesF_snoc sum l (j + 1) x, framesF, List.length_cons]
    simp only [List.append_assoc]
    rw [show j + 1 + l.length = j + (l.length + 1) by omega]
theorem sum4_take (l : List Nat) (j : Nat) : sum4 (l.take j) ≤ sum4 l := by
  conv => rhs; rw [← List.take_append_drop j l]
  simp only [sum4, List.map_append, List.sum_append]; omega
theorem frames_len (sum : Nat) (l : List (List E)) (j : Nat) : (framesF sum j l).length = sum4 (l.map List.length) := by
  rw [framesF_length, sum4, List.map_map]; rfl
theorem headBytes_len {h : HeadP} (hs : h.store.length = 8) : (headBytesP h).length = 40 + h.key.length := by
  simp only [headBytesP, List.length_append, fixedP_length hs, le_length]; omega
set_option maxHeartbeats 16000000 in
theorem encode_shard (h : HeadP) (A : Option Addr) (nb c : Nat) (bls : List (List E)) (w : World) (ho : okHead h) (hs : h.store.length = 8) (hl : bls.map List.length = sizesP h.k h.blk h.size) (hnb : bls.length = nb) (hr : RdRows w A bls) :
    Calls Try.prog 33 #[.agg (shardC h (.slice A nb c))] w fun e w' => ∃ v, e = .returned (.tuple #[v, .int .i64 0]) ∧ Own w' w.heap.size 5 v (bs (formP h bls)) ∧ Ext w w' := by
  obtain ⟨b1, b2, b3, b4, b5, b6, b7, b8⟩ := head_small ho
  have hb : Blk (w.alloc (.cells (shardC h (.slice A nb c)) 50)) w.heap.size 50 (shardC h (.slice A nb c)) := Blk.new _ _ _
  have HB := Lib.hid hb
  have HX := Lib.hid ((Ext.refl w).alloc (.cells (shardC h (.slice A nb c)) 50))
  have hnq : nb = stripesP h.k h.blk h.size := by rw [← hnb, ← sizesP_length, ← hl, List.length_map]
  have hn4 : nb ≤ 4096 := by rw [hnq]; exact ho.2.2.2.2.1
  have HNQ := Lib.hid hnq
  have HO := Lib.hid ho
  have HS := Lib.hid hs
  have HL := Lib.hid hl
  have HNB := Lib.hid hnb
  have HR := Lib.hid hr
  have HARM : Hid (∀ w', Blk w' w.heap.size 50 (shardC h (.slice A nb c)) → ∀ j v, (shapeC h)[j]? = some v → w'.cell? ((⟨w.heap.size, 8, none⟩ : Addr).add j) = some v) := Lib.hid fun w' hb => hb.sub 8 (shapeC h) (shard_shape h _)
  have HARH : Hid (∀ w', Blk w' w.heap.size 50 (shardC h (.slice A nb c)) → ∀ j v, (headC h)[j]? = some v → w'.cell? ((⟨w.heap.size, 0, none⟩ : Addr).add j) = some v) := Lib.hid fun w' hb => hb.sub 0 (headC h) (shard_head h _)
  clear ho hs hl hnb hr hb hnq
  go_enter Try.func33, Try.ntmps33
  go_wp2_with (refine wpList_load_at rfl 43 _ rfl ⟨w.heap.size, 0, none⟩ rfl (headC h) _ (HARH.out _ HB.out) Try.underlying43 rfl (by kernel_rfl) ?_)
  refine (fcheck_n h _ (by omega) (by omega) (by omega) (by omega) (by omega) (by omega) (by omega)).mono ?_
  rintro e w1 ⟨⟨z, rfl, hz0⟩, hx1⟩
  obtain rfl : z = 0 := hz0.2 HO.out
  have HB1 := Lib.hid (HB.out.below hx1 HB.out.lt)
  have HX1 := Lib.hid (HX.out.trans hx1)
  have c12 := HB1.out.cell 12
  rw [show (shardC h (.slice A nb c))[12]? = some (.int .i64 (h.size : Int)) from rfl] at c12
  clear hx1 hz0 HB HX
  go_wp2_with (refine wpList_load_at rfl 39 _ rfl ⟨w.heap.size, 8, none⟩ rfl (shapeC h) _ (HARM.out _ HB1.out) Try.underlying39 rfl (by kernel_rfl) ?_)
  refine (lengths_n h.k h.m h.blk h.size _ HO.out.1 HO.out.size_).mono ?_
  rintro e w2 ⟨v5, rfl, ho5, hx2⟩
  obtain ⟨A5, c5, rfl, hr5, -, -, -⟩ := ho5.slice
  have HN5 : Hid ((ints (sizesP h.k h.blk h.size)).length = nb) := Lib.hid (by rw [ints_length, sizesP_length, HNQ.out])
  rw [HN5.out]
  have HR5 := Lib.hid hr5
  have HB2 := Lib.hid (HB1.out.below hx2 HB1.out.lt)
  have HX2 := Lib.hid (HX1.out.trans hx2)
  have c16 := HB2.out.cell 16
  rw [show (shardC h (.slice A nb c))[16]? = some (.slice A nb c) from rfl] at c16
  clear hx2 ho5 hr5 HB1 HX1 c12
  go_wp2_with fail
  go_loop [35] (fun i => ∃ j : Nat, j ≤ nb ∧ i = .int .i64 j) (fun i => nb - (intOf i).toNat)
  case atStart => exact ⟨0, by omega, rfl⟩
  case round =>
    obtain ⟨j, hj, rfl⟩ := hrel
    by_cases hlt : j < nb
    · have hjb : j < bls.length := by rw [HNB.out]; exact hlt
      have hjl : j < (sizesP h.k h.blk h.size).length := by rw [sizesP_length, ← HNQ.out]; exact hlt
      obtain ⟨x, hx⟩ : ∃ x, x = bls[j].length := ⟨_, rfl⟩
      have hxe : (sizesP h.k h.blk h.size)[j] = x := by
        have : (bls.map List.length)[j]? = some x := by rw [List.getElem?_map, List.getElem?_eq_getElem hjb, hx]; rfl
        rw [HL.out, List.getElem?_eq_getElem hjl] at this
        exact Option.some.inj this
      obtain ⟨ad, rfl, hc⟩ := HR5.out.at_ (k := j) (u := .int .i64 (x : Int)) (by rw [ints_at, List.getElem?_eq_getElem hjl, hxe]; rfl)
      obtain ⟨bd, B1, cb, rfl, hc2, -, -, -⟩ := (HR.out.ext HX2.out).at_ hjb
      rw [← hx] at hc2
      have hjn : (j : Int) < (nb : Int) := by omega
      clear hx hxe
      go_wp2_with fail
      go_round
      case rel => exact ⟨j + 1, by omega, by go_num⟩
      case measure => simp [intOf]; omega
    · obtain rfl : nb = j := by omega
      clear HR5
      go_wp2_with (refine wpList_load_at rfl 43 _ rfl ⟨w.heap.size, 0, none⟩ rfl (headC h) _ (HARH.out _ HB2.out) Try.underlying43 rfl (by kernel_rfl) ?_)
      refine (first_n h _ HO.out HS.out).mono ?_
      rintro e w3 ⟨v8, rfl, ho8, hx3⟩
      obtain ⟨A8, n8, c8, rfl⟩ : ∃ A n c, v8 = Value.slice A n c := by obtain ⟨A, c, h⟩ := ho8.anySlice; exact ⟨_, _, _, h⟩
      have HO8 := Lib.hid ho8
      have HL8 := Lib.hid (write_len ho8)
      have h32 : n8 = 32 := by rw [← HL8.out]; exact fixedP_length HS.out
      have H32 := Lib.hid h32
      have hn8 : n8 ≤ 100 := by omega
      have HB3 := Lib.hid (HB2.out.below hx3 HB2.out.lt)
      have HX3 := Lib.hid (HX2.out.trans hx3)
      clear hx3 ho8 HB2 HX2 c16 h32
      go_wp2_with fail
      refine (sum_n A8 n8 c8 _ _ HL8.out HO8.out.rd (by omega)).mono ?_
      rintro e w4 ⟨rfl, hx4⟩
      have HO84 := Lib.hid (HO8.out.ext hx4)
      have HB4 := Lib.hid (HB3.out.below hx4 HB3.out.lt)
      have HX4 := Lib.hid (HX3.out.trans hx4)
      have c11 := HB4.out.cell 11
      rw [show (shardC h (.slice A nb c))[11]? = some (.string (strB h.key)) from rfl] at c11
      obtain ⟨one, hone⟩ : ∃ one, one = crcS (fixedP h) := ⟨_, rfl⟩
      have honel : one < 2 ^ 32 := by rw [hone]; exact crcS_lt _
      rw [← hone]
      have HONE := Lib.hid hone
      clear hx4 HO8 HB3 HX3 hone
      go_wp2_with (refine wpList_bytesOf rfl 9 24 5 _ rfl Try.underlying9 Try.underlying24 (by kernel_rfl) h.key rfl ?_)
      intro adk ck w5 hrk hx5
      have HO85 := Lib.hid (HO84.out.ext hx5)
      have HB5 := Lib.hid (HB4.out.below hx5 HB4.out.lt)
      have HX5 := Lib.hid (HX4.out.trans hx5)
      have HRK := Lib.hid hrk
      clear hrk hx5 HO84 HB4 HX4 c11
      go_wp2_with fail
      refine (more_n one (some adk) h.key.length ck h.key _ honel rfl HRK.out (by omega)).mono ?_
      rintro e w6 ⟨rfl, hx6⟩
      obtain ⟨hd, hhd⟩ : ∃ hd, hd = crcM one h.key := ⟨_, rfl⟩
      have hhdl : hd < 2 ^ 32 := by rw [hhd]; exact crcM_lt honel _
      have HHD : Hid (hd = sumP h) := Lib.hid (by rw [hhd, HONE.out, crcM_crcS]; rfl)
      rw [← hhd]
      have HO86 := Lib.hid (HO85.out.ext hx6)
      have HB6 := Lib.hid (HB5.out.below hx6 HB5.out.lt)
      have HX6 := Lib.hid (HX5.out.trans hx6)
      clear hx6 HO85 HB5 HX5 hhd HRK
      go_wp2_with (refine wpList_load_at rfl 43 _ rfl ⟨w.heap.size, 0, none⟩ rfl (headC h) _ (HARH.out _ HB6.out) Try.underlying43 rfl (by kernel_rfl) ?_)
      refine (length_n h _ HO.out).mono ?_
      rintro e w7 ⟨rfl, hx7⟩
      obtain ⟨L, hL⟩ : ∃ L, L = lenP h := ⟨_, rfl⟩
      have hLb : L ≤ 1000000000 := by
        have h1 := sum4_le (l := sizesP h.k h.blk h.size) (n := 65536) fun y hy => Nat.le_trans (sizesP_le (by have := HO.out.1.1; have := HO.out.1.2.1; omega) y hy) HO.out.1.2.2.2.2
        have h2 : (sizesP h.k h.blk h.size).length ≤ 4096 := by rw [sizesP_length]; exact HO.out.2.2.2.2.1
        have h3 := Nat.mul_le_mul_right (65536 + 4) h2
        rw [hL, lenP]
        unfold sum4 at h1
        omega
      rw [← hL]
      have HLL := Lib.hid hL
      have HO87 := Lib.hid (HO86.out.ext hx7)
      have hmk := fun w => run_make_cap (P := Try.prog) eltU8 .i64 .i64 L (by omega) w
      have he7 : Enc w (w7.alloc (.cells (zrow (.int .u8 0) L) 5)) w.heap.size h (.slice A nb c) (.slice (some ⟨w7.heap.size, 0, none⟩) 0 L) [] := ⟨(HX6.out.trans hx7).alloc _, (HB6.out.below hx7 HB6.out.lt).alloc _, (Blk.new w7 5 (zrow (.int .u8 0) L)).own (n := 0) (HX6.out.trans hx7).le (Nat.zero_le _) (by unfold maxLen; omega) (zrow_size _ _)⟩
      have HE7 := Lib.hid he7
      have hbd : (([] : List Value).length + n8) * 1 ≤ 140737488355328 := by simp; omega
      clear hx7 HO86 HB6 HX6 hL he7
      go_wp2_with (at_builtin; refine wpList_app (w7.alloc (.cells (zrow (.int .u8 0) L) 5)) eltU8 rfl _ _ (by rfl) w.heap.size (.slice (some ⟨w7.heap.size, 0, none⟩) 0 L) [] (by rfl) (by exact HE7.out.own) A8 n8 c8 (bs (fixedP h)) (by rfl) (HO87.out.rd.alloc _) (by rw [bs_length, HL8.out]) (bs_ones _) hbd HE7.out.ext.le ?_)
      intro v9 w9 ho9 hm9
      obtain ⟨A9, n9, c9, rfl⟩ : ∃ A n c, v9 = Value.slice A n c := by obtain ⟨A, c, h⟩ := ho9.anySlice; exact ⟨_, _, _, h⟩
      have HE9 := Lib.hid (HE7.out.app (ys := fixedP h) ho9 fun _ => hm9.grown)
      clear ho9 hm9 hbd HE7 HO87 hmk
      have hl9 : ([] ++ fixedP h).length = 32 := by rw [List.nil_append]; exact fixedP_length HS.out
      have HL9 := Lib.hid hl9
      clear hl9
      go_wp2_with fail
      refine (put32_n none 0 0 one [] _ rfl (Rd.nil _ _) (by omega) honel).mono ?_
      rintro e w10 ⟨v10, rfl, ho, hx⟩
      obtain ⟨A10, n10, c10, rfl⟩ : ∃ A n c, v10 = Value.slice A n c := by obtain ⟨A, c, h⟩ := ho.anySlice; exact ⟨_, _, _, h⟩
      have HO10 := Lib.hid ho
      have HL10 := Lib.hid (write_len ho)
      have h4 : n10 = 4 := by rw [← HL10.out]; rfl
      have HE10 := Lib.hid (HE9.out.beyond hx)
      have hbd : ((bs ([] ++ fixedP h)).length + n10) * 1 ≤ 140737488355328 := by rw [bs_length, HL9.out]; omega
      clear ho hx HE9 h4
      go_wp2_with (at_builtin; refine wpList_app w10 eltU8 rfl _ _ (by rfl) w.heap.size (.slice A9 n9 c9) (bs ([] ++ fixedP h)) (by rfl) (by exact HE10.out.own) A10 n10 c10 (bs ([] ++ le 4 one)) (by rfl) (HO10.out.rd) (by rw [bs_length, HL10.out]) (bs_ones _) hbd HE10.out.ext.le ?_)
      intro v11 w11 ho hm
      obtain ⟨A11, n11, c11, rfl⟩ : ∃ A n c, v11 = Value.slice A n c := by obtain ⟨A, c, h⟩ := ho.anySlice; exact ⟨_, _, _, h⟩
      have HE11 : Hid (Enc w w11 w.heap.size h (.slice A nb c) (.slice A11 n11 c11) (fixedP h ++ le 4 one)) := Lib.hid (by
        have := HE10.out.app (ys := le 4 one) (by simpa using ho) fun _ => hm.grown
        simpa using this)
      have hl11 : (fixedP h ++ le 4 one).length = 36 := by rw [List.length_append, fixedP_length HS.out, le_length]
      have HL11 := Lib.hid hl11
      have c11' := HE11.out.box.cell 11
      rw [show (shardC h (.slice A nb c))[11]? = some (.string (strB h.key)) from rfl] at c11'
      obtain ⟨iu, hi1, hi2, hi3, hi4⟩ := eltU8.info
      have HI := Lib.hid (And.intro hi1 (And.intro hi2 (And.intro hi3 hi4)))
      have hkb : (bs (fixedP h ++ le 4 one)).length + (strB h.key).size ≤ 140737488355328 := by rw [bs_length, HL11.out, strB_size]; omega
      have HKB := Lib.hid hkb
      clear ho hm hbd HE10 HO10 hl11 hi1 hi2 hi3 hi4 hkb
      go_wp2_with (at_builtin; refine Lib.wpList_append_own_string w11 rfl _ _ 24 9 (by rfl) w.heap.size 5 iu Try.underlying24 Try.underlying9 HI.out.1 HI.out.2.1 HI.out.2.2.1 HI.out.2.2.2 (.slice A11 n11 c11) _ (bs (fixedP h ++ le 4 one)) (by rfl) (by exact HE11.out.own) (strB h.key) (by rfl) (by have := HKB.out; unfold maxLen; omega) HKB.out HE11.out.ext.le ?_)
      intro v12 w12 ho hg hnil
      have ho12 : Own w12 w.heap.size 5 v12 (bs (fixedP h ++ le 4 one) ++ bs h.key) := by
        rw [strCells_strB] at ho
        rw [Own, List.length_append, bs_length h.key, ← strB_size h.key]; exact ho
      obtain ⟨A12, n12, c12, rfl⟩ : ∃ A n c, v12 = Value.slice A n c := by obtain ⟨A, c, h⟩ := ho12.anySlice; exact ⟨_, _, _, h⟩
      have HE12 := Lib.hid (HE11.out.app (ys := h.key) ho12 fun _ => hg)
      clear ho hg hnil ho12 HE11 c11' HI HKB
      go_wp2_with fail
      refine (put32_n none 0 0 hd [] _ rfl (Rd.nil _ _) (by omega) hhdl).mono ?_
      rintro e w13 ⟨v13, rfl, ho, hx⟩
      obtain ⟨A13, n13, c13, rfl⟩ : ∃ A n c, v13 = Value.slice A n c := by obtain ⟨A, c, h⟩ := ho.anySlice; exact ⟨_, _, _, h⟩
      have HO13 := Lib.hid ho
      have HL13 := Lib.hid (write_len ho)
      have h4 : n13 = 4 := by rw [← HL13.out]; rfl
      have HE13 := Lib.hid (HE12.out.beyond hx)
      have hbd : ((bs (fixedP h ++ le 4 one ++ h.key)).length + n13) * 1 ≤ 140737488355328 := by rw [bs_length, List.length_append, HL11.out]; omega
      clear ho hx HE12 h4
      go_wp2_with (at_builtin; refine wpList_app w13 eltU8 rfl _ _ (by rfl) w.heap.size (.slice A12 n12 c12) (bs (fixedP h ++ le 4 one ++ h.key)) (by rfl) (by exact HE13.out.own) A13 n13 c13 (bs ([] ++ le 4 hd)) (by rfl) (HO13.out.rd) (by rw [bs_length, HL13.out]) (bs_ones _) hbd HE13.out.ext.le ?_)
      intro v14 w14 ho hm
      obtain ⟨A14, n14, c14, rfl⟩ : ∃ A n c, v14 = Value.slice A n c := by obtain ⟨A, c, h⟩ := ho.anySlice; exact ⟨_, _, _, h⟩
      have HE14 : Hid (Enc w w14 w.heap.size h (.slice A nb c) (.slice A14 n14 c14) (headBytesP h ++ framesF (sumP h) 0 (bls.take 0))) := Lib.hid (by
        have := HE13.out.app (ys := le 4 hd) (by simpa [List.append_assoc] using ho) fun _ => hm.grown
        have e : fixedP h ++ le 4 one ++ h.key ++ le 4 hd = headBytesP h ++ framesF (sumP h) 0 (bls.take 0) := by
          simp [headBytesP, framesF, HONE.out, HHD.out, List.append_assoc]
        rw [← e]; exact this)
      have c16 := HE14.out.box.cell 16
      rw [show (shardC h (.slice A nb c))[16]? = some (.slice A nb c) from rfl] at c16
      clear ho hm hbd HE13 HO13
      go_wp2_with fail
      clear c16
      go_loopw [11, 83] (fun u i wr => ∃ (j : Nat) (u' : Value), u' = u ∧ j ≤ nb ∧ i = .int .i64 j ∧ Enc w wr w.heap.size h (.slice A nb c) u' (headBytesP h ++ framesF (sumP h) 0 (bls.take j))) (fun _ i _ => nb - (intOf i).toNat)
      case atStart => exact ⟨0, _, rfl, by omega, rfl, HE14.out⟩
      case round =>
        clear HE14
        obtain ⟨W, rfl⟩ : ∃ W, W = wr := ⟨_, rfl⟩
        obtain ⟨j, u, rfl, hj, rfl, he⟩ := hrel
        obtain ⟨Au, nu, cu, rfl⟩ : ∃ A n c, u = Value.slice A n c := by obtain ⟨A, c, h⟩ := he.own.anySlice; exact ⟨_, _, _, h⟩
        by_cases hlt : j < nb
        · have hjb : j < bls.length := by rw [HNB.out]; exact hlt
          obtain ⟨bd, B1, cb, hAe, hc20, hrb0, -, -⟩ := HR.out.at_ hjb
          subst hAe
          have hc2 := (he.ext.below.cell (p := bd.add j) (World.block_lt_of_cell? _ _ hc20)).trans hc20
          have hrb := hrb0
          clear hrb0 hc20
          obtain ⟨X, hX⟩ : ∃ X, X = bls[j] := ⟨_, rfl⟩
          obtain ⟨x, hx⟩ : ∃ x, x = X.length := ⟨_, rfl⟩
          have hlen : (headBytesP h ++ framesF (sumP h) 0 (bls.take j)).length ≤ L := by
            rw [List.length_append, headBytes_len HS.out, frames_len, List.map_take, HL.out, HLL.out, lenP]
            exact Nat.add_le_add_left (sum4_take _ _) _
          have hxb : x ≤ 65536 := by
            have hm : x ∈ sizesP h.k h.blk h.size := by rw [← HL.out, hx, hX]; exact List.mem_map_of_mem (List.getElem_mem hjb)
            exact Nat.le_trans (sizesP_le (by have := HO.out.1.1; have := HO.out.1.2.1; omega) x hm) HO.out.1.2.2.2.2
          rw [← hX] at hc2 hrb
          rw [← hx] at hc2
          have HX_ := Lib.hid hX
          have Hx := Lib.hid hx
          have HE := Lib.hid he
          have HRB := Lib.hid hrb
          have hbd : ((bs (headBytesP h ++ framesF (sumP h) 0 (bls.take j))).length + x) * 1 ≤ 140737488355328 := by rw [bs_length]; omega
          have hjn : (j : Int) < (nb : Int) := by omega
          clear he hrb hX hx
          go_wp2_with (at_builtin; refine wpList_app W eltU8 rfl _ _ (by rfl) w.heap.size (.slice Au nu cu) (bs (headBytesP h ++ framesF (sumP h) 0 (bls.take j))) (by rfl) (by exact HE.out.own) B1 x cb (bs X) (by rfl) (by exact HRB.out.ext HE.out.ext) (by rw [bs_length, Hx.out]) (bs_ones _) hbd HE.out.ext.le ?_)
          intro v1 W1 ho hm
          obtain ⟨Av, nv, cv, rfl⟩ : ∃ A n c, v1 = Value.slice A n c := by obtain ⟨A, c, h⟩ := ho.anySlice; exact ⟨_, _, _, h⟩
          have HE1 := Lib.hid (HE.out.app (ys := X) (by simpa [List.append_assoc] using ho) fun _ => hm.grown)
          clear ho hm hbd hc2
          go_wp2_with fail
          refine (ownSum_n hd j B1 x cb X _ hhdl (by omega) Hx.out.symm (HRB.out.ext HE1.out.ext) (by omega)).mono ?_
          rintro e W2 ⟨rfl, hx2⟩
          obtain ⟨fs, hfs⟩ : ∃ fs, fs = frameSum hd j X := ⟨_, rfl⟩
          have hfsl : fs < 2 ^ 32 := by rw [hfs]; exact crcS_lt _
          have HFS := Lib.hid hfs
          rw [← hfs]
          have HE2 := Lib.hid (HE1.out.beyond hx2)
          clear hx2 hfs HE1 HE
          go_wp2_with fail
          refine (put32_n none 0 0 fs [] _ rfl (Rd.nil _ _) (by omega) hfsl).mono ?_
          rintro e W3 ⟨v3, rfl, ho, hx⟩
          obtain ⟨A3, n3, c3, rfl⟩ : ∃ A n c, v3 = Value.slice A n c := by obtain ⟨A, c, h⟩ := ho.anySlice; exact ⟨_, _, _, h⟩
          have HO3 := Lib.hid ho
          have HL3 := Lib.hid (write_len ho)
          have h4 : n3 = 4 := by rw [← HL3.out]; rfl
          have HE3 := Lib.hid (HE2.out.beyond hx)
          have hbd : ((bs (headBytesP h ++ framesF (sumP h) 0 (bls.take j) ++ X)).length + n3) * 1 ≤ 140737488355328 := by rw [bs_length, List.length_append, ← Hx.out]; omega
          clear ho hx HE2 h4
          go_wp2_with (at_builtin; refine wpList_app W3 eltU8 rfl _ _ (by rfl) w.heap.size (.slice Av nv cv) (bs (headBytesP h ++ framesF (sumP h) 0 (bls.take j) ++ X)) (by rfl) (by exact HE3.out.own) A3 n3 c3 (bs ([] ++ le 4 fs)) (by rfl) (HO3.out.rd) (by rw [bs_length, HL3.out]) (bs_ones _) hbd HE3.out.ext.le ?_)
          intro v4 W4 ho hm
          have HE4 : Hid (Enc w W4 w.heap.size h (.slice (some bd) nb c) v4 (headBytesP h ++ framesF (sumP h) 0 (bls.take (j + 1)))) := Lib.hid (by
            have := HE3.out.app (ys := le 4 fs) (by simpa [List.append_assoc] using ho) fun _ => hm.grown
            have e : headBytesP h ++ framesF (sumP h) 0 (bls.take j) ++ X ++ le 4 fs = headBytesP h ++ framesF (sumP h) 0 (bls.take (j + 1)) := by
              rw [take_snoc' _ j hjb, framesF_snoc, List.length_take, Nat.min_eq_left (by omega), ← HX_.out, HFS.out, HHD.out, Nat.zero_add]
              simp only [List.append_assoc]
            rw [← e]; exact this)
          clear ho hm hbd HE3 HO3
          go_wp2_with fail
          go_roundw
          case rel => exact ⟨j + 1, v4, rfl, by omega, by go_num, HE4.out⟩
          case measure => simp [intOf]; omega
        · obtain rfl : nb = j := by omega
          have HF : Hid (Enc w W w.heap.size h (.slice A nb c) (.slice Au nu cu) (formP h bls)) := Lib.hid (by
            rw [List.take_of_length_le (by rw [HNB.out]; exact Nat.le_refl _)] at he
            exact he)
          clear he
          go_wp2_with fail
          go_ret2
          exact ⟨_, rfl, HF.out.own, HF.out.ext⟩
end Go.Proofs.Ytdoeelfcihdmbaa
/-
  Heads are compared.
-/
namespace Go.Proofs.Ytdoeelfcihdmbaa
open Go.RowKit Gf
set_option maxRecDepth 20000
set_option linter.unusedVariables false

section
variable {P : Program}
/-- What is compared goes by the literals. -/
theorem eq_lits {t : TypeId} {m D D' : Nat} (hk : P.keyTypeAt m t = true) (hm : m ≤ 10000) (xs ys : Array Value) (lx ly : List Lit) (fx : (Value.agg xs).formed P t = true) (fy : (Value.agg ys).formed P t = true) (hx : P.keyLits D t xs.toList = some lx) (hy : P.keyLits D' t ys.toList = some ly) (w : World) :
    ∃ r : Bool, (binOp .neq t (.agg xs) (.agg ys)).run P w = .ok (.bool (!r)) w ∧ (binOp .eql t (.agg xs) (.agg ys)).run P w = .ok (.bool r) w ∧ (r = true ↔ lx = ly) := by
  have h := run_equalIn_deep (P := P) (10000 - m) m t hk w D D' (.agg xs) (.agg ys) lx ly fx fy (by simpa [Value.cells] using hx) (by simpa [Value.cells] using hy)
  rw [show 10000 - m + m = 10000 by omega] at h
  obtain ⟨r, h1, h2⟩ := h
  exact ⟨r, by rw [run_neq_struct, h1]; rfl, by rw [run_eql_struct, h1]; rfl, h2⟩
end
def hLits (h : HeadP) : List Lit := [.int .u8 ((h.store.getD 0 0).val : Int), .int .u8 ((h.store.getD 1 0).val : Int), .int .u8 ((h.store.getD 2 0).val : Int), .int .u8 ((h.store.getD 3 0).val : Int), .int .u8 ((h.store.getD 4 0).val : Int), .int .u8 ((h.store.getD 5 0).val : Int), .int .u8 ((h.store.getD 6 0).val : Int), .int .u8 ((h.store.getD 7 0).val : Int),
  .int .i64 (h.k : Int), .int .i64 (h.m : Int), .int .i64 (h.blk : Int), .string (bytesU h.key), .int .i64 (h.size : Int), .int .i64 (h.idx : Int), .int .i64 (h.epoch : Int), .int .i64 (h.count : Int)]
theorem wf_u8 (x : E) : (Lit.int .u8 (x.val : Int)).wf = true := by
  have := x.lt
  simp [Lit.wf, IntKind.min, IntKind.max, IntKind.signed, IntKind.bits]; omega
theorem wf_i64 (n : Nat) (h : n ≤ 1000000000000) : (Lit.int .i64 (n : Int)).wf = true := by
  simp [Lit.wf, IntKind.min, IntKind.max, IntKind.signed, IntKind.bits]; omega
theorem cells_u8 : Try.prog.cellsOf 5 = 1 := by kernel_rfl
theorem cells_int : Try.prog.cellsOf 3 = 1 := by kernel_rfl
theorem cells_str : Try.prog.cellsOf 9 = 1 := by kernel_rfl
theorem cells_arr8 : Try.prog.cellsOf 37 = 8 := by kernel_rfl
theorem cells_arr4 : Try.prog.cellsOf 209 = 4 := by kernel_rfl
theorem cells_shape : Try.prog.cellsOf 39 = 3 := by kernel_rfl
theorem cells_gen : Try.prog.cellsOf 41 = 2 := by kernel_rfl
theorem cells_head : Try.prog.cellsOf 43 = 16 := by kernel_rfl
theorem under_u8 : Try.prog.underlying 5 = some (.int .u8) := by kernel_rfl
theorem under_int : Try.prog.underlying 3 = some (.int .i64) := by kernel_rfl
theorem under_str : Try.prog.underlying 9 = some .string := by kernel_rfl
theorem under_arr8 : Try.prog.underlying 37 = some (.array 8 5) := by kernel_rfl
theorem under_arr4 : Try.prog.underlying 209 = some (.array 4 5) := by kernel_rfl
theorem kl_u8 (d : Nat) (x : E) : Try.prog.keyLits (d + 1) 5 [bv x] = some [.int .u8 (x.val : Int)] := by
  unfold Program.keyLits
  rw [under_u8]; simp [bv, wf_u8]
theorem kl_int (d : Nat) (n : Nat) (h : n ≤ 1000000000000) : Try.prog.keyLits (d + 1) 3 [.int .i64 (n : Int)] = some [.int .i64 (n : Int)] := by
  unfold Program.keyLits
  rw [under_int]; simp [wf_i64 n h]
theorem kl_str (d : Nat) (l : List E) (h : l.length ≤ 1000000000000) : Try.prog.keyLits (d + 1) 9 [.string (strB l)] = some [.string (bytesU l)] := by
  have k8 : (strB l).size ≤ maxLen := by rw [strB_size]; unfold maxLen; omega
  unfold Program.keyLits
  rw [under_str]; simp [k8]; rfl
theorem kl_arr4 (d : Nat) (a b c e : E) : Try.prog.keyLits (d + 2) 209 [bv a, bv b, bv c, bv e] = some [.int .u8 (a.val : Int), .int .u8 (b.val : Int), .int .u8 (c.val : Int), .int .u8 (e.val : Int)] := by
  unfold Program.keyLits
  rw [under_arr4]
  simp [cells_u8, cells_arr4, List.range, List.range.loop, kl_u8]
theorem kl_arr8 (d : Nat) (a b c e f g h i : E) : Try.prog.keyLits (d + 2) 37 [bv a, bv b, bv c, bv e, bv f, bv g, bv h, bv i] = some [.int .u8 (a.val : Int), .int .u8 (b.val : Int), .int .u8 (c.val : Int), .int .u8 (e.val : Int), .int .u8 (f.val : Int), .int .u8 (g.val : Int), .int .u8 (h.val : Int), .int .u8 (i.val : Int)] := by
  unfold Program.keyLits
  rw [under_arr8]
  simp [cells_u8, cells_arr8, List.range, List.range.loop, kl_u8]
theorem kl_shape (d : Nat) (k m b : Nat) (h1 : k ≤ 1000000000000) (h2 : m ≤ 1000000000000) (h3 : b ≤ 1000000000000) : Try.prog.keyLits (d + 2) 39 [.int .i64 (k : Int), .int .i64 (m : Int), .int .i64 (b : Int)] = some [.int .i64 (k : Int), .int .i64 (m : Int), .int .i64 (b : Int)] := by
  unfold Program.keyLits
  rw [Try.underlying39]
  simp [cells_int, cells_shape, kl_int _ _ h1, kl_int _ _ h2, kl_int _ _ h3]
theorem kl_gen (d : Nat) (k m : Nat) (h1 : k ≤ 1000000000000) (h2 : m ≤ 1000000000000) : Try.prog.keyLits (d + 2) 41 [.int .i64 (k : Int), .int .i64 (m : Int)] = some [.int .i64 (k : Int), .int .i64 (m : Int)] := by
  unfold Program.keyLits
  rw [Try.underlying41]
  simp [cells_int, cells_gen, kl_int _ _ h1, kl_int _ _ h2]
theorem lits_head (h : HeadP) (h1 : h.k ≤ 1000000000000) (h2 : h.m ≤ 1000000000000) (h3 : h.blk ≤ 1000000000000) (h4 : h.size ≤ 1000000000000) (h5 : h.idx ≤ 1000000000000) (h6 : h.epoch ≤ 1000000000000) (h7 : h.count ≤ 1000000000000) (h8 : h.key.length ≤ 1000000000000) :
    Try.prog.keyLits 5 43 (headC h).toList = some (hLits h) := by
  have q1 := kl_arr8 2 (h.store.getD 0 0) (h.store.getD 1 0) (h.store.getD 2 0) (h.store.getD 3 0) (h.store.getD 4 0) (h.store.getD 5 0) (h.store.getD 6 0) (h.store.getD 7 0)
  have q2 := kl_shape 2 h.k h.m h.blk h1 h2 h3
  have q3 := kl_str 3 h.key h8
  have q4 := kl_int 3 h.size h4
  have q5 := kl_int 3 h.idx h5
  have q6 := kl_gen 2 h.epoch h.count h6 h7
  unfold Program.keyLits
  rw [Try.underlying43]
  simp only [headC, List.length_cons, List.length_nil, cells_head, cells_arr8, cells_shape, cells_gen, cells_int, cells_str, List.mapM_cons, List.mapM_nil, List.drop, List.take, q1, q2, q3, q4, q5, q6]
  simp [hLits]
theorem bytesU_inj {a b : List E} (h : bytesU a = bytesU b) : a = b := by
  induction a generalizing b with
  | nil => cases b with
    | nil => rfl
    | cons y b => simp [bytesU] at h
  | cons x a ih =>
    cases b with
    | nil => simp [bytesU] at h
    | cons y b =>
      simp only [bytesU, List.map_cons, List.cons.injEq] at h
      obtain ⟨h1, h2⟩ := h
      have hx := x.lt
      have hy := y.lt
      have h3 := congrArg UInt8.toNat h1
      simp only [UInt8.toNat_ofNat'] at h3
      rw [Nat.mod_eq_of_lt (by omega), Nat.mod_eq_of_lt (by omega)] at h3
      rw [E.ext h3, ih h2]
theorem list8 {l : List E} (h : l.length = 8) : l = [l.getD 0 0, l.getD 1 0, l.getD 2 0, l.getD 3 0, l.getD 4 0, l.getD 5 0, l.getD 6 0, l.getD 7 0] := by
  match l, h with
  | [a, b, c, d, e, f, g, i], _ => rfl
theorem list4 {l : List E} (h : l.length = 4) : l = [l.getD 0 0, l.getD 1 0, l.getD 2 0, l.getD 3 0] := by
  match l, h with
  | [a, b, c, d], _ => rfl
theorem E.cast_inj {x y : E} (h : (x.val : Int) = (y.val : Int)) : x = y := E.ext (by omega)
theorem hLits_inj {h g : HeadP} (h1 : h.store.length = 8) (h2 : g.store.length = 8) (e : hLits h = hLits g) : h = g := by
  simp only [hLits, List.cons.injEq, Lit.int.injEq, Lit.string.injEq, true_and, and_true] at e
  obtain ⟨e0, e1, e2, e3, e4, e5, e6, e7, e8, e9, e10, e11, e12, e13, e14, e15⟩ := e
  obtain ⟨s, k, m, bl, key, sz, ix, ep, ct⟩ := h
  obtain ⟨s', k', m', bl', key', sz', ix', ep', ct'⟩ := g
  have l1 : s.length = 8 := h1
  have l2 : s'.length = 8 := h2
  have hs : s = s' := by
    refine (list8 l1).trans (Eq.trans ?_ (list8 l2).symm)
    rw [show s.getD 0 0 = s'.getD 0 0 from E.cast_inj e0, show s.getD 1 0 = s'.getD 1 0 from E.cast_inj e1, show s.getD 2 0 = s'.getD 2 0 from E.cast_inj e2, show s.getD 3 0 = s'.getD 3 0 from E.cast_inj e3,
      show s.getD 4 0 = s'.getD 4 0 from E.cast_inj e4, show s.getD 5 0 = s'.getD 5 0 from E.cast_inj e5, show s.getD 6 0 = s'.getD 6 0 from E.cast_inj e6, show s.getD 7 0 = s'.getD 7 0 from E.cast_inj e7]
  have hk := bytesU_inj e11
  simp only at e8 e9 e10 e12 e13 e14 e15 hk
  subst hs hk
  have : k = k' := by omega
  have : m = m' := by omega
  have : bl = bl' := by omega
  have : sz = sz' := by omega
  have : ix = ix' := by omega
  have : ep = ep' := by omega
  have : ct = ct' := by omega
  subst_vars; rfl
/-- A head's numbers are small. -/
def SmallH (h : HeadP) : Prop := h.store.length = 8 ∧ h.k ≤ 1000000000000 ∧ h.m ≤ 1000000000000 ∧ h.blk ≤ 1000000000000 ∧ h.size ≤ 1000000000000 ∧ h.idx ≤ 1000000000000 ∧ h.epoch ≤ 1000000000000 ∧ h.count ≤ 1000000000000 ∧ h.key.length ≤ 1000000000000
theorem SmallH.lits {h : HeadP} (s : SmallH h) : Try.prog.keyLits 5 43 (headC h).toList = some (hLits h) := by
  obtain ⟨h0, h1, h2, h3, h4, h5, h6, h7, h8⟩ := s
  exact lits_head h h1 h2 h3 h4 h5 h6 h7 h8
theorem formed_head (h : HeadP) : (Value.agg (headC h)).formed Try.prog 43 = true := by
  simp [Value.formed, Try.underlying43, cells_head, headC_size]
theorem cmp_head (h g : HeadP) (s1 : SmallH h) (s2 : SmallH g) (w : World) : ∃ r : Bool, (binOp .neq 43 (.agg (headC h)) (.agg (headC g))).run Try.prog w = .ok (.bool (!r)) w ∧ (r = true ↔ h = g) := by
  obtain ⟨r, h1, -, h2⟩ := eq_lits (P := Try.prog) (t := 43) (m := 5) (by kernel_rfl) (by decide) (headC h) (headC g) _ _ (formed_head h) (formed_head g) s1.lits s2.lits w
  exact ⟨r, h1, h2.trans ⟨hLits_inj s1.1 s2.1, fun e => by rw [e]⟩⟩
theorem cmp_shape (k m b k' m' b' : Nat) (h1 : k ≤ 1000000000000) (h2 : m ≤ 1000000000000) (h3 : b ≤ 1000000000000) (h4 : k' ≤ 1000000000000) (h5 : m' ≤ 1000000000000) (h6 : b' ≤ 1000000000000) (w : World) :
    ∃ r : Bool, (binOp .neq 39 (.agg #[.int .i64 (k : Int), .int .i64 (m : Int), .int .i64 (b : Int)]) (.agg #[.int .i64 (k' : Int), .int .i64 (m' : Int), .int .i64 (b' : Int)])).run Try.prog w = .ok (.bool (!r)) w ∧
      (binOp .eql 39 (.agg #[.int .i64 (k : Int), .int .i64 (m : Int), .int .i64 (b : Int)]) (.agg #[.int .i64 (k' : Int), .int .i64 (m' : Int), .int .i64 (b' : Int)])).run Try.prog w = .ok (.bool r) w ∧ (r = true ↔ (k = k' ∧ m = m' ∧ b = b')) := by
  obtain ⟨r, e1, e2, e3⟩ := eq_lits (P := Try.prog) (t := 39) (m := 5) (D := 2) (D' := 2) (by kernel_rfl) (by decide) #[.int .i64 (k : Int), .int .i64 (m : Int), .int .i64 (b : Int)] #[.int .i64 (k' : Int), .int .i64 (m' : Int), .int .i64 (b' : Int)] _ _
    (by simp [Value.formed, Try.underlying39, cells_shape]) (by simp [Value.formed, Try.underlying39, cells_shape]) (kl_shape 0 k m b h1 h2 h3) (kl_shape 0 k' m' b' h4 h5 h6) w
  refine ⟨r, e1, e2, e3.trans ?_⟩
  simp only [List.cons.injEq, Lit.int.injEq, true_and, and_true]
  omega
theorem cmp_magic (xs : List E) (hx : xs.length = 4) (w : World) : ∃ r : Bool, (binOp .neq 209 (.agg (bs xs).toArray) (.agg magicC)).run Try.prog w = .ok (.bool (!r)) w ∧ (r = true ↔ xs = magicP) := by
  have e := list4 hx
  have em : magicC = #[bv (E.of 67), bv (E.of 82), bv (E.of 78), bv (E.of 2)] := rfl
  obtain ⟨a, b, c, d, rfl⟩ : ∃ a b c d, xs = [a, b, c, d] := ⟨_, _, _, _, e⟩
  obtain ⟨r, h1, -, h2⟩ := eq_lits (P := Try.prog) (t := 209) (m := 5) (D := 2) (D' := 2) (by kernel_rfl) (by decide) (bs [a, b, c, d]).toArray magicC _ _
    (by simp [Value.formed, cells_arr4, bs]) (by simp [Value.formed, cells_arr4, magicC]) (kl_arr4 0 a b c d) (by rw [em]; exact kl_arr4 0 _ _ _ _) w
  refine ⟨r, h1, h2.trans ?_⟩
  simp only [List.cons.injEq, Lit.int.injEq, true_and, and_true, magicP]
  constructor
  · rintro ⟨h1, h2, h3, h4⟩
    exact ⟨E.cast_inj h1, E.cast_inj h2, E.cast_inj h3, E.cast_inj h4⟩
  · rintro ⟨rfl, rfl, rfl, rfl⟩; exact ⟨rfl, rfl, rfl, rfl⟩
section
variable {P : Program}
theorem results_cell3 {fn : Func} {p a b : Tmp} {ty : TypeId} (h : fn.results = #[.cell p ty, .tmp a, .tmp b]) (tmps : Array Value) (w : World) (ad : Addr) (cs : Array Value) (d : TypeDesc) (hp : tmps.getD p undef = .pointer (some ad)) (hc : ∀ j v, cs[j]? = some v → w.cell? (ad.add j) = some v)
    (hu : P.underlying ty = some d) (hd : (match d with | .struct _ | .array _ _ => true | _ => false) = true) (hi : (P.info? ty).map (·.size) = some cs.size) :
    (results fn tmps).run P w = .ok (.tuple #[.agg cs, tmps.getD a undef, tmps.getD b undef]) w := by
  have hp' : tmps[p]?.getD undef = .pointer (some ad) := by simpa using hp
  simp [results, h, hp', asAddr, run_loadVar_at w ad ty cs d hc hu hd hi]
theorem results_cell2 {fn : Func} {p a : Tmp} {ty : TypeId} (h : fn.results = #[.cell p ty, .tmp a]) (tmps : Array Value) (w : World) (ad : Addr) (cs : Array Value) (d : TypeDesc) (hp : tmps.getD p undef = .pointer (some ad)) (hc : ∀ j v, cs[j]? = some v → w.cell? (ad.add j) = some v)
    (hu : P.underlying ty = some d) (hd : (match d with | .struct _ | .array _ _ => true | _ => false) = true) (hi : (P.info? ty).map (·.size) = some cs.size) :
    (results fn tmps).run P w = .ok (.tuple #[.agg cs, tmps.getD a undef]) w := by
  have hp' : tmps[p]?.getD undef = .pointer (some ad) := by simpa using hp
  simp [results, h, hp', asAddr, run_loadVar_at w ad ty cs d hc hu hd hi]
theorem load_run {o : Oper} {a : Act} {w : World} {ty : TypeId} {x : Operand} (ho : o.op = .load ty x) {ad : Addr} (hx : a.eval x = .pointer (some ad)) {cs : Array Value} {d : TypeDesc} (hc : ∀ j v, cs[j]? = some v → w.cell? (ad.add j) = some v)
    (hu : P.underlying ty = some d) (hd : (match d with | .struct _ | .array _ _ => true | _ => false) = true) (hi : (P.info? ty).map (·.size) = some cs.size) : (execOp a.eval o).run P w = .ok (.value (.agg cs)) w := by
  unfold execOp
  simp only [ho, hx, Instr.loadAt, Instr.sureAddr, Sem.run_bind, Sem.run_pure, Result.andThen_ok, run_loadVar_at w ad ty cs d hc hu hd hi]
end
end Go.Proofs.Ytdoeelfcihdmbaa
/-
  Layer 8: a head is read out of bytes.
-/
namespace Go.Proofs.Ytdoeelfcihdmbaa
open Go.RowKit Gf
set_option maxRecDepth 20000
set_option linter.unusedVariables false

def zeroH : HeadP := { store := List.replicate 8 0, k := 0, m := 0, blk := 0, key := [], size := 0, idx := 0, epoch := 0, count := 0 }
/-- What is known while a head is read. -/
structure Opn (w wr : World) (g gh : Nat) (ys : List E) (pos : Nat) (hd : HeadP) : Prop where
  ext : Ext w wr
  rdr : RdrAt wr g ys pos
  box : Blk wr gh 43 (headC hd)
  lt : g < gh
  res : Blk wr w.heap.size 43 (headC zeroH)
  ne : w.heap.size < g
section
variable {w wr w' : World} {g gh pos pos' : Nat} {ys : List E} {hd hd' : HeadP}
theorem Opn.beyond (h : Opn w wr g gh ys pos hd) (hx : Ext wr w') : Opn w w' g gh ys pos hd := ⟨h.ext.trans hx, h.rdr.ext hx, h.box.below hx h.box.lt, h.lt, h.res.below hx h.res.lt, h.ne⟩
theorem Opn.read (h : Opn w wr g gh ys pos hd) (ht : Touch (fun b => b = g) wr w') (hr : RdrAt w' g ys pos') : Opn w w' g gh ys pos' hd :=
  ⟨ht.extNew h.ext (Nat.le_of_lt h.ne), hr, h.box.touch ht (fun e => by have := h.lt; omega), h.lt, h.res.touch ht (fun e => by have := h.ne; omega), h.ne⟩
theorem Opn.put (h : Opn w wr g gh ys pos hd) (i : Nat) (u : Value) (e : (headC hd).setIfInBounds i u = headC hd') : Opn w (wr.setCell ⟨gh, i, none⟩ u) g gh ys pos hd' :=
  ⟨h.ext.new (p := ⟨gh, i, none⟩) (by have := h.ne; have := h.lt; show w.heap.size ≤ gh; omega) u, h.rdr.touch (touch_set (S := fun b => b = gh) wr ⟨gh, i, none⟩ u rfl) h.lt, h.box.set_eq i u e, h.lt, h.res.far (p := ⟨gh, i, none⟩) (by have := h.ne; have := h.lt; show w.heap.size ≠ gh; omega) u, h.ne⟩
theorem Opn.store (h : Opn w wr g gh ys pos hd) (ht : Touch (fun b => b = gh) wr w') (hb : Blk w' gh 43 (headC hd')) : Opn w w' g gh ys pos hd' :=
  ⟨ht.extNew h.ext (by have := h.ne; have := h.lt; omega), h.rdr.touch ht h.lt, hb, h.lt, h.res.touch ht (fun e => by have := h.ne; have := h.lt; omega), h.ne⟩
end
theorem fld_reader {b : List E} {at_ n : Nat} (h : at_ + n ≤ 32) : fld ((b.drop 4).take 32) at_ n = fld b (4 + at_) n := by
  rw [fld, fld, List.drop_take, List.take_take, List.drop_drop, Nat.min_eq_left (by omega)]
theorem fld_lt (b : List E) (at_ n : Nat) : fld b at_ n < 256 ^ n := by
  have h := num_lt ((b.drop at_).take n)
  have h2 : ((b.drop at_).take n).length ≤ n := by rw [List.length_take]; omega
  exact Nat.lt_of_lt_of_le h (Nat.pow_le_pow_right (by decide) h2)
/-- What open answers. -/
def OpenOut (b : List E) (w : World) (e : Ending) (w' : World) : Prop :=
  ((∃ h, parseHeadP b = some h ∧ e = .returned (.tuple #[.agg (headC h), .int .u32 (crcS (b.take 32 ++ h.key) : Int), .int .i64 0])) ∨
    (parseHeadP b = none ∧ ∃ z : Int, z ≠ 0 ∧ e = .returned (.tuple #[.agg (headC zeroH), .int .u32 0, .int .i64 z]))) ∧ Ext w w'
theorem OpenOut.no {b : List E} {w w' : World} {e : Ending} (h : parseHeadP b = none) (z : Int) (hz : z ≠ 0) (he : e = .returned (.tuple #[.agg (headC zeroH), .int .u32 0, .int .i64 z])) (hx : Ext w w') : OpenOut b w e w' := ⟨.inr ⟨h, z, hz, he⟩, hx⟩
theorem arr4_info : (Try.prog.info? 209).map (·.size) = some 4 := by kernel_rfl
theorem arr8_info : (Try.prog.info? 37).map (·.size) = some 8 := by kernel_rfl
theorem zero_fill (cs : Array Value) (h : cs.size = 16) : seg cs 0 (headC zeroH).toList = headC zeroH := seg_all cs (headC zeroH) (by rw [h]; rfl)
theorem store_fill (st : List E) (h : st.length = 8) : seg (headC zeroH) 0 (bs st) = headC { zeroH with store := st } := by
  match st, h with
  | [a, b, c, d, e, f, g, i], _ => rfl
theorem arr_at4 (a : Option Addr) (n c : Nat) (h : 4 ≤ n) (w : World) : (Instr.arrayAt 209 (.slice a n c)).run Try.prog w = .ok (.pointer a) w := run_arrayAt w 209 _ 4 _ n c under_arr4 h
theorem arr_at8 (a : Option Addr) (n c : Nat) (h : 8 ≤ n) (w : World) : (Instr.arrayAt 37 (.slice a n c)).run Try.prog w = .ok (.pointer a) w := run_arrayAt w 37 _ 8 _ n c under_arr8 h
set_option maxHeartbeats 16000000 in
theorem open_h (A : Option Addr) (n c : Nat) (b : List E) (w : World) (hn : b.length = n) (hA : Rd w A (bs b)) (hc : n ≤ c) (hlen : n ≤ 100000000000) :
    Calls Try.prog 112 #[.slice A n c] w (OpenOut b w) := by
  have hmo : Try.prog.follows Departure.mixedOrders = true := by kernel_rfl
  have HN := Lib.hid hn
  have HA := Lib.hid hA
  have hb0 : Blk (w.alloc (.cells (headC zeroH) 43)) w.heap.size 43 (headC zeroH) := Blk.new _ _ _
  have HB0 := Lib.hid hb0
  have HX0 := Lib.hid ((Ext.refl w).alloc (.cells (headC zeroH) 43))
  clear hn hA hb0
  by_cases h36 : n < 36
  · have HP : Hid (parseHeadP b = none) := Lib.hid (by rw [parseHeadP, if_pos (by rw [HN.out]; exact h36)])
    go_enter Try.func112, Try.ntmps112
    go_wp2_with (refine wpList_store_at rfl 43 _ _ rfl w.heap.size 0 (headC zeroH) rfl rfl 43 (headC zeroH) HB0.out (by kernel_rfl) (by decide) (headC_ones zeroH) ?_; intro W k1 k2)
    have k3 := zero_fill (headC zeroH) rfl
    rw [k3] at k1
    exact bodyPost_ret (results_cell3 Try.results112 _ W ⟨w.heap.size, 0, none⟩ (headC zeroH) _ rfl k1.cells Try.underlying43 rfl (by kernel_rfl)) rfl (OpenOut.no HP.out 70 (by decide) rfl (k2.extNew HX0.out (Nat.le_refl _)))
  · obtain ⟨ad, rfl, -⟩ := HA.out.at_ (k := 0) (u := bv (b.getD 0 0)) (by
      have : 0 < b.length := by rw [HN.out]; omega
      rw [bs, List.getElem?_map, List.getD_eq_getElem?_getD, List.getElem?_eq_getElem this]; rfl)
    have harr := arr_at4 (some ad) n c (by omega)
    have h4 : (b.take 4).length = 4 := by rw [List.length_take, HN.out]; omega
    have hcmp := cmp_magic (b.take 4) h4
    have HC4 : Hid (∀ (w' : World), Ext w w' → ∀ j v, (bs (b.take 4)).toArray[j]? = some v → w'.cell? (ad.add j) = some v) := Lib.hid fun w' hx j v hv => by
      obtain ⟨ad', e, hcell⟩ := ((HA.out.ext hx).take 4) (by rw [← bs_take, bs_length, h4]; decide)
      cases e
      exact hcell j v (by rw [← bs_take]; simpa using hv)
    have HS4 : Hid ((Try.prog.info? 209).map (·.size) = some (bs (b.take 4)).toArray.size) := Lib.hid (by
      have : (bs (b.take 4)).toArray.size = 4 := by rw [List.size_toArray, bs_length, h4]
      rw [this]; exact arr4_info)
    clear h4
    go_enter Try.func112, Try.ntmps112
    go_wp2_with fail
    refine wp_region_mix (fun i => [3, 3, 0, 1, 3].getD i 0) (fun w' => Ext w w') hmo (by kernel_rfl) (by kernel_rfl) (HX0.out.drewN 1) ?_
    refine mix_pure (.slice (some ad) n c) rfl (fun w' => by go_simp) ?_
    refine mix_pure (.pointer (some ad)) rfl (fun w' => by go_simp) ?_
    refine mix_still (.agg (bs (b.take 4)).toArray) rfl (fun w' hw' => load_run rfl (by go_simp) (HC4.out w' hw') Try.underlying209 rfl HS4.out) ?_
    refine mix_call 156 #[] rfl (by go_simp) ?_
    refine (mark_n _).mono ?_
    rintro e w1 ⟨rfl, hx1⟩
    refine ⟨_, rfl, (HX0.out.drewN 1).trans hx1, ?_⟩
    have hr0 : ∃ r : Bool, (∀ w, (binOp .neq 209 (.agg (bs (b.take 4)).toArray) (.agg magicC)).run Try.prog w = .ok (.bool (!r)) w) ∧ (r = true ↔ b.take 4 = magicP) := by
      by_cases e : b.take 4 = magicP
      · refine ⟨true, fun w => ?_, by simp [e]⟩
        obtain ⟨r, h1, h2⟩ := hcmp w
        rw [h1, h2.2 e]
      · refine ⟨false, fun w => ?_, by simp [e]⟩
        obtain ⟨r, h1, h2⟩ := hcmp w
        have : r = false := by cases r with
          | false => rfl
          | true => exact absurd (h2.1 rfl) e
        rw [h1, this]
    obtain ⟨r, hr1, hr2⟩ := hr0
    refine mix_pure (.bool (!r)) rfl (fun w' => by have := hr1 w'; go_simp) ?_
    refine mix_nil ?_
    have hxw : Ext w w1 := (HX0.out.drewN 1).trans hx1
    have hb1 : Blk w1 w.heap.size 43 (headC zeroH) := (HB0.out.drewN 1).below hx1 (by simp)
    have HXW := Lib.hid hxw
    have HB1 := Lib.hid hb1
    have HR2 := Lib.hid hr2
    clear hxw hb1 hx1 hr1 hr2 hcmp harr HC4 HS4
    cases r with
    | false =>
      have HP : Hid (parseHeadP b = none) := Lib.hid (by
        rw [parseHeadP, if_neg (by rw [HN.out]; exact h36), if_pos fun e => by have := HR2.out.2 e; cases this])
      go_simp
      go_wp2_with (refine wpList_store_at rfl 43 _ _ rfl w.heap.size 0 (headC zeroH) rfl rfl 43 (headC zeroH) HB1.out (by kernel_rfl) (by decide) (headC_ones zeroH) ?_; intro W k1 k2)
      have k3 := zero_fill (headC zeroH) rfl
      rw [k3] at k1
      exact bodyPost_ret (results_cell3 Try.results112 _ W ⟨w.heap.size, 0, none⟩ (headC zeroH) _ rfl k1.cells Try.underlying43 rfl (by kernel_rfl)) rfl (OpenOut.no HP.out 80 (by decide) rfl (k2.extNew HXW.out (Nat.le_refl _)))
    | true =>
      have HM : Hid (b.take 4 = magicP) := Lib.hid (HR2.out.1 rfl)
      have hsl := fun w => slice_lh tyU8 oneU8 (some ad) n c 4 36 .i64 .i64 4 36 rfl rfl (by omega) (by omega) w
      obtain ⟨A5, hA5⟩ : ∃ A5, A5 = cutA (some ad) c 4 := ⟨_, rfl⟩
      rw [← hA5] at hsl
      obtain ⟨ys, hys⟩ : ∃ ys, ys = (b.drop 4).take 32 := ⟨_, rfl⟩
      have hyl : ys.length = 32 := by rw [hys, List.length_take, List.length_drop, HN.out]; omega
      have HR5 : Hid (Rd w1 A5 (bs ys)) := Lib.hid (by
        rw [hA5, hys, bs_take, bs_drop]
        exact (HA.out.ext HXW.out).piece (by rw [bs_length, HN.out]; omega) (by rw [bs_length, HN.out]; exact hc))
      have HYS := Lib.hid hys
      have HYL := Lib.hid hyl
      clear hA5 hys hyl HR2
      go_simp
      go_wp2_with fail
      refine (open_n A5 32 (c - 4) ys _ HYL.out HR5.out (by omega)).mono ?_
      rintro e w2 ⟨g, rfl, hr2, hx2, hg2⟩
      have HX2 := Lib.hid (HXW.out.trans hx2)
      have hgne : w.heap.size < g := Nat.lt_of_lt_of_le HB1.out.lt hg2
      have HR2 := Lib.hid hr2
      have HB2 := Lib.hid (HB1.out.below hx2 HB1.out.lt)
      have hgl : g < w2.heap.size := by obtain ⟨A', c', hb, -⟩ := hr2; exact hb.lt
      have HO0 : Hid (Opn w (w2.alloc (.cells (headC zeroH) 43)) g w2.heap.size ys 0 zeroH) := Lib.hid ⟨HX2.out.alloc _, HR2.out.ext ((Ext.refl w2).alloc _), Blk.new _ _ _, hgl, HB2.out.alloc _, hgne⟩
      clear hr2 hx2 hg2 hsl HR5 HXW HB1
      go_wp2_with fail
      refine (bytes_n g 0 8 ys _ HO0.out.rdr (by rw [HYL.out]; decide) (by decide)).mono ?_
      rintro e w3 ⟨u3, rfl, ho3, hr3, ht3⟩
      obtain ⟨st, hst⟩ : ∃ st, st = (ys.drop 0).take 8 := ⟨_, rfl⟩
      have hstl : st.length = 8 := by rw [hst, List.length_take, List.drop_zero, HYL.out]; rfl
      rw [← hst] at ho3
      obtain ⟨gb, cb, rfl, -⟩ := ho3.some_ (fun e => by have h1 := congrArg List.length e; rw [bs_length, hstl] at h1; cases h1)
      have hbl : (bs st).length = 8 := by rw [bs_length, hstl]
      rw [hbl] at ho3 ⊢
      have HO3 := Lib.hid (HO0.out.read ht3 hr3)
      have HC8 : Hid (∀ j v, (bs st).toArray[j]? = some v → w3.cell? ((⟨gb, 0, none⟩ : Addr).add j) = some v) := Lib.hid fun j v hv => by rw [add_plain]; exact ho3.cell (by simpa using hv)
      have HS8 : Hid ((Try.prog.info? 37).map (·.size) = some (bs st).toArray.size) := Lib.hid (by
        rw [List.size_toArray, hbl]; exact arr8_info)
      have harr := arr_at8 (some ⟨gb, 0, none⟩) 8 cb (by omega)
      have HST := Lib.hid hst
      have HSTL := Lib.hid hstl
      have HL8 : Hid (0 + (bs st).toArray.size ≤ (headC zeroH).size) := Lib.hid (by rw [List.size_toArray, hbl]; decide)
      have HO8 : Hid ((bs st).toArray.all (·.oneCell') = true) := Lib.hid (by rw [Array.all_eq_true_iff_forall_mem]; intro u hu; exact bs_ones st u (by simpa using hu))
      obtain ⟨gh, hgh⟩ : ∃ gh, gh = w2.heap.size := ⟨_, rfl⟩
      rw [← hgh] at HO3 ⊢
      clear ho3 hr3 ht3 hst hstl hbl HO0 HB2 HX2 HR2 hgl hgne hgh
      go_wp2_with (first | (refine wpList_load_at rfl 37 _ rfl ⟨gb, 0, none⟩ rfl (bs st).toArray _ HC8.out Try.underlying37 rfl HS8.out ?_) | (refine wpList_store_at rfl 37 _ _ rfl gh 0 (bs st).toArray rfl rfl 43 (headC zeroH) HO3.out.box HS8.out HL8.out HO8.out ?_; intro w4 k1 k2))
      have k3 := store_fill st HSTL.out
      rw [k3] at k1
      have HO4 := Lib.hid (HO3.out.store k2 k1)
      clear k1 k2 k3 HO3 HC8 HS8 HL8 HO8 harr
      refine (take1_n g 8 ys _ HO4.out.rdr (by rw [HYL.out]; decide)).mono ?_
      rintro e w5 ⟨rfl, hr, ht⟩
      obtain ⟨xk, hx⟩ : ∃ x, x = fld ys 8 1 := ⟨_, rfl⟩
      have hbk : xk < 256 := by rw [hx]; exact fld_lt _ _ _
      have HFk : Hid (xk = fld b 12 1) := Lib.hid (by rw [hx, HYS.out, fld_reader (by omega)])
      have hrd := HO4.out.read ht hr
      have f := hrd.box.frozen 8
      have cc : w5.cell? ⟨gh, 8, none⟩ = some (.int .i64 0) := by rw [hrd.box.cell]; rfl
      have HO5 : Hid (Opn w (w5.setCell ⟨gh, 8, none⟩ (.int .i64 (xk : Int))) g gh ys 9 { zeroH with store := st, k := xk }) := Lib.hid (hrd.put 8 _ (by simp [headC]))
      rw [← hx]
      clear hx hr ht hrd HO4
      go_wp2_with fail
      refine (take1_n g 9 ys _ HO5.out.rdr (by rw [HYL.out]; decide)).mono ?_
      rintro e w6 ⟨rfl, hr, ht⟩
      obtain ⟨xm, hx⟩ : ∃ x, x = fld ys 9 1 := ⟨_, rfl⟩
      have hbm : xm < 256 := by rw [hx]; exact fld_lt _ _ _
      have HFm : Hid (xm = fld b 13 1) := Lib.hid (by rw [hx, HYS.out, fld_reader (by omega)])
      have hrd := HO5.out.read ht hr
      have f := hrd.box.frozen 9
      have cc : w6.cell? ⟨gh, 9, none⟩ = some (.int .i64 0) := by rw [hrd.box.cell]; rfl
      have HO6 : Hid (Opn w (w6.setCell ⟨gh, 9, none⟩ (.int .i64 (xm : Int))) g gh ys 10 { zeroH with store := st, k := xk, m := xm }) := Lib.hid (hrd.put 9 _ (by simp [headC]))
      rw [← hx]
      clear hx hr ht hrd HO5
      go_wp2_with fail
      refine (take4_n g 10 ys _ HO6.out.rdr (by rw [HYL.out]; decide)).mono ?_
      rintro e w7 ⟨rfl, hr, ht⟩
      obtain ⟨xblk, hx⟩ : ∃ x, x = fld ys 10 4 := ⟨_, rfl⟩
      have hbblk : xblk < 4294967296 := by rw [hx]; exact fld_lt _ _ _
      have HFblk : Hid (xblk = fld b 14 4) := Lib.hid (by rw [hx, HYS.out, fld_reader (by omega)])
      have hrd := HO6.out.read ht hr
      have f := hrd.box.frozen 10
      have cc : w7.cell? ⟨gh, 10, none⟩ = some (.int .i64 0) := by rw [hrd.box.cell]; rfl
      have HO7 : Hid (Opn w (w7.setCell ⟨gh, 10, none⟩ (.int .i64 (xblk : Int))) g gh ys 14 { zeroH with store := st, k := xk, m := xm, blk := xblk }) := Lib.hid (hrd.put 10 _ (by simp [headC]))
      rw [← hx]
      clear hx hr ht hrd HO6
      go_wp2_with fail
      refine (take4_n g 14 ys _ HO7.out.rdr (by rw [HYL.out]; decide)).mono ?_
      rintro e w8 ⟨rfl, hr, ht⟩
      obtain ⟨xsize, hx⟩ : ∃ x, x = fld ys 14 4 := ⟨_, rfl⟩
      have hbsize : xsize < 4294967296 := by rw [hx]; exact fld_lt _ _ _
      have HFsize : Hid (xsize = fld b 18 4) := Lib.hid (by rw [hx, HYS.out, fld_reader (by omega)])
      have hrd := HO7.out.read ht hr
      have f := hrd.box.frozen 12
      have cc : w8.cell? ⟨gh, 12, none⟩ = some (.int .i64 0) := by rw [hrd.box.cell]; rfl
      have HO8 : Hid (Opn w (w8.setCell ⟨gh, 12, none⟩ (.int .i64 (xsize : Int))) g gh ys 18 { zeroH with store := st, k := xk, m := xm, blk := xblk, size := xsize }) := Lib.hid (hrd.put 12 _ (by simp [headC]))
      rw [← hx]
      clear hx hr ht hrd HO7
      go_wp2_with fail
      refine (take1_n g 18 ys _ HO8.out.rdr (by rw [HYL.out]; decide)).mono ?_
      rintro e w9 ⟨rfl, hr, ht⟩
      obtain ⟨xidx, hx⟩ : ∃ x, x = fld ys 18 1 := ⟨_, rfl⟩
      have hbidx : xidx < 256 := by rw [hx]; exact fld_lt _ _ _
      have HFidx : Hid (xidx = fld b 22 1) := Lib.hid (by rw [hx, HYS.out, fld_reader (by omega)])
      have hrd := HO8.out.read ht hr
      have f := hrd.box.frozen 13
      have cc : w9.cell? ⟨gh, 13, none⟩ = some (.int .i64 0) := by rw [hrd.box.cell]; rfl
      have HO9 : Hid (Opn w (w9.setCell ⟨gh, 13, none⟩ (.int .i64 (xidx : Int))) g gh ys 19 { zeroH with store := st, k := xk, m := xm, blk := xblk, size := xsize, idx := xidx }) := Lib.hid (hrd.put 13 _ (by simp [headC]))
      rw [← hx]
      clear hx hr ht hrd HO8
      go_wp2_with fail
      refine (take4_n g 19 ys _ HO9.out.rdr (by rw [HYL.out]; decide)).mono ?_
      rintro e w10 ⟨rfl, hr, ht⟩
      obtain ⟨xepoch, hx⟩ : ∃ x, x = fld ys 19 4 := ⟨_, rfl⟩
      have hbepoch : xepoch < 4294967296 := by rw [hx]; exact fld_lt _ _ _
      have HFepoch : Hid (xepoch = fld b 23 4) := Lib.hid (by rw [hx, HYS.out, fld_reader (by omega)])
      have hrd := HO9.out.read ht hr
      have f := hrd.box.frozen 14
      have cc : w10.cell? ⟨gh, 14, none⟩ = some (.int .i64 0) := by rw [hrd.box.cell]; rfl
      have HO10 : Hid (Opn w (w10.setCell ⟨gh, 14, none⟩ (.int .i64 (xepoch : Int))) g gh ys 23 { zeroH with store := st, k := xk, m := xm, blk := xblk, size := xsize, idx := xidx, epoch := xepoch }) := Lib.hid (hrd.put 14 _ (by simp [headC]))
      rw [← hx]
      clear hx hr ht hrd HO9
      go_wp2_with fail
      refine (take4_n g 23 ys _ HO10.out.rdr (by rw [HYL.out]; decide)).mono ?_
      rintro e w11 ⟨rfl, hr, ht⟩
      obtain ⟨xcount, hx⟩ : ∃ x, x = fld ys 23 4 := ⟨_, rfl⟩
      have hbcount : xcount < 4294967296 := by rw [hx]; exact fld_lt _ _ _
      have HFcount : Hid (xcount = fld b 27 4) := Lib.hid (by rw [hx, HYS.out, fld_reader (by omega)])
      have hrd := HO10.out.read ht hr
      have f := hrd.box.frozen 15
      have cc : w11.cell? ⟨gh, 15, none⟩ = some (.int .i64 0) := by rw [hrd.box.cell]; rfl
      have HO11 : Hid (Opn w (w11.setCell ⟨gh, 15, none⟩ (.int .i64 (xcount : Int))) g gh ys 27 { zeroH with store := st, k := xk, m := xm, blk := xblk, size := xsize, idx := xidx, epoch := xepoch, count := xcount }) := Lib.hid (hrd.put 15 _ (by simp [headC]))
      rw [← hx]
      clear hx hr ht hrd HO10
      go_wp2_with fail
      refine (take1_n g 27 ys _ HO11.out.rdr (by rw [HYL.out]; decide)).mono ?_
      rintro e w12 ⟨rfl, hr, ht⟩
      obtain ⟨nk, hx⟩ : ∃ x, x = fld ys 27 1 := ⟨_, rfl⟩
      have hbnk : nk < 256 := by rw [hx]; exact fld_lt _ _ _
      have HFnk : Hid (nk = fld b 31 1) := Lib.hid (by rw [hx, HYS.out, fld_reader (by omega)])
      have HO12 := Lib.hid (HO11.out.read ht hr)
      rw [← hx]
      clear hx hr ht f cc HO11
      go_wp2_with fail
      refine (take4_n g 28 ys _ HO12.out.rdr (by rw [HYL.out]; decide)).mono ?_
      rintro e w13 ⟨rfl, hr, ht⟩
      obtain ⟨one, hx⟩ : ∃ x, x = fld ys 28 4 := ⟨_, rfl⟩
      have hbone : one < 4294967296 := by rw [hx]; exact fld_lt _ _ _
      have HFone : Hid (one = fld b 32 4) := Lib.hid (by rw [hx, HYS.out, fld_reader (by omega)])
      have HO13 := Lib.hid (HO12.out.read ht hr)
      rw [← hx]
      clear hx hr ht HO12
      have hs32 := fun w => slice_h tyU8 oneU8 (some ad) n c 32 .i64 32 rfl (by omega) w
      have HR32 : Hid (Rd w13 (some ad) (bs (b.take 32))) := Lib.hid (by rw [bs_take]; exact (HA.out.ext HO13.out.ext).take 32)
      have HL32 : Hid ((b.take 32).length = 32) := Lib.hid (by rw [List.length_take, HN.out]; omega)
      go_wp2_with fail
      refine (sum_n (some ad) 32 c (b.take 32) _ HL32.out HR32.out (by omega)).mono ?_
      rintro e w14 ⟨rfl, hx14⟩
      obtain ⟨s32, hs⟩ : ∃ s, s = crcS (b.take 32) := ⟨_, rfl⟩
      have hs32l : s32 < 4294967296 := by rw [hs]; exact crcS_lt _
      have HS32 := Lib.hid hs
      have HO14 := Lib.hid (HO13.out.beyond hx14)
      rw [← hs]
      clear hs hx14 HO13 HR32 hs32
      by_cases h1 : s32 = one
      · have g1 : ((s32 : Int) != (one : Int)) = false := by rw [h1]; simp
        have HE1 := Lib.hid h1
        clear h1
        have hs36 := fun w => slice_l tyU8 oneU8 (some ad) n c 36 .i64 36 rfl (by omega) (by omega) w
        obtain ⟨ad36, had36⟩ : ∃ a, some a = cutA (some ad) c 36 := by
          unfold cutA
          split
          · exact ⟨_, rfl⟩
          · exact ⟨_, rfl⟩
        rw [← had36] at hs36
        have HD36 : Hid (Rd w (some ad36) (bs (b.drop 36))) := Lib.hid (by rw [had36, bs_drop]; exact HA.out.cutA (by rw [bs_length, HN.out]; omega) (by rw [bs_length, HN.out]; exact hc))
        have HDL : Hid ((b.drop 36).length = n - 36) := Lib.hid (by rw [List.length_drop, HN.out])
        clear had36
        by_cases h2 : n - 36 < nk + 4
        · have HP : Hid (parseHeadP b = none) := Lib.hid (by
            rw [parseHeadP, if_neg (by rw [HN.out]; exact h36), if_neg (fun h => h HM.out), if_neg (by rw [← HFone.out, ← HS32.out, HE1.out]; simp), if_pos (by rw [HN.out, ← HFnk.out]; omega)])
          have g2 : ((n - 36 : Nat) : Int) < (nk : Int) + 4 := by omega
          go_wp2_with (refine wpList_store_at rfl 43 _ _ rfl w.heap.size 0 (headC zeroH) rfl rfl 43 (headC zeroH) HO14.out.res (by kernel_rfl) (by decide) (headC_ones zeroH) ?_; intro W k1 k2)
          have k3 := zero_fill (headC zeroH) rfl
          rw [k3] at k1
          exact bodyPost_ret (results_cell3 Try.results112 _ W ⟨w.heap.size, 0, none⟩ (headC zeroH) _ rfl k1.cells Try.underlying43 rfl (by kernel_rfl)) rfl (OpenOut.no HP.out 70 (by decide) rfl (k2.extNew HO14.out.ext (Nat.le_refl _)))
        · have g2 : ¬ ((n - 36 : Nat) : Int) < (nk : Int) + 4 := by omega
          have g3 : nk + 4 ≤ n - 36 := by omega
          have hsk := fun w => slice_h tyU8 oneU8 (some ad36) (n - 36) (c - 36) nk .i64 (nk : Int) rfl (by omega) w
          obtain ⟨key, hkey⟩ : ∃ key, key = (b.drop 36).take nk := ⟨_, rfl⟩
          have hkl : key.length = nk := by rw [hkey, List.length_take, HDL.out]; omega
          have HRK : Hid (Rd w (some ad36) (bs key)) := Lib.hid (by rw [hkey, bs_take]; exact HD36.out.take nk)
          have hcv := fun (w' : World) (hx : Ext w w') => convert_n (w := w') (ad := ad36) (xs := key) (L := nk) hkl (HRK.out.ext hx) (c - 36)
          have hcv14 := hcv w14 HO14.out.ext
          have f11 := HO14.out.box.frozen 11
          have cc11 : w14.cell? ⟨gh, 11, none⟩ = some (.string (strB [])) := by rw [HO14.out.box.cell]; rfl
          have HO15 : Hid (Opn w (w14.setCell ⟨gh, 11, none⟩ (.string (strB key))) g gh ys 32 { zeroH with store := st, k := xk, m := xm, blk := xblk, size := xsize, idx := xidx, epoch := xepoch, count := xcount, key := key }) := Lib.hid (HO14.out.put 11 _ (by simp [headC]))
          have HKEY := Lib.hid hkey
          have HKL := Lib.hid hkl
          clear hkey hkl hcv HO14
          go_wp2_with fail
          clear f11 cc11 hcv14 hsk
          refine (more_n one (some ad36) nk (c - 36) key _ (by omega) HKL.out (HRK.out.ext HO15.out.ext) (by omega)).mono ?_
          rintro e w16 ⟨rfl, hx16⟩
          obtain ⟨hs, hhs⟩ : ∃ s, s = crcM one key := ⟨_, rfl⟩
          have hhsl : hs < 4294967296 := by rw [hhs]; exact crcM_lt (by omega) _
          have HHS : Hid (hs = crcS (b.take 32 ++ key)) := Lib.hid (by rw [hhs, ← HE1.out, HS32.out, crcM_crcS])
          have HO16 := Lib.hid (HO15.out.beyond hx16)
          rw [← hhs]
          clear hhs hx16 HO15
          have hsl2 := fun w => slice_lh tyU8 oneU8 (some ad36) (n - 36) (c - 36) nk (nk + 4) .i64 .i64 (nk : Int) ((nk : Int) + 4) rfl (by omega) (by omega) (by omega) w
          obtain ⟨A6, hA6⟩ : ∃ A, A = cutA (some ad36) (c - 36) nk := ⟨_, rfl⟩
          rw [← hA6, show nk + 4 - nk = 4 by omega] at hsl2
          obtain ⟨zs, hzs⟩ : ∃ zs, zs = ((b.drop 36).drop nk).take 4 := ⟨_, rfl⟩
          have hzl : zs.length = 4 := by rw [hzs, List.length_take, List.length_drop, HDL.out]; omega
          have HR6 : Hid (Rd w16 A6 (bs zs)) := Lib.hid (by
            rw [hA6, hzs, bs_take, bs_drop]
            exact (HD36.out.ext HO16.out.ext).piece (by rw [bs_length, HDL.out]; omega) (by rw [bs_length, HDL.out]; omega))
          have HZL := Lib.hid hzl
          have HZS := Lib.hid hzs
          clear hA6 hzl hzs
          go_wp2_with fail
          refine (open_n A6 4 (c - 36 - nk) zs _ HZL.out HR6.out (by omega)).mono ?_
          rintro e w17 ⟨g2, rfl, hr17, hx17, hg17⟩
          have HR17 := Lib.hid hr17
          have HO17 := Lib.hid (HO16.out.beyond hx17)
          have HG17 := Lib.hid hg17
          have HX17 := Lib.hid hx17
          clear hr17 hx17 hg17 hsl2 HR6
          go_wp2_with fail
          refine (take4_n g2 0 zs _ HR17.out (by rw [HZL.out]; decide)).mono ?_
          rintro e w18 ⟨rfl, -, ht18⟩
          obtain ⟨sm, hsm⟩ : ∃ x, x = fld zs 0 4 := ⟨_, rfl⟩
          have hsml : sm < 4294967296 := by rw [hsm]; exact fld_lt _ _ _
          have HSM : Hid (sm = fld b (36 + nk) 4) := Lib.hid (by rw [hsm, fld, List.drop_zero, HZS.out, List.take_take, Nat.min_self, List.drop_drop]; rfl)
          have HO18 := Lib.hid (HO16.out.beyond (ht18.extNew HX17.out HG17.out))
          rw [← hsm]
          clear hsm ht18 HR17 HO17 HO16 HX17 HG17
          by_cases h5 : sm = hs
          · have g5 : ((sm : Int) != (hs : Int)) = false := by rw [h5]; simp
            have HE5 := Lib.hid h5
            clear h5
            obtain ⟨hF, hhF⟩ : ∃ hF : HeadP, hF = { zeroH with store := st, k := xk, m := xm, blk := xblk, size := xsize, idx := xidx, epoch := xepoch, count := xcount, key := key } := ⟨_, rfl⟩
            have HHF : Hid (headOfP b = hF) := Lib.hid (by
              have h1 : (b.drop 4).take 8 = st := by rw [HST.out, List.drop_zero, HYS.out, List.take_take]; rfl
              rw [hhF, headOfP, h1, ← HFk.out, ← HFm.out, ← HFblk.out, ← HFsize.out, ← HFidx.out, ← HFepoch.out, ← HFcount.out, ← HFnk.out, ← HKEY.out])
            have q1 : hF.k ≤ 1000000 ∧ hF.m ≤ 1000000 ∧ hF.size ≤ 4294967296 ∧ hF.idx ≤ 1000000 ∧ hF.epoch ≤ 1000000000000 ∧ hF.count ≤ 1000000000000 ∧ hF.key.length ≤ 1000000000000 := by
              rw [hhF]
              refine ⟨?_, ?_, ?_, ?_, ?_, ?_, ?_⟩
              · show xk ≤ _; omega
              · show xm ≤ _; omega
              · show xsize ≤ _; omega
              · show xidx ≤ _; omega
              · show xepoch ≤ _; omega
              · show xcount ≤ _; omega
              · show key.length ≤ _; rw [HKL.out]; omega
            have HBF : Hid (Blk w18 gh 43 (headC hF)) := Lib.hid (by rw [hhF]; exact HO18.out.box)
            have HKF : Hid (hF.key = key) := Lib.hid (by rw [hhF])
            clear hhF
            go_wp2_with (refine wpList_load_at rfl 43 _ rfl ⟨gh, 0, none⟩ rfl (headC hF) _ HBF.out.cells Try.underlying43 rfl (by kernel_rfl) ?_)
            refine (fcheck_n hF _ q1.1 q1.2.1 q1.2.2.1 q1.2.2.2.1 q1.2.2.2.2.1 q1.2.2.2.2.2.1 q1.2.2.2.2.2.2).mono ?_
            rintro e w19 ⟨⟨z, rfl, hz⟩, hx19⟩
            have HZ := Lib.hid hz
            have HO19 := Lib.hid (HO18.out.beyond hx19)
            have HBF2 := Lib.hid (HBF.out.below hx19 HBF.out.lt)
            clear hz hx19 q1 HO18 HBF
            by_cases h6 : z = 0
            · subst h6
              have HP : Hid (parseHeadP b = some hF) := Lib.hid (by
                rw [parseHeadP, if_neg (by rw [HN.out]; exact h36), if_neg (fun h => h HM.out), if_neg (by rw [← HFone.out, ← HS32.out, HE1.out]; simp), if_neg (by rw [HN.out, ← HFnk.out]; omega),
                  if_neg (by rw [← HFnk.out, ← HSM.out, ← HKEY.out, ← HHS.out, HE5.out]; simp), HHF.out, if_pos (HZ.out.1 rfl)])
              clear HZ
              go_wp2_with (first | (refine wpList_load_at rfl 43 _ rfl ⟨gh, 0, none⟩ rfl (headC hF) _ HBF2.out.cells Try.underlying43 rfl (by kernel_rfl) ?_) | (refine wpList_store_at rfl 43 _ _ rfl w.heap.size 0 (headC hF) rfl rfl 43 (headC zeroH) HO19.out.res (by kernel_rfl) (Nat.le_refl 16) (headC_ones hF) ?_; intro W k1 k2))
              have k3 := seg_all (headC zeroH) (headC hF) rfl
              rw [k3] at k1
              exact bodyPost_ret (results_cell3 Try.results112 _ W ⟨w.heap.size, 0, none⟩ (headC hF) _ rfl k1.cells Try.underlying43 rfl (by kernel_rfl)) rfl ⟨.inl ⟨hF, HP.out, by rw [HKF.out, ← HHS.out]; rfl⟩, k2.extNew HO19.out.ext (Nat.le_refl _)⟩
            · have HP : Hid (parseHeadP b = none) := Lib.hid (by
                rw [parseHeadP, if_neg (by rw [HN.out]; exact h36), if_neg (fun h => h HM.out), if_neg (by rw [← HFone.out, ← HS32.out, HE1.out]; simp), if_neg (by rw [HN.out, ← HFnk.out]; omega),
                  if_neg (by rw [← HFnk.out, ← HSM.out, ← HKEY.out, ← HHS.out, HE5.out]; simp), HHF.out, if_neg (fun h => h6 (HZ.out.2 h))])
              clear HZ
              go_wp2_with (refine wpList_store_at rfl 43 _ _ rfl w.heap.size 0 (headC zeroH) rfl rfl 43 (headC zeroH) HO19.out.res (by kernel_rfl) (by decide) (headC_ones zeroH) ?_; intro W k1 k2)
              have k3 := zero_fill (headC zeroH) rfl
              rw [k3] at k1
              exact bodyPost_ret (results_cell3 Try.results112 _ W ⟨w.heap.size, 0, none⟩ (headC zeroH) _ rfl k1.cells Try.underlying43 rfl (by kernel_rfl)) rfl (OpenOut.no HP.out 81 (by decide) rfl (k2.extNew HO19.out.ext (Nat.le_refl _)))
          · have g5 : ((sm : Int) != (hs : Int)) = true := by rw [bne_iff_ne]; omega
            have HP : Hid (parseHeadP b = none) := Lib.hid (by
              rw [parseHeadP, if_neg (by rw [HN.out]; exact h36), if_neg (fun h => h HM.out), if_neg (by rw [← HFone.out, ← HS32.out, HE1.out]; simp), if_neg (by rw [HN.out, ← HFnk.out]; omega),
                if_pos (by rw [← HFnk.out, ← HSM.out, ← HKEY.out, ← HHS.out]; exact h5)])
            clear h5
            go_wp2_with (refine wpList_store_at rfl 43 _ _ rfl w.heap.size 0 (headC zeroH) rfl rfl 43 (headC zeroH) HO18.out.res (by kernel_rfl) (by decide) (headC_ones zeroH) ?_; intro W k1 k2)
            have k3 := zero_fill (headC zeroH) rfl
            rw [k3] at k1
            exact bodyPost_ret (results_cell3 Try.results112 _ W ⟨w.heap.size, 0, none⟩ (headC zeroH) _ rfl k1.cells Try.underlying43 rfl (by kernel_rfl)) rfl (OpenOut.no HP.out 82 (by decide) rfl (k2.extNew HO18.out.ext (Nat.le_refl _)))
      · have g1 : ((s32 : Int) != (one : Int)) = true := by rw [bne_iff_ne]; omega
        have HP : Hid (parseHeadP b = none) := Lib.hid (by
          rw [parseHeadP, if_neg (by rw [HN.out]; exact h36), if_neg (fun h => h HM.out), if_pos (by rw [← HFone.out, ← HS32.out]; exact fun e => h1 e.symm)])
        clear h1
        go_wp2_with (refine wpList_store_at rfl 43 _ _ rfl w.heap.size 0 (headC zeroH) rfl rfl 43 (headC zeroH) HO14.out.res (by kernel_rfl) (by decide) (headC_ones zeroH) ?_; intro W k1 k2)
        have k3 := zero_fill (headC zeroH) rfl
        rw [k3] at k1
        exact bodyPost_ret (results_cell3 Try.results112 _ W ⟨w.heap.size, 0, none⟩ (headC zeroH) _ rfl k1.cells Try.underlying43 rfl (by kernel_rfl)) rfl (OpenOut.no HP.out 82 (by decide) rfl (k2.extNew HO14.out.ext (Nat.le_refl _)))
end Go.Proofs.Ytdoeelfcihdmbaa
/-
  Layer 8: a shard is read out of bytes.
-/
namespace Go.Proofs.Ytdoeelfcihdmbaa
open Go.RowKit Gf
set_option maxRecDepth 20000
set_option linter.unusedVariables false

def piecesF : List Nat → List E → List (List E)
  | [], _ => []
  | n :: ns, b => b.take n :: piecesF ns (b.drop (n + 4))
def okF (sum : Nat) : Nat → List Nat → List E → Bool
  | _, [], _ => true
  | j, n :: ns, b => decide (fld b n 4 = frameSum sum j (b.take n)) && okF sum (j + 1) ns (b.drop (n + 4))
theorem framesP_eq (sum : Nat) : ∀ (ns : List Nat) (j : Nat) (b : List E), b.length = sum4 ns → framesP sum j ns b = if okF sum j ns b = true then some (piecesF ns b) else none
  | [], j, b, h => by
    have : b.length = 0 := h
    simp [framesP, okF, piecesF, this]
  | n :: ns, j, b, h => by
    have hs : sum4 (n :: ns) = n + 4 + sum4 ns := by simp [sum4]
    rw [hs] at h
    have ih := framesP_eq sum ns (j + 1) (b.drop (n + 4)) (by rw [List.length_drop]; omega)
    rw [framesP, if_neg (by omega), okF, piecesF]
    by_cases hc : fld b n 4 = frameSum sum j (b.take n)
    · rw [if_neg (by simp [hc]), ih]
      by_cases h2 : okF sum (j + 1) ns (b.drop (n + 4)) = true
      · simp [hc, h2]
      · simp [h2]
    · rw [if_pos hc]
      simp [hc]
theorem piecesF_snoc : ∀ (ns : List Nat) (n : Nat) (b : List E), piecesF (ns ++ [n]) b = piecesF ns b ++ [(b.drop (sum4 ns)).take n]
  | [], n, b => by simp [piecesF, sum4]
  | m :: ns, n, b => by
    rw [List.cons_append, piecesF, piecesF_snoc ns n, piecesF, List.cons_append, List.drop_drop]
    have : sum4 (m :: ns) = m + 4 + sum4 ns := by simp [sum4]
    rw [this]
theorem okF_snoc (sum : Nat) : ∀ (ns : List Nat) (j n : Nat) (b : List E), okF sum j (ns ++ [n]) b = (okF sum j ns b && decide (fld (b.drop (sum4 ns)) n 4 = frameSum sum (j + ns.length) ((b.drop (sum4 ns)).take n)))
  | [], j, n, b => by simp [okF, sum4]
  | m :: ns, j, n, b => by
    have : sum4 (m :: ns) = m + 4 + sum4 ns := by simp [sum4]
    rw [List.cons_append, okF, okF_snoc sum ns (j + 1) n, okF, List.length_cons, List.drop_drop, this, Bool.and_assoc, show j + 1 + ns.length = j + (ns.length + 1) by omega]
theorem piecesF_length : ∀ (ns : List Nat) (b : List E), (piecesF ns b).length = ns.length
  | [], _ => rfl
  | n :: ns, b => by rw [piecesF, List.length_cons, piecesF_length ns, List.length_cons]
/-- Lists of bytes of the call's own, in a list of its own. -/
def Rows8 (B : Nat) (w : World) (v : Value) (rs : List (List E)) : Prop := ∃ V : List Value, Own w B 24 v V ∧ V.length = rs.length ∧ ∀ (i : Nat) (u : Value), V[i]? = some u → Own w B 5 u (bs (rs.getD i []))
theorem Rows8.ext {B : Nat} {w w' : World} {v : Value} {rs : List (List E)} (h : Rows8 B w v rs) (hx : Ext w w') : Rows8 B w' v rs := by
  obtain ⟨V, h1, h2, h3⟩ := h
  exact ⟨V, h1.ext hx, h2, fun i u hi => (h3 i u hi).ext hx⟩
theorem Rows8.far {B : Nat} {w : World} {v : Value} {rs : List (List E)} {g : Nat} {T : TypeId} {cs : Array Value} (h : Rows8 B w v rs) (hb : Blk w g T cs) (h1 : 24 ≠ T) (h2 : 5 ≠ T) (j : Nat) (u : Value) : Rows8 B (w.setCell ⟨g, j, none⟩ u) v rs := by
  obtain ⟨V, k1, k2, k3⟩ := h
  exact ⟨V, k1.far (p := ⟨g, j, none⟩) (k1.notBlk hb h1) u, k2, fun i x hi => (k3 i x hi).far (p := ⟨g, j, none⟩) ((k3 i x hi).notBlk hb h2) u⟩
/-- One row more. -/
theorem Rows8.hang {B : Nat} {w w1 w2 : World} {v v2 u : Value} {rs : List (List E)} {r : List E} {V : List Value} (hV : Own w B 24 v V) (hl : V.length = rs.length) (hr : ∀ (i : Nat) (u : Value), V[i]? = some u → Own w B 5 u (bs (rs.getD i []))) (hx : Ext w w1)
    (hu : Own w1 B 5 u (bs r)) (h2 : Own w2 B 24 v2 (V ++ [u])) (hm : Moved (w1.alloc (.cells #[u] 24)) w2 v v2) : Rows8 B w2 v2 (rs ++ [r]) := by
  have hV1 := (hV.ext hx).alloc (.cells #[u] 24)
  refine ⟨V ++ [u], h2, by simp [hl], fun i x hi => ?_⟩
  rcases Nat.lt_trichotomy i V.length with h1 | h1 | h1
  · rw [List.getElem?_append_left h1] at hi
    have := ((hr i x hi).ext hx).alloc (.cells #[u] 24)
    rw [List.getD_eq_getElem?_getD, List.getElem?_append_left (by rw [← hl]; exact h1), ← List.getD_eq_getElem?_getD]
    exact this.kept hm.grown (this.types hV1 (by decide))
  · subst h1
    rw [List.getElem?_append_right (Nat.le_refl _)] at hi
    simp at hi
    subst hi
    have := hu.alloc (.cells #[u] 24)
    rw [List.getD_eq_getElem?_getD, hl, List.getElem?_append_right (Nat.le_refl _)]
    simp only [Nat.sub_self, List.getElem?_cons_zero, Option.getD_some]
    exact this.kept hm.grown (this.types hV1 (by decide))
  · rw [List.getElem?_eq_none (by simp; omega)] at hi; cases hi
theorem Rows8.nil (B : Nat) (w : World) : Rows8 B w (.slice none 0 0) [] := ⟨[], Own.nil _ _ _, rfl, fun i u h => by simp at h⟩
/-- What is known while a shard is read. -/
structure Prs (w0 wr : World) (gr gs : Nat) (h : HeadP) (ok : Bool) (rs : List (List E)) : Prop where
  ext : Ext w0 wr
  right : Blk wr gr 4 #[.bool ok]
  box : ∃ v, Blk wr gs 50 (shardC h v) ∧ Rows8 w0.heap.size wr v rs
  res : Blk wr w0.heap.size 50 (shardC zeroH (.slice none 0 0))
  lr : w0.heap.size < gr
  ls : w0.heap.size < gs
  ne : gr ≠ gs
theorem Prs.beyond {w0 w w' : World} {gr gs : Nat} {h : HeadP} {ok : Bool} {rs : List (List E)} (p : Prs w0 w gr gs h ok rs) (hx : Ext w w') : Prs w0 w' gr gs h ok rs := by
  obtain ⟨v, h1, h2⟩ := p.box
  exact ⟨p.ext.trans hx, p.right.below hx p.right.lt, ⟨v, h1.below hx h1.lt, h2.ext hx⟩, p.res.below hx p.res.lt, p.lr, p.ls, p.ne⟩
theorem Prs.mark {w0 w : World} {gr gs : Nat} {h : HeadP} {ok : Bool} {rs : List (List E)} (p : Prs w0 w gr gs h ok rs) (b : Bool) : Prs w0 (w.setCell ⟨gr, 0, none⟩ (.bool b)) gr gs h b rs := by
  obtain ⟨v, h1, h2⟩ := p.box
  exact ⟨p.ext.new (p := ⟨gr, 0, none⟩) (Nat.le_of_lt p.lr) _, p.right.set_eq 0 _ (by simp), ⟨v, h1.far (p := ⟨gr, 0, none⟩) (fun e => p.ne e.symm) _, h2.far p.right (by decide) (by decide) 0 _⟩, p.res.far (p := ⟨gr, 0, none⟩) (Nat.ne_of_lt p.lr) _, p.lr, p.ls, p.ne⟩
theorem shardC_set (h : HeadP) (v u : Value) : (shardC h v).setIfInBounds 16 u = shardC h u := by simp [shardC]
theorem Prs.fin {w0 w w1 w2 : World} {gr gs : Nat} {h : HeadP} {ok : Bool} {rs : List (List E)} {v v2 u : Value} {r : List E} {V : List Value} (p : Prs w0 w gr gs h ok rs) (hb : Blk w gs 50 (shardC h v)) (hV : Own w w0.heap.size 24 v V) (hl : V.length = rs.length)
    (hr : ∀ (i : Nat) (u : Value), V[i]? = some u → Own w w0.heap.size 5 u (bs (rs.getD i []))) (hx : Ext w w1) (hu : Own w1 w0.heap.size 5 u (bs r)) (h2 : Own w2 w0.heap.size 24 v2 (V ++ [u])) (hm : Moved (w1.alloc (.cells #[u] 24)) w2 v v2) :
    Prs w0 (w2.setCell ⟨gs, 16, none⟩ v2) gr gs h ok (rs ++ [r]) := by
  have p1 := (p.beyond hx).beyond ((Ext.refl w1).alloc (.cells #[u] 24))
  have hV1 := (hV.ext hx).alloc (.cells #[u] 24)
  have hb1 := (hb.below hx hb.lt).alloc (.cells #[u] 24)
  have hb2 : Blk w2 gs 50 (shardC h v) := hm.blkFar hb1 hV1 (by decide)
  have hr2 := hm.blkFar p1.right hV1 (by decide)
  have hs2 := hm.blkFar p1.res hV1 (by decide)
  have hx2 : Ext w0 w2 := p1.ext.below.trans (hm.below p1.ext.le fun g hg => (hV1.lt g hg).1)
  have h8 : Rows8 w0.heap.size w2 v2 (rs ++ [r]) := Rows8.hang hV hl hr hx hu h2 hm
  exact ⟨hx2.new (p := ⟨gs, 16, none⟩) (Nat.le_of_lt p.ls) _, hr2.far (p := ⟨gs, 16, none⟩) p.ne _, ⟨v2, hb2.set_eq 16 _ (shardC_set h v v2), h8.far hb2 (by decide) (by decide) 16 _⟩, hs2.far (p := ⟨gs, 16, none⟩) (Nat.ne_of_lt p.ls) _, p.lr, p.ls, p.ne⟩
set_option maxHeartbeats 8000000 in
theorem each_n (w0 : World) (gr gs j : Nat) (h : HeadP) (ok whole : Bool) (rs : List (List E)) (A : Option Addr) (n c : Nat) (xs : List E) (w : World) (hp : Prs w0 w gr gs h ok rs) (hrs : rs.length ≤ 4096) (hn : xs.length = n) (hA : Rd w A (bs xs)) (hAb : ∀ ad, A = some ad → ad.block < w0.heap.size) (hlen : n ≤ 1000000000) :
    Calls Try.prog 114 #[.int .i64 (j : Int), .slice A n c, .bool whole, .pointer (some ⟨gr, 0, none⟩), .pointer (some ⟨gs, 0, none⟩)] w fun e w' => e = .returned (.tuple #[]) ∧ Prs w0 w' gr gs h (ok && whole) (rs ++ [xs]) ∧ ∀ (B : Nat) (v : Value) (ys : List Value), Own w B 3 v ys → Own w' B 3 v ys := by
  have hmo : Try.prog.follows Departure.mixedOrders = true := by kernel_rfl
  have HN := Lib.hid hn
  have HA := Lib.hid hA
  have HP := Lib.hid hp
  have f0 := hp.right.frozen 0
  have c0 := hp.right.cell 0
  simp at c0
  clear hn hA hp
  go_enter Try.func114, Try.ntmps114
  cases ok
  case false =>
    go_wp2_with fail
    obtain ⟨W, hW⟩ : ∃ W, W = w.setCell ⟨gr, 0, none⟩ (.bool false) := ⟨_, rfl⟩
    have hp1 : Prs w0 W gr gs h false rs := by rw [hW]; exact HP.out.mark false
    have HKW : Hid (∀ (B : Nat) (v : Value) (ys : List Value), Own w B 3 v ys → Own W B 3 v ys) := Lib.hid fun B v ys ho => by rw [hW]; exact ho.far (p := ⟨gr, 0, none⟩) (ho.notBlk HP.out.right (by decide)) _
    have hrd : Rd W A (bs xs) := by rw [hW]; exact HA.out.setCell (fun ad e => by have := hAb ad e; have := HP.out.lr; show ad.block ≠ gr; omega) _
    rw [← hW]
    obtain ⟨v, hvb, V, hV, hVl, hVr⟩ := hp1.box
    have hle := hp1.ext.le
    obtain ⟨Av, nv, cv, rfl⟩ : ∃ A n c, v = Value.slice A n c := by obtain ⟨A, c, h⟩ := hV.anySlice; exact ⟨_, _, _, h⟩
    have d16 : ∀ w', Ext W w' → w'.cell? ⟨gs, 16, none⟩ = some (.slice Av nv cv) := fun w' hx => by
      rw [(hvb.below hx hvb.lt).cell]; rfl
    have HP1 := Lib.hid (And.intro hp1 (And.intro hvb (And.intro hV (And.intro hVl hVr))))
    have HD16 := Lib.hid d16
    have HRD := Lib.hid hrd
    clear hW hp1 hvb hV hVl hVr hrd c0 f0 HP
    refine wp_region_mix (fun i => [3, 0, 3, 1, 1, 2, 3, 2].getD i 0) (fun w' => Ext W w') hmo (by kernel_rfl) (by kernel_rfl) ((Ext.refl _).drewN 1) ?_
    refine mix_pure (.pointer (some ⟨gs, 16, none⟩)) rfl (fun w' => by go_simp) ?_
    refine mix_still (.slice Av nv cv) rfl (fun w' hw' => by have := d16 w' hw'; go_simp) ?_
    refine mix_pure (.slice A n c) rfl (fun w' => by go_simp) ?_
    refine mix_call 115 #[.slice A n c] rfl (by go_simp) ?_
    have hxd : Ext W W.drew := (Ext.refl W).drewN 1
    refine (bclone_n A n c xs _ HN.out (HRD.out.ext hxd) (by omega)).mono ?_
    rintro e w1 ⟨u, rfl, ho, hx⟩
    obtain ⟨Au, nu, cu, rfl⟩ : ∃ A n c, u = Value.slice A n c := by obtain ⟨A, c, h⟩ := ho.anySlice; exact ⟨_, _, _, h⟩
    have hx1 : Ext W w1 := hxd.trans hx
    refine ⟨_, rfl, hx1, ?_⟩
    refine mix_laid (.slice (some ⟨w1.heap.size, 0, none⟩) 1 1) (w1.alloc (.cells #[.slice Au nu cu] 24)) rfl (by go_simp) (hx1.alloc _) ?_
    have hu : Own w1 w0.heap.size 5 (.slice Au nu cu) (bs xs) := ho.mono (by simpa using hle)
    have hbd : (V.length + 1) * 24 ≤ 140737488355328 := by rw [HP1.out.2.2.2.1]; omega
    obtain ⟨v2, w2, hrun, h2, h3, -⟩ := run_app2 (P := Try.prog) (w1.alloc (.cells #[.slice Au nu cu] 24)) eltRowU8 32 w0.heap.size (.slice Av nv cv) V ((HP1.out.2.2.1.ext hx1).alloc _) (some ⟨w1.heap.size, 0, none⟩) 1 1 [.slice Au nu cu] (rd_new w1 _ _) rfl (by simp [Value.oneCell']) hbd (by have := hx1.le; simp; omega)
    obtain ⟨Aw, nw, cw, rfl⟩ : ∃ A n c, v2 = Value.slice A n c := by obtain ⟨A, c, h⟩ := h2.anySlice; exact ⟨_, _, _, h⟩
    refine mix_last (.slice Aw nw cw) w2 rfl (append_run (by rfl) (by go_simp) (by go_simp) hrun) ?_
    refine mix_pure (.pointer (some ⟨gs, 16, none⟩)) rfl (fun w' => by go_simp) ?_
    have hV1 := (HP1.out.2.2.1.ext hx1).alloc (.cells #[.slice Au nu cu] 24)
    have hb2 : Blk w2 gs 50 (shardC h (.slice Av nv cv)) := h3.blkFar ((HP1.out.2.1.below hx1 HP1.out.2.1.lt).alloc _) hV1 (by decide)
    have f16 := hb2.frozen 16
    have c16 : w2.cell? ⟨gs, 16, none⟩ = some (.slice Av nv cv) := by rw [hb2.cell]; rfl
    have HKF : Hid (∀ (B : Nat) (v : Value) (ys : List Value), Own w B 3 v ys → Own (w2.setCell ⟨gs, 16, none⟩ (.slice Aw nw cw)) B 3 v ys) := Lib.hid fun B v ys ho => by
      have k1 := ((HKW.out B v ys ho).ext hx1).alloc (.cells #[.slice Au nu cu] 24)
      have k2 := k1.kept h3.grown (k1.types hV1 (by decide))
      exact k2.far (p := ⟨gs, 16, none⟩) (k2.notBlk hb2 (by decide)) _
    have HF := Lib.hid (HP1.out.1.fin HP1.out.2.1 HP1.out.2.2.1 HP1.out.2.2.2.1 HP1.out.2.2.2.2 hx1 hu h2 h3)
    clear hrun h2 h3 hV1 hb2 hu ho hx hx1 hxd hbd d16
    refine mix_store (w2.setCell ⟨gs, 16, none⟩ (.slice Aw nw cw)) rfl (by go_simp) ?_
    refine mix_nil ?_
    refine bodyPost_end (results_none rfl _ _ _) rfl ?_
    exact ⟨rfl, HF.out, HKF.out⟩
  case true =>
    go_wp2_with fail
    obtain ⟨W, hW⟩ : ∃ W, W = w.setCell ⟨gr, 0, none⟩ (.bool whole) := ⟨_, rfl⟩
    have hp1 : Prs w0 W gr gs h whole rs := by rw [hW]; exact HP.out.mark whole
    have HKW : Hid (∀ (B : Nat) (v : Value) (ys : List Value), Own w B 3 v ys → Own W B 3 v ys) := Lib.hid fun B v ys ho => by rw [hW]; exact ho.far (p := ⟨gr, 0, none⟩) (ho.notBlk HP.out.right (by decide)) _
    have hrd : Rd W A (bs xs) := by rw [hW]; exact HA.out.setCell (fun ad e => by have := hAb ad e; have := HP.out.lr; show ad.block ≠ gr; omega) _
    rw [← hW]
    obtain ⟨v, hvb, V, hV, hVl, hVr⟩ := hp1.box
    have hle := hp1.ext.le
    obtain ⟨Av, nv, cv, rfl⟩ : ∃ A n c, v = Value.slice A n c := by obtain ⟨A, c, h⟩ := hV.anySlice; exact ⟨_, _, _, h⟩
    have d16 : ∀ w', Ext W w' → w'.cell? ⟨gs, 16, none⟩ = some (.slice Av nv cv) := fun w' hx => by
      rw [(hvb.below hx hvb.lt).cell]; rfl
    have HP1 := Lib.hid (And.intro hp1 (And.intro hvb (And.intro hV (And.intro hVl hVr))))
    have HD16 := Lib.hid d16
    have HRD := Lib.hid hrd
    clear hW hp1 hvb hV hVl hVr hrd c0 f0 HP
    refine wp_region_mix (fun i => [3, 0, 3, 1, 1, 2, 3, 2].getD i 0) (fun w' => Ext W w') hmo (by kernel_rfl) (by kernel_rfl) ((Ext.refl _).drewN 1) ?_
    refine mix_pure (.pointer (some ⟨gs, 16, none⟩)) rfl (fun w' => by go_simp) ?_
    refine mix_still (.slice Av nv cv) rfl (fun w' hw' => by have := d16 w' hw'; go_simp) ?_
    refine mix_pure (.slice A n c) rfl (fun w' => by go_simp) ?_
    refine mix_call 115 #[.slice A n c] rfl (by go_simp) ?_
    have hxd : Ext W W.drew := (Ext.refl W).drewN 1
    refine (bclone_n A n c xs _ HN.out (HRD.out.ext hxd) (by omega)).mono ?_
    rintro e w1 ⟨u, rfl, ho, hx⟩
    obtain ⟨Au, nu, cu, rfl⟩ : ∃ A n c, u = Value.slice A n c := by obtain ⟨A, c, h⟩ := ho.anySlice; exact ⟨_, _, _, h⟩
    have hx1 : Ext W w1 := hxd.trans hx
    refine ⟨_, rfl, hx1, ?_⟩
    refine mix_laid (.slice (some ⟨w1.heap.size, 0, none⟩) 1 1) (w1.alloc (.cells #[.slice Au nu cu] 24)) rfl (by go_simp) (hx1.alloc _) ?_
    have hu : Own w1 w0.heap.size 5 (.slice Au nu cu) (bs xs) := ho.mono (by simpa using hle)
    have hbd : (V.length + 1) * 24 ≤ 140737488355328 := by rw [HP1.out.2.2.2.1]; omega
    obtain ⟨v2, w2, hrun, h2, h3, -⟩ := run_app2 (P := Try.prog) (w1.alloc (.cells #[.slice Au nu cu] 24)) eltRowU8 32 w0.heap.size (.slice Av nv cv) V ((HP1.out.2.2.1.ext hx1).alloc _) (some ⟨w1.heap.size, 0, none⟩) 1 1 [.slice Au nu cu] (rd_new w1 _ _) rfl (by simp [Value.oneCell']) hbd (by have := hx1.le; simp; omega)
    obtain ⟨Aw, nw, cw, rfl⟩ : ∃ A n c, v2 = Value.slice A n c := by obtain ⟨A, c, h⟩ := h2.anySlice; exact ⟨_, _, _, h⟩
    refine mix_last (.slice Aw nw cw) w2 rfl (append_run (by rfl) (by go_simp) (by go_simp) hrun) ?_
    refine mix_pure (.pointer (some ⟨gs, 16, none⟩)) rfl (fun w' => by go_simp) ?_
    have hV1 := (HP1.out.2.2.1.ext hx1).alloc (.cells #[.slice Au nu cu] 24)
    have hb2 : Blk w2 gs 50 (shardC h (.slice Av nv cv)) := h3.blkFar ((HP1.out.2.1.below hx1 HP1.out.2.1.lt).alloc _) hV1 (by decide)
    have f16 := hb2.frozen 16
    have c16 : w2.cell? ⟨gs, 16, none⟩ = some (.slice Av nv cv) := by rw [hb2.cell]; rfl
    have HKF : Hid (∀ (B : Nat) (v : Value) (ys : List Value), Own w B 3 v ys → Own (w2.setCell ⟨gs, 16, none⟩ (.slice Aw nw cw)) B 3 v ys) := Lib.hid fun B v ys ho => by
      have k1 := ((HKW.out B v ys ho).ext hx1).alloc (.cells #[.slice Au nu cu] 24)
      have k2 := k1.kept h3.grown (k1.types hV1 (by decide))
      exact k2.far (p := ⟨gs, 16, none⟩) (k2.notBlk hb2 (by decide)) _
    have HF := Lib.hid (HP1.out.1.fin HP1.out.2.1 HP1.out.2.2.1 HP1.out.2.2.2.1 HP1.out.2.2.2.2 hx1 hu h2 h3)
    clear hrun h2 h3 hV1 hb2 hu ho hx hx1 hxd hbd d16
    refine mix_store (w2.setCell ⟨gs, 16, none⟩ (.slice Aw nw cw)) rfl (by go_simp) ?_
    refine mix_nil ?_
    refine bodyPost_end (results_none rfl _ _ _) rfl ?_
    exact ⟨rfl, HF.out, HKF.out⟩
end Go.Proofs.Ytdoeelfcihdmbaa
