/-
  Texts of mine, merged: Poly5 Poly6 Ref2 Law2 Ref3.
-/
import Derived.Test.YtemnlcfabaocbaaG2
import Derived.RegionIn
import Derived.Sort.QuietIn
import Derived.Shelf.RegionOpen
/-
  The walks of layer 2: the quotient and what is left.
-/
namespace Go.Proofs.Ytemnlcfabaocbaa
open Go.RowKit Go.Shelf Gf
set_option maxRecDepth 100000
set_option linter.unusedVariables false
attribute [local go_sem] Oper.semAt_some

theorem Own.still {w w' : World} {B : Nat} {T : TypeId} {v : Value} {xs : List Value} {row : Option Nat} (h : Own w B T v xs) (hg : w.grownBy w' row) (hr : ∀ r, row = some r → ∃ o : Obj, w.heap[r]? = some o ∧ o.isCells = false) : Own w' B T v xs := by
  refine h.keepBlock fun g hg' => hg.block g (h.lt g hg').2 (fun e => ?_)
  obtain ⟨o, ho, hc⟩ := hr g e.symm
  rcases h.2 with ⟨hv, _⟩ | ⟨g', cap, cur, hv, _, hh, _⟩
  · rw [hv] at hg'; cases hg'
  · rw [hv] at hg'
    have : g' = g := by simpa [Value.ownBlock] using hg'
    subst this
    rw [hh] at ho
    cases ho; cases hc
theorem Blk.still {w w' : World} {g : Nat} {t : TypeId} {cs : Array Value} {row : Option Nat} (h : Blk w g t cs) (hg : w.grownBy w' row) (hr : ∀ r, row = some r → ∃ o : Obj, w.heap[r]? = some o ∧ o.isCells = false) : Blk w' g t cs := by
  refine h.grown hg (fun e => ?_)
  obtain ⟨o, ho, hc⟩ := hr g e.symm
  rw [show w.heap[g]? = _ from h] at ho
  cases ho; cases hc

/-- What lies while the division runs: the boxes, the row r, the row s, the iterator's box. -/
structure DI (b s4 d lr ns cr : Nat) (Q : Value) (lead : E) (R : Option Addr) (fr fs : S) (W : World) : Prop where
  q : W.cell? ⟨b, 0, none⟩ = some Q
  d : W.cell? ⟨b + 1, 0, none⟩ = some (.int .i64 (d : Int))
  l : W.cell? ⟨b + 1 + 1, 0, none⟩ = some (.int .u8 (lead.val : Int))
  r : W.cell? ⟨s4, 0, none⟩ = some (.slice R lr cr)
  s : W.cell? ⟨s4 + 1 + 1, 0, none⟩ = some (.slice (some ⟨s4 + 1, 0, none⟩) ns ns)
  i : W.cell? ⟨s4 + 1 + 1 + 1, 0, none⟩ = some (.slice (some ⟨s4 + 1, 0, none⟩) ns ns)
  own : Own W (b + 3) 34 (.slice R lr cr) (bs (ofS lr fr))
  blk : Blk W (s4 + 1) 34 (bs (ofS ns fs)).toArray
section
variable {b s4 d lr ns cr : Nat} {Q : Value} {lead : E} {R : Option Addr} {fr fs : S} {W W' : World}
theorem DI.still {row : Option Nat} (h : DI b s4 d lr ns cr Q lead R fr fs W) (hg : W.grownBy W' row) (hr : ∀ r, row = some r → ∃ o : Obj, W.heap[r]? = some o ∧ o.isCells = false) : DI b s4 d lr ns cr Q lead R fr fs W' :=
  ⟨cell_kept h.q hg hr, cell_kept h.d hg hr, cell_kept h.l hg hr, cell_kept h.r hg hr, cell_kept h.s hg hr, cell_kept h.i hg hr, h.own.still hg hr, h.blk.still hg hr⟩
theorem DI.drew (h : DI b s4 d lr ns cr Q lead R fr fs W) : DI b s4 d lr ns cr Q lead R fr fs W.drew := ⟨h.q, h.d, h.l, h.r, h.s, h.i, h.own, h.blk⟩
theorem DI.drewN (h : DI b s4 d lr ns cr Q lead R fr fs W) (k : Nat) : DI b s4 d lr ns cr Q lead R fr fs (W.drewN k) := ⟨h.q, h.d, h.l, h.r, h.s, h.i, h.own, h.blk⟩
theorem DI.setR {gr : Nat} (h : DI b s4 d lr ns cr Q lead (some ⟨gr, 0, none⟩) fr fs W) (h1 : b + 3 ≤ gr) (h2 : gr < s4) (j : Nat) (v : E) :
    DI b s4 d lr ns cr Q lead (some ⟨gr, 0, none⟩) (upd fr j v) fs (W.setCell ⟨gr, j, none⟩ (.int .u8 (v.val : Int))) := by
  have hk : ∀ {k : Nat} {u : Value}, k ≠ gr → W.cell? ⟨k, 0, none⟩ = some u → (W.setCell ⟨gr, j, none⟩ (.int .u8 (v.val : Int))).cell? ⟨k, 0, none⟩ = some u := fun hne hc => (World.cell?_setCell_other _ _ _ _ (fun e => hne (by injection e with e1; exact e1.symm))).trans hc
  have hR := h.own.set j (.int .u8 (v.val : Int))
  rw [ofS_setb] at hR
  exact ⟨hk (by omega) h.q, hk (by omega) h.d, hk (by omega) h.l, hk (by omega) h.r, hk (by omega) h.s, hk (by omega) h.i, hR, h.blk.far (p := ⟨gr, j, none⟩) (by show s4 + 1 ≠ gr; omega) _⟩
theorem DI.setS (h : DI b s4 d lr ns cr Q lead R fr fs W) (h1 : b + 3 ≤ s4) (h2 : ∀ ad, R = some ad → ad.block < s4) (j : Nat) (v : E) :
    DI b s4 d lr ns cr Q lead R fr (upd fs j v) (W.setCell ⟨s4 + 1, j, none⟩ (.int .u8 (v.val : Int))) := by
  have hk : ∀ {k : Nat} {u : Value}, k ≠ s4 + 1 → W.cell? ⟨k, 0, none⟩ = some u → (W.setCell ⟨s4 + 1, j, none⟩ (.int .u8 (v.val : Int))).cell? ⟨k, 0, none⟩ = some u := fun hne hc => (World.cell?_setCell_other _ _ _ _ (fun e => hne (by injection e with e1; exact e1.symm))).trans hc
  have hS := h.blk.set_ j (.int .u8 (v.val : Int))
  rw [List.setIfInBounds_toArray, ofS_setb] at hS
  refine ⟨hk (by omega) h.q, hk (by omega) h.d, hk (by omega) h.l, hk (by omega) h.r, hk (by omega) h.s, hk (by omega) h.i, h.own.far ?_ _, hS⟩
  intro e
  cases R with
  | none => cases e
  | some ad =>
    have h3 := h2 ad rfl
    have : ad.block = s4 + 1 := by simpa [Value.ownBlock] using e
    omega
theorem DI.seen (h : DI b s4 d lr ns cr Q lead R fr fs W) : Seen (s4 + 1 + 1 + 1) ns ns (some ⟨s4 + 1, 0, none⟩) (fun _ _ => True) W := ⟨h.i, fun k hk =>
  ⟨⟨s4 + 1, 0, none⟩, fs k, rfl, trivial, by rw [add_plain]; exact (h.blk.cell k).trans (by rw [List.getElem?_toArray]; exact ofS_getb _ _ _ hk)⟩⟩
theorem DI.below {B : Nat} (h : DI b s4 d lr ns cr Q lead R fr fs W) (hb : Below B W W') (hB : W.heap.size ≤ B) : DI b s4 d lr ns cr Q lead R fr fs W' := by
  have hk : ∀ {k : Nat} {u : Value}, W.cell? ⟨k, 0, none⟩ = some u → W'.cell? ⟨k, 0, none⟩ = some u := fun {k u} hc => (hb.cell (p := ⟨k, 0, none⟩) (Nat.lt_of_lt_of_le (World.block_lt_of_cell? W _ hc) hB)).trans hc
  exact ⟨hk h.q, hk h.d, hk h.l, hk h.r, hk h.s, hk h.i, h.own.below hb hB, h.blk.below hb (Nat.lt_of_lt_of_le h.blk.lt hB)⟩
end

/-- What a division answers. -/
structure DivOK (p q s r : List E) : Prop where
  ts : Trimmed s
  tr : Trimmed r
  eq : S.add (ser r) (S.mul (ser s) (ser q)) = ser p
  lt : r.length < dg q
theorem divide_ok {p q : List E} {d ns lr : Nat} {ok : Nat → E → Prop} {ys : List (Nat × E)} {fr fs : S} (hd : dg q = d + 1) (hdm : d < q.length) (hlr : lr = dg p) (hns : ns = lr - d) (h : Back ns ok ns ys)
    (hst : dfold q d (E.inv q[d]) (ser p, S.zero) ys = (fr, fs)) : DivOK p q (trim (ofS ns fs)) (trim (ofS lr fr)) := by
  have hq : S.Dlt (ser q) (d + 1) := hd ▸ dg_dlt q
  have h0 : ser q d ≠ 0 := by have := dg_last q (by omega); rwa [hd] at this
  have hl : E.inv q[d] * ser q d = 1 := by rw [← ser_at q d hdm, E.mul_comm]; exact E.mul_inv h0
  have hp : S.Dlt (ser p) (d + ns) := (dg_dlt p).mono (by omega)
  obtain ⟨h1, h2, _, h4⟩ := dfold_ok hq hl hp ns ys (Nat.le_refl _) h
  rw [hst] at h1 h2 h4
  dsimp only at h1 h2 h4
  rw [Nat.sub_self, Nat.add_zero] at h2
  have h5 : S.Dlt fr lr := by
    rcases Nat.le_total d lr with h6 | h6
    · exact h2.mono h6
    · obtain rfl : ns = 0 := by omega
      rw [h4.zero, S.zero_mul, S.add_zero] at h1
      rw [h1, hlr]
      exact dg_dlt p
  refine ⟨trimmed_trim _, trimmed_trim _, by rw [ser_trim, ser_trim, ser_ofS h5, ser_ofS h4, h1], ?_⟩
  rw [trim_length, hd]
  have : S.Dlt (ser (ofS lr fr)) d := by rw [ser_ofS h5]; exact h2
  have := dg_min this
  omega

set_option maxHeartbeats 4000000 in
theorem polyDivide_n (A C : Option Addr) (n m ca cb : Nat) (p q : List E) (w : World) (hn : p.length = n) (hm : q.length = m) (hr : Rd w A (bs p)) (hs : Rd w C (bs q)) (hlen : n ≤ 140737488355328) (hlenq : m ≤ 140737488355328) (hca : n ≤ ca) (hcb : m ≤ cb) (hne : 0 < dg q) :
    Calls Try.prog 45 #[.slice A n ca, .slice C m cb] w fun e w' => ∃ vs vr s r, e = .returned (.tuple #[vs, vr, .int .i64 0]) ∧ DivOK p q s r ∧ Own w' w.heap.size 34 vs (bs s) ∧ Own w' w.heap.size 34 vr (bs r) ∧
      (∀ g, vs.ownBlock = some g → vr.ownBlock ≠ some g) ∧ Ext w w' := by
  obtain ⟨N, hN⟩ : ∃ N : Nat, 3 ≤ N := ⟨3, by decide⟩
  have h1 : 1 ≤ N := by omega
  have h3 : 1 ≤ N - 1 - 1 := by omega
  refine (callsIn_wide (n := N)).1 ?_
  obtain ⟨F, hF⟩ : ∃ F : Fence, F = Fence.wide := ⟨_, rfl⟩
  have hro : F.round = none := by rw [hF]; rfl
  have hfn : ∀ f, F.fn f := fun f => by rw [hF]; trivial
  have hcp : ∀ {f : FuncId} {args : Array Value} {w : World} {R : Ending → World → Prop} (n : Nat), Calls Try.prog f args w R → CallsIn F n Try.prog f args w R := fun n h => by rw [hF]; exact callsIn_wide.2 h
  have hci : ∀ {f : FuncId} {args : Array Value} {w : World} {R : Ending → World → Prop} (n l : Nat), Calls Try.prog f args w R → CallsIn (F.inRound l) n Try.prog f args w R := fun n l h => CallsIn.inRound l (hcp n h)
  rw [← hF]
  clear hF
  have hmo : Try.prog.follows Departure.mixedOrders = true := by kernel_rfl
  obtain ⟨d, hd⟩ : ∃ d, dg q = d + 1 := ⟨dg q - 1, by omega⟩
  have hdm : d < m := by have := dg_le q; omega
  have hdm' : d < q.length := by omega
  have hdd : ((d : Int) < 0) = False := by simp
  refine callsIn_of_wp_marks Try.func45 rfl (hfn _) ?_ hro
  simp only [Try.ntmps45, List.size_toArray, List.length_cons, List.length_nil, Nat.reduceAdd, Nat.reduceSub, Array.replicate_succ, Array.replicate_zero, List.push_toArray, List.append_toArray, List.nil_append, List.cons_append]
  obtain ⟨wq, hwq⟩ : ∃ wq, wq = w.alloc (.cells #[.slice C m cb] 26) := ⟨_, rfl⟩
  obtain ⟨wd, hwd⟩ : ∃ wd, wd = wq.alloc (.cells #[.int .i64 (d : Int)] 3) := ⟨_, rfl⟩
  have xq : Ext w wq := by rw [hwq]; exact (Ext.refl w).alloc _
  have xd : Ext w wd := by rw [hwd]; exact xq.alloc _
  obtain ⟨cd, rfl, hc1⟩ := (hs.ext xd).byte hdm'
  have hlead := (q[d]).lt
  have hdeg : ∀ W, Rd W (some cd) (bs q) → Calls Try.prog 34 #[.slice (some cd) m cb] W fun e w' => e = .returned (.int .i64 (d : Int)) ∧ W = w' := fun W hW =>
    (degree_n _ m q _ _ hm hW (by omega)).mono fun e w' ⟨he, hw⟩ => ⟨by rw [he, hd]; simp, hw⟩
  rw [hwd, hwq] at hc1
  gi_wp2_with (first | (gi_at_call 34; refine (hcp _ (hdeg _ (by rw [← hwq]; exact hs.ext xq))).mono ?_; rintro e w' ⟨rfl, rfl⟩) | (gi_at_call 94; refine (hcp _ (inverse_any q[d] _)).mono ?_; rintro e w' ⟨rfl, rfl⟩))
  obtain ⟨wl, hwl⟩ : ∃ wl, wl = wd.alloc (.cells #[.int .u8 ((E.inv q[d]).val : Int)] 34) := ⟨_, rfl⟩
  have xl : Ext w wl := by rw [hwl]; exact xd.alloc _
  have bq : wl.cell? ⟨w.heap.size, 0, none⟩ = some (.slice (some cd) m cb) := by rw [hwl, hwd, hwq]; exact (((Boxed.new w 26 (.slice (some cd) m cb)).alloc _).alloc _).cell
  have bd : wl.cell? ⟨w.heap.size + 1, 0, none⟩ = some (.int .i64 (d : Int)) := by
    have := ((Boxed.new wq 3 (.int .i64 (d : Int))).alloc (.cells #[.int .u8 ((E.inv q[d]).val : Int)] 34)).cell
    rw [← hwd, ← hwl, show wq.heap.size = w.heap.size + 1 by rw [hwq, World.size_alloc]] at this
    exact this
  have bl : wl.cell? ⟨w.heap.size + 1 + 1, 0, none⟩ = some (.int .u8 ((E.inv q[d]).val : Int)) := by
    have := (Boxed.new wd 34 (.int .u8 ((E.inv q[d]).val : Int))).cell
    rw [← hwl, show wd.heap.size = w.heap.size + 1 + 1 by rw [hwd, World.size_alloc, hwq, World.size_alloc]] at this
    exact this
  have hszl : wl.heap.size = w.heap.size + 1 + 1 + 1 := by rw [hwl, World.size_alloc, hwd, World.size_alloc, hwq, World.size_alloc]
  rw [← hwq, ← hwd, ← hwl]
  refine (hcp _ (trim_n A n p ca wl hn (hr.ext xl) hlen hca)).mono ?_
  rintro e w4 ⟨v, rfl, ho, hx4⟩
  obtain ⟨R, cr, rfl, ho, hrd, hle, hmx⟩ := ho.bytes
  have HL := Lib.hid (trim_length p)
  have HDP := Lib.hid (show dg p ≤ n by have := dg_le p; omega)
  clear hwq hwd hwl
  have bq4 := (hx4.cell (p := ⟨w.heap.size, 0, none⟩) (by rw [hszl]; simp; omega)).trans bq
  have bd4 := (hx4.cell (p := ⟨w.heap.size + 1, 0, none⟩) (by rw [hszl]; simp)).trans bd
  have bl4 := (hx4.cell (p := ⟨w.heap.size + 1 + 1, 0, none⟩) (by rw [hszl]; simp)).trans bl
  have hsz4 := hx4.le
  rw [hszl] at hsz4
  have xw4 := xl.trans hx4
  clear bq bd bl xq xd xl hx4 hc1 hdeg
  generalize hlr : (trim p).length = lr at *
  have bd5 : (w4.alloc (.cells #[.slice R lr cr] 26)).cell? ⟨w.heap.size + 1, 0, none⟩ = some (.int .i64 (d : Int)) := (World.cell?_alloc_lt _ _ _ (by show w.heap.size + 1 < _; omega)).trans bd4
  obtain ⟨ns, hns⟩ : ∃ ns, ns = lr - d := ⟨_, rfl⟩
  have HNS := Lib.hid hns
  have hRb : ∀ ad, R = some ad → ad.block < w4.heap.size := by
    obtain ⟨_, _, hv, _, _, _, hlt⟩ := ho.slice
    injection hv with e1
    subst e1
    exact fun ad e => (hlt ad e).2
  have hRt := ho
  rw [show trim p = ofS lr (ser p) by rw [← hlr, ← ser_trim p]; exact (ofS_ser (trim p)).symm, hszl] at hRt
  have hlr1 : lr ≤ n := by rw [HL.out]; exact HDP.out
  have hnsl : ns ≤ n := by omega
  have hmk := make_elems ns (by omega)
  rw [zeros_ofS] at hmk
  have hmk0 : lr ≤ d → ns = 0 := by omega
  have HDI := Lib.hid (show DI w.heap.size w4.heap.size d lr ns cr (.slice (some cd) m cb) (E.inv q[d]) R (ser p) S.zero ((((w4.alloc (.cells #[.slice R lr cr] 26)).alloc (.cells (bs (ofS ns S.zero)).toArray 34)).alloc (.cells #[.slice (some ⟨w4.heap.size + 1, 0, none⟩) ns ns] 26)).alloc (.cells #[.slice (some ⟨w4.heap.size + 1, 0, none⟩) ns ns] 26)) by
    have a1 := Boxed.new w4 26 (.slice R lr cr)
    have a2 := Blk.new (w4.alloc (.cells #[.slice R lr cr] 26)) 34 (bs (ofS ns S.zero)).toArray
    rw [World.size_alloc] at a2
    have a3 := Boxed.new ((w4.alloc (.cells #[.slice R lr cr] 26)).alloc (.cells (bs (ofS ns S.zero)).toArray 34)) 26 (.slice (some ⟨w4.heap.size + 1, 0, none⟩) ns ns)
    rw [World.size_alloc, World.size_alloc] at a3
    have a4 := Boxed.new (((w4.alloc (.cells #[.slice R lr cr] 26)).alloc (.cells (bs (ofS ns S.zero)).toArray 34)).alloc (.cells #[.slice (some ⟨w4.heap.size + 1, 0, none⟩) ns ns] 26)) 26 (.slice (some ⟨w4.heap.size + 1, 0, none⟩) ns ns)
    rw [World.size_alloc, World.size_alloc, World.size_alloc] at a4
    have hx : Ext w4 ((((w4.alloc (.cells #[.slice R lr cr] 26)).alloc (.cells (bs (ofS ns S.zero)).toArray 34)).alloc (.cells #[.slice (some ⟨w4.heap.size + 1, 0, none⟩) ns ns] 26)).alloc (.cells #[.slice (some ⟨w4.heap.size + 1, 0, none⟩) ns ns] 26)) := ((((Ext.refl w4).alloc _).alloc _).alloc _).alloc _
    exact ⟨(hx.cell (p := ⟨w.heap.size, 0, none⟩) (by show w.heap.size < _; omega)).trans bq4, (hx.cell (p := ⟨w.heap.size + 1, 0, none⟩) (by show w.heap.size + 1 < _; omega)).trans bd4, (hx.cell (p := ⟨w.heap.size + 1 + 1, 0, none⟩) (by show w.heap.size + 1 + 1 < _; omega)).trans bl4,
      (((a1.alloc _).alloc _).alloc _).cell, (a3.alloc _).cell, a4.cell, (hRt.ext hx), (a2.alloc _).alloc _⟩)
  by_cases hcase : lr ≤ d
  · obtain ⟨e, he, he0⟩ : ∃ e : Int, e = (lr : Int) - d ∧ e ≤ 0 := ⟨_, rfl, by omega⟩
    have hw : wrap64 ((lr : Int) - (d : Int)) = e := by rw [he]; exact IntWalk.wrap64_in _ (by omega)
    have hmk' := hmk
    rw [show ((ns : Nat) : Int) = 0 by have := hmk0 hcase; omega] at hmk'
    clear hmk hns he hmk0
    (gi_wp2_with (gi_at_call 88; refine (back_in F (N - 1) (hfn _) hro _ _ _ _).mono ?_; rintro e w' ⟨rfl, rfl⟩))
    obtain ⟨w8, hw8⟩ : ∃ w8, w8 = (((w4.alloc (.cells #[.slice R lr cr] 26)).alloc (.cells (bs (ofS ns S.zero)).toArray 34)).alloc (.cells #[.slice (some ⟨w4.heap.size + 1, 0, none⟩) ns ns] 26)).alloc (.cells #[.slice (some ⟨w4.heap.size + 1, 0, none⟩) ns ns] 26) := ⟨_, rfl⟩
    have hD := HDI.out
    rw [← hw8] at hD ⊢
    have hsz8 : w8.heap.size = w4.heap.size + 1 + 1 + 1 + 1 := by rw [hw8]; simp
    have hx8 : Ext w w8 := by rw [hw8]; exact (((xw4.alloc _).alloc _).alloc _).alloc _
    clear hw8
    refine wpIn_rangeFunc_ownG hro h1 (gf := 118) (lb := #[.pointer (some ⟨w4.heap.size + 1 + 1 + 1, 0, none⟩)]) rfl (hfn _) (enters_of Try.func118 (by kernel_rfl) rfl)
      (back_stops F (N - 1) (hfn _) hro (by omega) (w4.heap.size + 1 + 1 + 1) ns ns (some ⟨w4.heap.size + 1, 0, none⟩) (fun _ _ => True) (by simp only [maxLen]; omega) w8 (fun W hW => (hD.below hW (Nat.le_refl _)).seen))
      (fun h k hq => k (h hq)) (fun W l o o' _ hl ho _ hq => hq.put o' hl ho) (Below.refl _ _) (fun _ => rfl)
      (fun pre W => DI w.heap.size w4.heap.size d lr ns cr (.slice (some cd) m cb) (E.inv q[d]) R (dfold q d (E.inv q[d]) (ser p, S.zero) (plain pre)).1 (dfold q d (E.inv q[d]) (ser p, S.zero) (plain pre)).2 W ∧ Below w.heap.size w W)
      (fun _ _ _ => False)
      (OwnFrom.and (Own.from (fun s A B row hs hg hr => hs.still hg hr) _) (ownFrom_below (Nat.le_refl _) hx8.le))
      (fun _ _ _ _ _ hs _ _ => hs)
      ⟨hD, hx8⟩
      ?a11 ?assign1 ?body1 ?done1 ?stop1
    case assign1 =>
      intro l y W K hK
      gi_wp2
      exact hK
    case body1 =>
      rintro l pre ⟨⟨a, z⟩, ha⟩ W _ _
      exfalso
      have := HNS.out
      dsimp only at ha
      omega
    case done1 =>
      rintro D ys W hDD hys ⟨hI, hB⟩ hK
      obtain ⟨fr, fs, hst⟩ : ∃ fr fs, dfold q d (E.inv q[d]) (ser p, S.zero) (plain ys) = (fr, fs) := ⟨_, _, rfl⟩
      have hok := Lib.hid (divide_ok hd hdm' HL.out HNS.out hys hst)
      rw [hst] at hI
      dsimp only at hI
      have hi4 := hI.r
      have hi5 := hI.s
      obtain ⟨ho1, hr1, hd1⟩ := own_trim (B := w.heap.size) hI.blk (by omega) (by simp only [maxLen]; omega)
      have hr2 := hI.own.rd
      have hd2 := dg_le (ofS lr fr)
      rw [ofS_length] at hd2
      have ho2 := Lib.hid ((hI.own.take (dg (ofS lr fr)) hd2).mono (B' := w.heap.size) (by omega))
      have HO := Lib.hid (show ∀ W', Below w.heap.size w W' → KeepsFrom w8.heap.size W W' → True from fun _ _ _ => trivial)
      have ho1 := Lib.hid ho1
      have HB := Lib.hid hB
      have HK := Lib.hid hK
      have HR := Lib.hid hRb
      have HDD := Lib.hid hDD
      have hd3 : dg (ofS lr fr) ≤ cr := by omega
      have HX8 := Lib.hid hx8.le
      have hbd1 : dg (ofS ns fs) ≤ 140737488355328 := by omega
      have hbd2 : dg (ofS lr fr) ≤ 140737488355328 := by omega
      have hq1 : ∀ k, Rd (W.drewN k) (some ⟨w4.heap.size + 1, 0, none⟩) (bs (ofS ns fs)) := fun k => hr1
      have hq2 : ∀ k, Rd (W.drewN k) R (bs (ofS lr fr)) := fun k => hr2
      have hL1 := ofS_length ns fs
      have hL2 := ofS_length lr fr
      have hbn1 : ns ≤ 140737488355328 := by omega
      have hbn2 : lr ≤ 140737488355328 := by omega
      clear hI hB hK hst hys hRb hDD hD hn hm hr hs hlen hlenq hca hcb hne hd hdd hszl hmx HDP bq4 bd4 bl4 HDI ho hrd bd5 hRt hw hx8 hcase hnsl hlr1 hsz8 xw4 hle h3 hdm hsz4
      try clear e0
      try clear hmk
      try clear hmk'
      gi_wp2_with fail
      refine region_quiet hmo (by kernel_rfl) (by kernel_rfl) ?_
      repeat (gi_big_quiet_step ((first | (gi_at_call 34; with_reducible refine (hcp _ (degree_n _ _ _ _ _ hL1 (hq1 _) (by omega))).mono ?_; rintro e w' ⟨rfl, rfl⟩; exact ⟨rfl, _, rfl⟩) | (gi_at_call 34; with_reducible refine (hcp _ (degree_n _ _ _ _ _ hL2 (hq2 _) (by omega))).mono ?_; rintro e w' ⟨rfl, rfl⟩; exact ⟨rfl, _, rfl⟩))))
      refine wpQuietIn_nil ?_
      rintro _ ⟨nq, rfl⟩
      gi_wp2
      obtain ⟨W2, hW2⟩ : ∃ W2, W2 = W.drewN nq := ⟨_, rfl⟩
      have hK2 : W2.heap[D]? = some (Obj.deferred (some [])) := by rw [hW2]; exact HK.out
      have hB2 : Below w.heap.size w W2 := by rw [hW2]; exact below_drewN HB.out nq
      have hs2 : Own W2 w.heap.size 34 (.slice (some ⟨w4.heap.size + 1, 0, none⟩) (dg (ofS ns fs)) ns) (bs (trim (ofS ns fs))) := by rw [hW2]; exact ho1.out
      have ht2 : Own W2 w.heap.size 34 (.slice R (dg (ofS lr fr)) cr) (bs (trim (ofS lr fr))) := by rw [hW2, trim, bs_take]; exact ho2.out
      rw [← hW2]
      clear hW2
      refine ⟨by simp, .inl ⟨_, _, rfl, run_takeDeferred hK2, ?_⟩⟩
      refine ⟨_, results_tmp3 rfl _ _ _, _, _, _, _, rfl, hok.out, hs2.still (grownBy_putObj' W2 D _) (fun r e => by injection e with e; subst e; exact ⟨_, hK2, rfl⟩), ht2.still (grownBy_putObj' W2 D _) (fun r e => by injection e with e; subst e; exact ⟨_, hK2, rfl⟩), ?_, ?_⟩
      · intro g hg hg'
        have hg1 : w4.heap.size + 1 = g := by simpa [Value.ownBlock] using hg
        cases hR : R with
        | none => rw [hR] at hg'; cases hg'
        | some ad =>
          have h3 := HR.out ad hR
          rw [hR] at hg'
          have : ad.block = g := by simpa [Value.ownBlock] using hg'
          omega
      · exact hB2.trans (belowK_b (w := w) (Nat.le_refl _) W2 D _ _ (by have := HDD.out; have := HX8.out; omega) hK2 rfl rfl)
    case stop1 =>
      rintro D c pre W _ _ h _
      exact h.elim
  · have e0 : (lr : Int) - (d : Int) = (ns : Int) := by omega
    have hw : wrap64 ((lr : Int) - (d : Int)) = (lr : Int) - (d : Int) := IntWalk.wrap64_in _ (by omega)
    clear hns hmk0
    (gi_wp2_with (gi_at_call 88; refine (back_in F (N - 1) (hfn _) hro _ _ _ _).mono ?_; rintro e w' ⟨rfl, rfl⟩))
    obtain ⟨w8, hw8⟩ : ∃ w8, w8 = (((w4.alloc (.cells #[.slice R lr cr] 26)).alloc (.cells (bs (ofS ns S.zero)).toArray 34)).alloc (.cells #[.slice (some ⟨w4.heap.size + 1, 0, none⟩) ns ns] 26)).alloc (.cells #[.slice (some ⟨w4.heap.size + 1, 0, none⟩) ns ns] 26) := ⟨_, rfl⟩
    have hD := HDI.out
    rw [← hw8] at hD ⊢
    have hsz8 : w8.heap.size = w4.heap.size + 1 + 1 + 1 + 1 := by rw [hw8]; simp
    have hx8 : Ext w w8 := by rw [hw8]; exact (((xw4.alloc _).alloc _).alloc _).alloc _
    clear hw8
    refine wpIn_rangeFunc_ownG hro h1 (gf := 118) (lb := #[.pointer (some ⟨w4.heap.size + 1 + 1 + 1, 0, none⟩)]) rfl (hfn _) (enters_of Try.func118 (by kernel_rfl) rfl)
      (back_stops F (N - 1) (hfn _) hro (by omega) (w4.heap.size + 1 + 1 + 1) ns ns (some ⟨w4.heap.size + 1, 0, none⟩) (fun _ _ => True) (by simp only [maxLen]; omega) w8 (fun W hW => (hD.below hW (Nat.le_refl _)).seen))
      (fun h k hq => k (h hq)) (fun W l o o' _ hl ho _ hq => hq.put o' hl ho) (Below.refl _ _) (fun _ => rfl)
      (fun pre W => DI w.heap.size w4.heap.size d lr ns cr (.slice (some cd) m cb) (E.inv q[d]) R (dfold q d (E.inv q[d]) (ser p, S.zero) (plain pre)).1 (dfold q d (E.inv q[d]) (ser p, S.zero) (plain pre)).2 W ∧ Below w.heap.size w W)
      (fun _ _ _ => False)
      (OwnFrom.and (Own.from (fun s A B row hs hg hr => hs.still hg hr) _) (ownFrom_below (Nat.le_refl _) hx8.le))
      (fun _ _ _ _ _ hs _ _ => hs)
      ⟨hD, hx8⟩
      ?a12 ?assign2 ?body2 ?done2 ?stop2
    case assign2 =>
      intro l y W K hK
      gi_wp2
      exact hK
    case body2 =>
      rintro l pre ⟨⟨a, z⟩, ha⟩ W ⟨hI, hB⟩ _
      obtain ⟨fr, fs, hst⟩ : ∃ fr fs, dfold q d (E.inv q[d]) (ser p, S.zero) (plain pre) = (fr, fs) := ⟨_, _, rfl⟩
      have hI' := hI
      rw [hst] at hI
      clear hI'
      have HST := Lib.hid hst
      clear hst
      dsimp only at hI ha ⊢
      have hlr2 : lr = d + ns := by have := HNS.out; omega
      obtain ⟨gr, cr', hv, hgr1, hgr2, hcrr⟩ := hI.own.some_ (fun e => by have := congrArg List.length e; rw [bs_ofS_len] at this; simp at this; omega)
      injection hv with e1 e2 e3
      subst e1
      have hgr3 := hRb _ rfl
      dsimp only at hgr3
      have hi1 := hI.q
      have hi2 := hI.d
      have hi3 := hI.l
      have hi4 := hI.r
      have hi5 := hI.s
      have hcr : W.cell? ⟨gr, a + d, none⟩ = some (.int .u8 ((fr (a + d)).val : Int)) := hI.own.cell (ofS_getb _ _ _ (by omega))
      have had : a + d < lr := by omega
      have had0 : (0 : Int) ≤ (a : Int) + (d : Int) := by omega
      have had1 : (a : Int) + (d : Int) < (lr : Int) := by omega
      have hw1 : IntKind.i64.wrap ((a : Int) + (d : Int)) = (a : Int) + (d : Int) := IntWalk.i64_in _ (by omega)
      have hw3 : ((a : Int) + (d : Int)).toNat = a + d := by omega
      obtain ⟨c, hc⟩ : ∃ c, c = fr (a + d) * E.inv q[d] := ⟨_, rfl⟩
      have HC := Lib.hid hc
      have HI := Lib.hid hI
      have HB := Lib.hid hB
      have HS := Lib.hid hs
      have HQ := Lib.hid hdm
      have HQ2 := Lib.hid hdm'
      have HG := Lib.hid (And.intro hgr1 hgr3)
      have HX := Lib.hid hsz4
      have HM := Lib.hid hm
      have HL2 := Lib.hid hlr2
      have HLE := Lib.hid (And.intro hlen hlenq)
      have HNL := Lib.hid hnsl
      clear hI hB hs hgr1 hgr2 hgr3 hcrr e2 e3 hrd ho bd5 hRb hRt HDI hD hn hm hr hlen hlenq hca hcb hne hd hdd hszl hmx HDP bq4 bd4 bl4 hsz4 xw4 hlr hle hnsl hlr1 hcase e0 hw hsz8 hx8 hmk hc hlr2 h1 hN hdm
      gi_wp2_with fail
      refine region_quiet hmo (by kernel_rfl) (by kernel_rfl) ?_
      repeat (gi_big_quiet_step ((gi_at_call 58; with_reducible refine (hci _ l (times_any _ _ _)).mono ?_; rintro e w' ⟨rfl, rfl⟩; exact ⟨rfl, _, rfl⟩)))
      refine wpQuietIn_nil ?_
      rintro _ ⟨nq, rfl⟩
      rw [← HC.out]
      have hkW := (KeepsFrom.refl w8.heap.size W)
      obtain ⟨W1, hW1⟩ : ∃ W1, W1 = W.drewN nq := ⟨_, rfl⟩
      have hI1 : DI w.heap.size w4.heap.size d lr ns cr (.slice (some cd) m cb) (E.inv q[d]) (some ⟨gr, 0, none⟩) fr fs W1 := by rw [hW1]; exact ⟨HI.out.q, HI.out.d, HI.out.l, HI.out.r, HI.out.s, HI.out.i, HI.out.own, HI.out.blk⟩
      have hB1 : Below w.heap.size w W1 := by rw [hW1]; exact below_drewN HB.out nq
      have hk1 : KeepsFrom w8.heap.size W W1 := by rw [hW1]; exact ⟨Nat.le_refl _, fun _ _ _ h _ => h⟩
      rw [← hW1]
      clear hW1 hi1 hi2 hi3 hi4 hi5 hcr hkW had0 had1 hw1 hw3
      have hi2 := hI1.d
      have hi5 := hI1.s
      have hcs : W1.frozen? ⟨w4.heap.size + 1, a, none⟩ = false := hI1.blk.frozen a
      have hcz : W1.cell? ⟨w4.heap.size + 1, a, none⟩ = some (.int .u8 ((fs a).val : Int)) := (hI1.blk.cell a).trans (by rw [List.getElem?_toArray]; exact ofS_getb _ _ _ ha)
      have hd9 : d < 140737488355328 := by have := HQ.out; have := HLE.out.2; omega
      have hI2 := Lib.hid (hI1.setS (by have := HX.out; omega) (by intro ad e; injection e with e; subst e; exact HG.out.2) a c)
      have hB2 := Lib.hid (hB1.setCell (p := ⟨w4.heap.size + 1, a, none⟩) (by have := HX.out; show w.heap.size ≤ w4.heap.size + 1; omega) (.int .u8 (c.val : Int)))
      have hk2 := Lib.hid (hk1.trans ((KeepsOthers.setCell W1 ⟨w4.heap.size + 1, a, none⟩ (.int .u8 (c.val : Int))).from w8.heap.size))
      have hi2' : (W1.setCell ⟨w4.heap.size + 1, a, none⟩ (.int .u8 (c.val : Int))).cell? ⟨w.heap.size + 1, 0, none⟩ = some (.int .i64 (d : Int)) := hI2.out.d
      clear hI1 hB1 hk1
      gi_wp2_with fail
      gi_loopw [53] (fun i wr => ∃ k : Nat, k ≤ d + 1 ∧ i = .int .i64 k ∧ DI w.heap.size w4.heap.size d lr ns cr (.slice (some cd) m cb) (E.inv q[d]) (some ⟨gr, 0, none⟩) (divT fr q c a k) (upd fs a c) wr ∧ Below w.heap.size w wr ∧ KeepsFrom w8.heap.size W wr) (fun i _ => d + 1 - (intOf i).toNat)
      case atStart => exact ⟨0, by omega, rfl, by rw [divT_zero]; exact hI2.out, hB2.out, hk2.out⟩
      case round =>
        obtain ⟨k, hk, rfl, hI3, hB3, hk3⟩ := hrel
        clear hi2 hi2' hi5 hcs hcz
        by_cases hlt : k < d + 1
        · have hkq : k < q.length := by have := HQ2.out; omega
          obtain ⟨cd', e', hc3⟩ := (HS.out.ext hB3).byte hkq
          injection e' with e'
          subst e'
          have hi1 := hI3.q
          have hi4 := hI3.r
          have hak : a + k < lr := by have := HL2.out; omega
          have hcr : wr.cell? ⟨gr, a + k, none⟩ = some (.int .u8 ((divT fr q c a k (a + k)).val : Int)) := hI3.own.cell (ofS_getb _ _ _ hak)
          have hfz : wr.frozen? ⟨gr, a + k, none⟩ = false := hI3.own.frozen _
          have hw1 : IntKind.i64.wrap ((a : Int) + (k : Int)) = (a : Int) + (k : Int) := IntWalk.i64_in _ (by have := HL2.out; have := HNL.out; have := HLE.out; omega)
          have hw3 : ((a : Int) + (k : Int)).toNat = a + k := by omega
          have hw4 : (0 : Int) ≤ (a : Int) + (k : Int) := by omega
          have hw5 : (a : Int) + (k : Int) < (lr : Int) := by omega
          have hkm : k < m := by have := HM.out; omega
          have hkv := (q[k]).lt
          have HI3 := Lib.hid hI3
          have HB3 := Lib.hid hB3
          have HK3 := Lib.hid hk3
          clear hI3 hB3 hk3 hI2 hB2 hk2 had hfz
          gi_wp2_with fail
          refine region_store hmo (by kernel_rfl) (by kernel_rfl) (by kernel_rfl) ?_
          dsimp only [muted, mute, List.dropLast]
          repeat (gi_big_quiet_step ((first | (gi_at_call 58; with_reducible refine (hci _ l (times_any _ _ _)).mono ?_; rintro e w' ⟨rfl, rfl⟩; exact ⟨rfl, _, rfl⟩) | (gi_at_call 57; with_reducible refine (hci _ l (plus_any _ _ _)).mono ?_; rintro e w' ⟨rfl, rfl⟩; exact ⟨rfl, _, rfl⟩))))
          refine wpQuietIn_nil ?_
          rintro _ ⟨nq, rfl⟩ s hs
          simp only [List.getLast?_cons_cons, List.getLast?_singleton, Option.some.injEq] at hs
          subst hs
          obtain ⟨W2, hW2⟩ : ∃ W2, W2 = wr.drewN nq := ⟨_, rfl⟩
          have hI4 : DI w.heap.size w4.heap.size d lr ns cr (.slice (some cd) m cb) (E.inv q[d]) (some ⟨gr, 0, none⟩) (divT fr q c a k) (upd fs a c) W2 := by rw [hW2]; exact HI3.out.drewN nq
          have hB4 : Below w.heap.size w W2 := by rw [hW2]; exact below_drewN HB3.out nq
          have hk4 : KeepsFrom w8.heap.size W W2 := by rw [hW2]; exact HK3.out.trans ⟨Nat.le_refl _, fun _ _ _ h _ => h⟩
          rw [← hW2]
          clear hW2 hi1 hi4 hcr hc3 hw1 hw3 hw4 hw5
          have hcr : W2.cell? ⟨gr, a + k, none⟩ = some (.int .u8 ((divT fr q c a k (a + k)).val : Int)) := hI4.own.cell (ofS_getb _ _ _ hak)
          have hfz : W2.frozen? ⟨gr, a + k, none⟩ = false := hI4.own.frozen _
          have hI5 := Lib.hid (hI4.setR HG.out.1 HG.out.2 (a + k) (divT fr q c a k (a + k) + c * q[k]))
          have hk5 := Lib.hid (hk4.trans ((KeepsOthers.setCell W2 ⟨gr, a + k, none⟩ (.int .u8 ((divT fr q c a k (a + k) + c * q[k]).val : Int))).from w8.heap.size))
          have hB5 := Lib.hid (hB4.setCell (p := ⟨gr, a + k, none⟩) (by have := HG.out.1; show w.heap.size ≤ gr; omega) (.int .u8 ((divT fr q c a k (a + k) + c * q[k]).val : Int)))
          have hser : Hid (ser q k = q[k]) := Lib.hid (ser_at q k hkq)
          clear hI4 hB4 hk4
          go_simp
          gi_wp2_with fail
          go_roundw
          case rel => exact ⟨k + 1, by omega, by go_num, by rw [← divT_step, hser.out]; exact hI5.out, hB5.out, hk5.out⟩
          case measure => simp [intOf]; omega
        · have hkd : k = d + 1 := by omega
          rw [hkd] at hI3
          have HI3 := Lib.hid hI3
          have HB3 := Lib.hid hB3
          have HK3 := Lib.hid hk3
          clear hI3 hB3 hk3 hI2 hB2 hk2 had hkd
          gi_wp2_with fail
          refine ⟨HK3.out, fun _ => HI3.out.seen, ?_, HB3.out⟩
          rw [plain_snoc, dfold_snoc, HST.out]
          dsimp only [dstep]
          rw [← HC.out]
          exact HI3.out
    case done2 =>
      rintro D ys W hDD hys ⟨hI, hB⟩ hK
      obtain ⟨fr, fs, hst⟩ : ∃ fr fs, dfold q d (E.inv q[d]) (ser p, S.zero) (plain ys) = (fr, fs) := ⟨_, _, rfl⟩
      have hok := Lib.hid (divide_ok hd hdm' HL.out HNS.out hys hst)
      rw [hst] at hI
      dsimp only at hI
      have hi4 := hI.r
      have hi5 := hI.s
      obtain ⟨ho1, hr1, hd1⟩ := own_trim (B := w.heap.size) hI.blk (by omega) (by simp only [maxLen]; omega)
      have hr2 := hI.own.rd
      have hd2 := dg_le (ofS lr fr)
      rw [ofS_length] at hd2
      have ho2 := Lib.hid ((hI.own.take (dg (ofS lr fr)) hd2).mono (B' := w.heap.size) (by omega))
      have HO := Lib.hid (show ∀ W', Below w.heap.size w W' → KeepsFrom w8.heap.size W W' → True from fun _ _ _ => trivial)
      have ho1 := Lib.hid ho1
      have HB := Lib.hid hB
      have HK := Lib.hid hK
      have HR := Lib.hid hRb
      have HDD := Lib.hid hDD
      have hd3 : dg (ofS lr fr) ≤ cr := by omega
      have HX8 := Lib.hid hx8.le
      have hbd1 : dg (ofS ns fs) ≤ 140737488355328 := by omega
      have hbd2 : dg (ofS lr fr) ≤ 140737488355328 := by omega
      have hq1 : ∀ k, Rd (W.drewN k) (some ⟨w4.heap.size + 1, 0, none⟩) (bs (ofS ns fs)) := fun k => hr1
      have hq2 : ∀ k, Rd (W.drewN k) R (bs (ofS lr fr)) := fun k => hr2
      have hL1 := ofS_length ns fs
      have hL2 := ofS_length lr fr
      have hbn1 : ns ≤ 140737488355328 := by omega
      have hbn2 : lr ≤ 140737488355328 := by omega
      clear hI hB hK hst hys hRb hDD hD hn hm hr hs hlen hlenq hca hcb hne hd hdd hszl hmx HDP bq4 bd4 bl4 HDI ho hrd bd5 hRt hw hx8 hcase hnsl hlr1 hsz8 xw4 hle h3 hdm hsz4
      try clear e0
      try clear hmk
      try clear hmk'
      gi_wp2_with fail
      refine region_quiet hmo (by kernel_rfl) (by kernel_rfl) ?_
      repeat (gi_big_quiet_step ((first | (gi_at_call 34; with_reducible refine (hcp _ (degree_n _ _ _ _ _ hL1 (hq1 _) (by omega))).mono ?_; rintro e w' ⟨rfl, rfl⟩; exact ⟨rfl, _, rfl⟩) | (gi_at_call 34; with_reducible refine (hcp _ (degree_n _ _ _ _ _ hL2 (hq2 _) (by omega))).mono ?_; rintro e w' ⟨rfl, rfl⟩; exact ⟨rfl, _, rfl⟩))))
      refine wpQuietIn_nil ?_
      rintro _ ⟨nq, rfl⟩
      gi_wp2
      obtain ⟨W2, hW2⟩ : ∃ W2, W2 = W.drewN nq := ⟨_, rfl⟩
      have hK2 : W2.heap[D]? = some (Obj.deferred (some [])) := by rw [hW2]; exact HK.out
      have hB2 : Below w.heap.size w W2 := by rw [hW2]; exact below_drewN HB.out nq
      have hs2 : Own W2 w.heap.size 34 (.slice (some ⟨w4.heap.size + 1, 0, none⟩) (dg (ofS ns fs)) ns) (bs (trim (ofS ns fs))) := by rw [hW2]; exact ho1.out
      have ht2 : Own W2 w.heap.size 34 (.slice R (dg (ofS lr fr)) cr) (bs (trim (ofS lr fr))) := by rw [hW2, trim, bs_take]; exact ho2.out
      rw [← hW2]
      clear hW2
      refine ⟨by simp, .inl ⟨_, _, rfl, run_takeDeferred hK2, ?_⟩⟩
      refine ⟨_, results_tmp3 rfl _ _ _, _, _, _, _, rfl, hok.out, hs2.still (grownBy_putObj' W2 D _) (fun r e => by injection e with e; subst e; exact ⟨_, hK2, rfl⟩), ht2.still (grownBy_putObj' W2 D _) (fun r e => by injection e with e; subst e; exact ⟨_, hK2, rfl⟩), ?_, ?_⟩
      · intro g hg hg'
        have hg1 : w4.heap.size + 1 = g := by simpa [Value.ownBlock] using hg
        cases hR : R with
        | none => rw [hR] at hg'; cases hg'
        | some ad =>
          have h3 := HR.out ad hR
          rw [hR] at hg'
          have : ad.block = g := by simpa [Value.ownBlock] using hg'
          omega
      · exact hB2.trans (belowK_b (w := w) (Nat.le_refl _) W2 D _ _ (by have := HDD.out; have := HX8.out; omega) hK2 rfl rfl)
    case stop2 =>
      rintro D c pre W _ _ h _
      exact h.elim
end Go.Proofs.Ytemnlcfabaocbaa
/-
  The walks of layer 2: the division by nothing; the product over points; the polynomial through points.
-/
namespace Go.Proofs.Ytemnlcfabaocbaa
open Go.RowKit Gf
set_option maxRecDepth 20000
set_option linter.unusedVariables false

theorem polyDivide_zero (A C : Option Addr) (n m ca cb : Nat) (q : List E) (w : World) (hm : q.length = m) (hs : Rd w C (bs q)) (hlenq : m ≤ 140737488355328) (h0 : dg q = 0) :
    Calls Try.prog 45 #[.slice A n ca, .slice C m cb] w fun e w' => e = .returned (.tuple #[.slice none 0 0, .slice none 0 0, .int .i64 10]) ∧ Ext w w' := by
  obtain ⟨wq, hwq⟩ : ∃ wq, wq = w.alloc (.cells #[.slice C m cb] 26) := ⟨_, rfl⟩
  have xq : Ext w wq := by rw [hwq]; exact (Ext.refl w).alloc _
  have HD := Lib.hid (show Calls Try.prog 34 #[.slice C m cb] wq fun e w' => e = .returned (.int .i64 (-1)) ∧ wq = w' from
    (degree_n _ m q _ _ hm (hs.ext xq) (by omega)).mono fun e w' ⟨he, hw⟩ => ⟨by rw [he, h0]; rfl, hw⟩)
  rw [hwq] at HD
  clear h0 hm
  go_enter Try.func45, Try.ntmps45
  go_wp2_with (go_at_call 34; refine HD.out.mono ?_; rintro e w' ⟨rfl, rfl⟩)
  go_ret3
  exact ⟨rfl, ((Ext.refl w).alloc _).alloc _⟩
/-- What a division answers, of whatever two. -/
def DivAny (p q s r : List E) (k : Int) : Prop := (dg q = 0 ∧ s = [] ∧ r = [] ∧ k = 10) ∨ (0 < dg q ∧ DivOK p q s r ∧ k = 0)
theorem DivOK.ls {p q s r : List E} (h : DivOK p q s r) : s.length ≤ p.length := by
  obtain ⟨d, hd⟩ : ∃ d, dg q = d + 1 := ⟨dg q - 1, by have := h.lt; omega⟩
  have hg : S.Dlt (ser q) (d + 1) := hd ▸ dg_dlt q
  have h0 : ser q d ≠ 0 := by have := dg_last q (by omega); rwa [hd] at this
  rcases Nat.eq_zero_or_pos s.length with hz | hz
  · omega
  · obtain ⟨k, hk⟩ : ∃ k, s.length = k + 1 := ⟨s.length - 1, by omega⟩
    have hs : S.Dlt (ser s) (k + 1) := hk ▸ dlt_ser s
    have hs0 := h.ts.last (by omega)
    rw [hk, Nat.add_sub_cancel] at hs0
    have hm := S.lead_mul hs hg
    rcases Nat.lt_or_ge (k + d) p.length with h1 | h1
    · omega
    · have e := congrFun h.eq (k + d)
      rw [ser_out p (k + d) h1] at e
      simp only [S.add] at e
      rw [ser_out r (k + d) (by have := h.lt; omega), E.zero_add, hm] at e
      rcases E.mul_eq_zero.1 e with h2 | h2
      · exact absurd h2 hs0
      · exact absurd h2 h0
theorem DivAny.ls {p q s r : List E} {k : Int} (h : DivAny p q s r k) : s.length ≤ p.length := by
  rcases h with ⟨_, rfl, _, _⟩ | ⟨_, h, _⟩
  · exact Nat.zero_le _
  · exact h.ls
theorem DivAny.lr {p q s r : List E} {k : Int} (h : DivAny p q s r k) : r.length ≤ q.length := by
  rcases h with ⟨_, _, rfl, _⟩ | ⟨_, h, _⟩
  · exact Nat.zero_le _
  · have := h.lt; have := dg_le q; omega
theorem polyDivide_all (A C : Option Addr) (n m ca cb : Nat) (p q : List E) (w : World) (hn : p.length = n) (hm : q.length = m) (hr : Rd w A (bs p)) (hs : Rd w C (bs q)) (hlen : n ≤ 140737488355328) (hlenq : m ≤ 140737488355328) (hca : n ≤ ca) (hcb : m ≤ cb) :
    Calls Try.prog 45 #[.slice A n ca, .slice C m cb] w fun e w' => ∃ vs vr s r k, e = .returned (.tuple #[vs, vr, .int .i64 k]) ∧ DivAny p q s r k ∧ Own w' w.heap.size 34 vs (bs s) ∧ Own w' w.heap.size 34 vr (bs r) ∧
      (∀ g, vs.ownBlock = some g → vr.ownBlock ≠ some g) ∧ Ext w w' := by
  rcases Nat.eq_zero_or_pos (dg q) with h0 | h0
  · refine (polyDivide_zero A C n m ca cb q w hm hs hlenq h0).mono ?_
    rintro e w' ⟨rfl, hx⟩
    exact ⟨_, _, [], [], 10, rfl, .inl ⟨h0, rfl, rfl, rfl⟩, Own.nil _ _ _, Own.nil _ _ _, (fun g hg => by cases hg), hx⟩
  · refine (polyDivide_n A C n m ca cb p q w hn hm hr hs hlen hlenq hca hcb h0).mono ?_
    rintro e w' ⟨vs, vr, s, r, rfl, hok, h1, h2, h3, hx⟩
    exact ⟨vs, vr, s, r, 0, rfl, .inr ⟨h0, hok, rfl⟩, h1, h2, h3, hx⟩
end Go.Proofs.Ytemnlcfabaocbaa
/-
  The walks of the document's answer for chapter 2: product, inverse, trimming, degree, value.
-/
namespace Go.Proofs.Ytemnlcfabaocbaa
open Go.RowKit Gf
set_option maxRecDepth 20000
set_option linter.unusedVariables false

theorem infoU8 : (Try.prog.info? 5).map (fun i => (i.zero, i.size, i.bytes)) = some (some (.int .u8 0), 1, 1) := by kernel_rfl
theorem eltU8 : Elt Try.prog 24 5 (.int .u8 0) 1 := ⟨Try.underlying24, info_parts infoU8, rfl, by decide⟩
theorem make_bytes (n : Nat) (h : n ≤ 281474976710656) (w : World) :
    (Instr.makeSlice 24 (.int .i64 (n : Int)) (.int .i64 (n : Int))).run Try.prog w = .ok (.slice (some ⟨w.heap.size, 0, none⟩) n n) (w.alloc (.cells (zrow (.int .u8 0) n) 5)) :=
  run_make_elt eltU8 _ _ n (by omega) w

theorem bit_i64 (b k : Nat) (hb : b < 2 ^ 32) : bits BinOp.and IntKind.i64 ((b : Int) / 2 ^ k) 1 = ((b / 2 ^ k % 2 : Nat) : Int) := by
  have h : ((b : Int) / 2 ^ k) = ((b / 2 ^ k : Nat) : Int) := by simp
  rw [h]
  exact bits_i64_and1 _ (Nat.lt_of_le_of_lt (Nat.div_le_self _ _) hb)
theorem racc_yes (a b k : Nat) (ha : a < 256) (hb : b < 256) (h : (bits BinOp.and IntKind.i64 ((b : Int) / 2 ^ k) 1 == 1) = true) :
    bits BinOp.xor IntKind.i64 (acc a b k : Int) (xtn a k : Int) = (acc a b (k + 1) : Int) := by
  rw [bit_i64 b k (Nat.lt_trans hb (by decide)), beq_iff_eq] at h
  rw [bits_i64_xor _ _ (Nat.lt_trans (acc_lt b ha k) (by decide)) (Nat.lt_trans (xtn_lt ha k) (by decide))]
  rw [acc, if_pos (by omega)]
theorem racc_no (a b k : Nat) (hb : b < 256) (h : (bits BinOp.and IntKind.i64 ((b : Int) / 2 ^ k) 1 == 1) = false) :
    (acc a b k : Int) = (acc a b (k + 1) : Int) := by
  rw [bit_i64 b k (Nat.lt_trans hb (by decide)), beq_eq_false_iff_ne] at h
  rw [acc, if_neg (by omega)]
theorem rxt_big (X : Nat) (h : X < 256) (h1 : 255 < 2 * (X : Int)) : bits BinOp.xor IntKind.i64 (2 * (X : Int)) 285 = (xt X : Int) := by
  rw [Int.mul_comm] at h1 ⊢; exact xt_big X h h1
theorem rxt_small (X : Nat) (h1 : 2 * (X : Int) ≤ 255) : 2 * (X : Int) = (xt X : Int) := by
  rw [Int.mul_comm] at h1 ⊢; exact xt_small X h1
theorem refMul_any (x y : E) (w : World) :
    Calls Try.prog 86 #[.int .u8 x.val, .int .u8 y.val] w fun e w' => e = .returned (.int .u8 (x * y).val) ∧ w = w' := by
  obtain ⟨a, ha⟩ := x
  obtain ⟨b, hb⟩ := y
  simp only
  go_enter Try.func86, Try.ntmps86
  go_wp2
  go_loop [5, 6, 7] (fun p x i => ∃ k : Nat, k ≤ 8 ∧ i = .int .i64 k ∧ p = .int .i64 (acc a b k) ∧ x = .int .i64 (xtn a k))
     (fun _ _ i => 8 - (intOf i).toNat)
  case atStart => exact ⟨0, Nat.zero_le _, rfl, rfl, rfl⟩
  case round =>
    obtain ⟨k, hk, rfl, rfl, rfl⟩ := hrel
    have hP := acc_lt b ha k
    have hX := xtn_lt ha k
    by_cases hlt : k < 8
    · go_wp2
      all_goals
        go_round
        case rel => exact ⟨k + 1, by omega, by go_num, congrArg _ (by first | exact racc_yes a b k ha hb (by assumption) | exact racc_no a b k hb (by assumption)), congrArg _ (by first | exact rxt_big _ hX (by assumption) | exact rxt_small _ (by assumption))⟩
        case measure => simp [intOf]; omega
    · obtain rfl : k = 8 := by omega
      go_wp2
      go_ret
      exact ⟨rfl, rfl⟩
theorem refMul_lit (a b : Int) (x y : E) (ha : a = x.val) (hb : b = y.val) (w : World) :
    Calls Try.prog 86 #[.int .u8 a, .int .u8 b] w fun e w' => e = .returned (.int .u8 (x * y).val) ∧ w = w' := by
  subst ha; subst hb; exact refMul_any x y w
theorem inv_found {x : E} (hx : x ≠ 0) (c : E) : (x * c = 1) ↔ c = E.inv x := by
  constructor
  · intro h; exact E.inv_eq h
  · rintro rfl; exact E.mul_inv hx
theorem refInv_any (x : E) (hx : x ≠ 0) (w : World) :
    Calls Try.prog 92 #[.int .u8 x.val] w fun e w' => e = .returned (.int .u8 (E.inv x).val) ∧ w = w' := by
  have hf := Lib.hid (fun c => inv_found (x := x) hx c)
  have ht0 : E.inv x ≠ 0 := E.inv_ne_zero hx
  have hxl := x.lt
  clear hx
  generalize E.inv x = t at hf ht0 ⊢
  have htl := t.lt
  have ht1 : 1 ≤ t.val := by
    rcases Nat.eq_zero_or_pos t.val with h | h
    · exact absurd (E.ext h) ht0
    · exact h
  clear ht0
  go_enter Try.func92, Try.ntmps92
  go_wp2
  go_loop [3] (fun i => ∃ k : Nat, 1 ≤ k ∧ k ≤ t.val ∧ i = .int .i64 k) (fun i => 256 - (intOf i).toNat)
  case atStart => exact ⟨1, Nat.le_refl _, ht1, rfl⟩
  case round =>
    obtain ⟨k, hk1, hk, rfl⟩ := hrel
    have hof : (E.of k).val = k := E.val_of (by omega)
    have HC := Lib.hid (fun w => refMul_lit x.val k x (E.of k) rfl (by rw [hof]) w)
    have hk256 : k < 256 := by omega
    by_cases hkt : k = t.val
    · subst hkt
      rw [E.of_val] at HC
      have he : (((x * t).val : Int) == 1) = true := (eqE _ 1).trans (decide_eq_true ((hf.out t).2 rfl))
      clear hof
      go_wp2_with (go_at_call 86; refine (HC.out _).mono ?_; rintro e w' ⟨rfl, rfl⟩)
      go_ret
      exact ⟨rfl, rfl⟩
    · have he : (((x * E.of k).val : Int) == 1) = false := (eqE _ 1).trans (decide_eq_false (fun h => hkt (by rw [← (hf.out _).1 h, hof])))
      have hlt : k < t.val := by omega
      clear hof hkt
      go_wp2_with (go_at_call 86; refine (HC.out _).mono ?_; rintro e w' ⟨rfl, rfl⟩)
      go_round
      case rel => exact ⟨k + 1, by omega, by omega, by go_num⟩
      case measure => simp [intOf]; omega
set_option maxHeartbeats 1000000 in
theorem refTrim_n (A : Option Addr) (n : Nat) (xs : List E) (cap : Nat) (w : World) (hn : xs.length = n) (hr : Rd w A (bs xs)) (hlen : n ≤ 140737488355328) :
    Calls Try.prog 30 #[.slice A n cap] w fun e w' => ∃ v, e = .returned v ∧ Own w' w.heap.size 5 v (bs (trim xs)) ∧ Ext w w' := by
  have HN := Lib.hid hn
  have hd0 := dg_le xs
  rw [hn] at hd0
  clear hn
  go_enter Try.func30, Try.ntmps30
  go_wp2_with fail
  go_loop [3] (fun i => ∃ m : Nat, m ≤ n ∧ i = .int .i64 m ∧ dg xs ≤ m) (fun i => (intOf i).toNat)
  case atStart => exact ⟨n, by omega, rfl, hd0⟩
  case round =>
    obtain ⟨m, hm, rfl, hd⟩ := hrel
    by_cases hgo : ∃ j, m = j + 1 ∧ dg xs ≤ j
    · obtain ⟨j, rfl, hdj⟩ := hgo
      have hj : j < xs.length := by have := HN.out; omega
      have hjn : j < n := by omega
      obtain ⟨ad, rfl, hc⟩ := hr.byte hj
      have hz : xs[j] = 0 := by rw [← ser_at xs j hj]; exact dg_zero xs j hdj
      have hw1 : wrap64 (((j + 1 : Nat) : Int) - 1) = (j : Int) := by rw [IntWalk.wrap64_in _ (by omega)]; omega
      rw [hz] at hc
      clear hz
      go_wp2
      go_round
      case rel => exact ⟨j, by omega, by go_num, hdj⟩
      case measure => simp [intOf]
    · obtain rfl : m = dg xs := by
        rcases Nat.eq_zero_or_pos m with h | h
        · omega
        · rcases Nat.lt_or_ge (m - 1) (dg xs) with h2 | h2
          · omega
          · exact absurd ⟨m - 1, by omega, h2⟩ hgo
      clear hgo
      have htl := trim_length xs
      have htr : Rd w A (bs (trim xs)) := by rw [trim, bs_take]; exact hr.take _
      have HT := Lib.hid htr
      rcases Nat.eq_zero_or_pos (dg xs) with h0 | h0
      · have h00 : (((dg xs : Nat) : Int)) = 0 := by omega
        have hdt : trim xs = [] := List.eq_nil_of_length_eq_zero (by rw [htl]; exact h0)
        have HDT := Lib.hid hdt
        rw [h00]
        clear htl htr h00 hdt hd hd0 hm
        go_wp2
        go_loop [4, 5] (fun v i => v = .slice none 0 0 ∧ i = .int .i64 0) (fun _ _ => 0)
        case atStart => exact ⟨rfl, rfl⟩
        case round =>
          obtain ⟨rfl, rfl⟩ := hrel
          go_wp2
          go_ret
          exact ⟨_, rfl, by rw [HDT.out]; exact Own.nil _ _ _, Ext.refl _⟩
      · obtain ⟨j, hj⟩ : ∃ j, dg xs = j + 1 := ⟨dg xs - 1, by omega⟩
        have hjl : j < xs.length := by have := HN.out; omega
        have hjn : j < n := by omega
        obtain ⟨ad, rfl, hc⟩ := hr.byte hjl
        have hz : ((((xs[j]).val : Nat) : Int) == 0) = false := (eqE _ 0).trans (decide_eq_false (by
          have := dg_last xs (by omega)
          rw [hj, Nat.add_sub_cancel, ser_at xs j hjl] at this
          exact this))
        have hw1 : wrap64 (((j + 1 : Nat) : Int) - 1) = (j : Int) := by rw [IntWalk.wrap64_in _ (by omega)]; omega
        have HJ := Lib.hid hj
        have HTL := Lib.hid (htl.trans hj)
        rw [hj]
        rw [hj] at hd0 hm
        clear hj htl htr hd h0
        go_wp2
        go_loopw [4, 5] (fun v i wr => ∃ (k : Nat) (V : Value), V = v ∧ k ≤ j + 1 ∧ i = .int .i64 k ∧ Ext w wr ∧ Own wr w.heap.size 5 V (bs ((trim xs).take k))) (fun _ i _ => j + 1 - (intOf i).toNat)
        case atStart => exact ⟨0, _, rfl, by omega, rfl, Ext.refl _, Own.nil _ _ _⟩
        case round =>
          obtain ⟨k, V, rfl, hk, rfl, hx, ho⟩ := hrel
          by_cases hlt : k < j + 1
          · have hkt : k < (trim xs).length := by rw [HTL.out]; exact hlt
            obtain ⟨ad', e', hck⟩ := (HT.out.ext hx).byte hkt
            injection e' with e'
            subst e'
            have hkn : k < n := by omega
            have hle := hx.le
            have hbd : ((bs ((trim xs).take k)).length + 1) * 1 ≤ 140737488355328 := by simp [bs]; omega
            have hsn := bs_snoc (trim xs) k hkt
            go_wp2_with (at_builtin; refine wpList_push wr eltU8 rfl _ _ (by rfl) w.heap.size V _ (by rfl) (by exact ho) (.int .u8 ((trim xs)[k]).val) (by rfl) rfl hbd hle ?_; intro v' w' ho' _ hb' _)
            go_roundw
            case rel => exact ⟨k + 1, _, rfl, by omega, by go_num, Below.trans hx hb', by rw [hsn]; exact ho'⟩
            case measure => simp [intOf]; omega
          · obtain rfl : k = j + 1 := by omega
            have hta : (trim xs).take (j + 1) = trim xs := List.take_of_length_le (by rw [HTL.out]; exact Nat.le_refl _)
            rw [hta] at ho
            clear hta
            go_wp2
            go_ret
            exact ⟨_, rfl, ho, hx⟩
theorem refDegree_n (A : Option Addr) (n : Nat) (xs : List E) (cap : Nat) (w : World) (hn : xs.length = n) (hr : Rd w A (bs xs)) (hlen : n ≤ 140737488355328) :
    Calls Try.prog 31 #[.slice A n cap] w fun e w' => e = .returned (.int .i64 ((dg xs : Int) - 1)) ∧ Ext w w' := by
  have hd := dg_le xs
  have HT := Lib.hid (trim_length xs)
  have HN := Lib.hid hn
  rw [hn] at hd
  go_enter Try.func31, Try.ntmps31
  go_wp2_with fail
  refine (refTrim_n A n xs cap _ hn hr hlen).mono ?_
  rintro e w1 ⟨v, rfl, ho, hx⟩
  obtain ⟨A1, c1, rfl, -, -, -, -⟩ := ho.bytes
  rw [HT.out]
  clear ho hn
  go_wp2
  go_ret
  exact ⟨rfl, hx⟩
theorem evL_take (p : List E) (x : E) (k : Nat) (h : k < p.length) : evL (p.take (k + 1)) x = evL (p.take k) x + p[k] * E.pow x k := by
  induction p generalizing k with
  | nil => simp at h
  | cons a l ih =>
    cases k with
    | zero => simp [evL_cons, evL_nil, E.mul_zero, E.add_zero, E.zero_add, E.pow_zero, E.mul_one]
    | succ k =>
      simp only [List.take_succ_cons, evL_cons, List.getElem_cons_succ]
      rw [ih k (by simpa using h), E.mul_add, E.add_assoc, E.pow_succ, E.mul_left_comm, E.mul_comm x (E.pow x k)]
theorem refAt_n (A : Option Addr) (n : Nat) (p : List E) (cap : Nat) (x : E) (w : World) (hn : p.length = n) (hr : Rd w A (bs p)) (hlen : n ≤ 140737488355328) :
    Calls Try.prog 32 #[.slice A n cap, .int .u8 x.val] w fun e w' => e = .returned (.int .u8 (evL p x).val) ∧ w = w' := by
  have HN := Lib.hid hn
  clear hn
  have hxl := x.lt
  go_enter Try.func32, Try.ntmps32
  go_wp2_with fail
  go_loop [5, 6, 7] (fun s pw i => ∃ k : Nat, k ≤ n ∧ i = .int .i64 k ∧ s = .int .u8 (evL (p.take k) x).val ∧ pw = .int .u8 (E.pow x k).val) (fun _ _ i => n - (intOf i).toNat)
  case atStart => exact ⟨0, by omega, rfl, rfl, rfl⟩
  case round =>
    obtain ⟨k, hk, rfl, rfl, rfl⟩ := hrel
    by_cases hlt : k < n
    · have hkp : k < p.length := by have := HN.out; omega
      obtain ⟨ad, rfl, hc⟩ := hr.byte hkp
      have HE := Lib.hid (evL_take p x k hkp)
      have hpl := (E.pow x k).lt
      have hcl := (p[k]).lt
      have hb := bits_u8_xor (evL (p.take k) x) (p[k] * E.pow x k)
      go_wp2_with (go_at_call 86; with_reducible refine (refMul_any _ _ _).mono ?_; rintro e w' ⟨rfl, rfl⟩)
      go_round
      case rel => exact ⟨k + 1, by omega, by go_num, by rw [HE.out], by rw [E.pow_succ]⟩
      case measure => simp [intOf]; omega
    · obtain rfl : k = n := by omega
      have hp : p.take k = p := List.take_of_length_le (by rw [HN.out]; exact Nat.le_refl _)
      rw [hp]
      go_wp2
      go_ret
      exact ⟨rfl, rfl⟩
end Go.Proofs.Ytemnlcfabaocbaa
/-
  The walks of the laws' own helpers of chapter 2: lent, same, kept; and the roots.
-/
namespace Go.Proofs.Ytemnlcfabaocbaa
open Go.RowKit Gf
set_option maxRecDepth 20000
set_option linter.unusedVariables false

/-- The marks behind a list that is lent. -/
def mark (i : Nat) : E := E.of (101 + i)
def marks (n : Nat) : List E := (List.range n).map mark
theorem marks_snoc (n : Nat) : marks (n + 1) = marks n ++ [mark n] := by simp [marks, List.range_succ]
theorem marks_length (n : Nat) : (marks n).length = n := by simp [marks]
theorem mark_val {i : Nat} (h : i < 100) : (mark i).val = 101 + i := E.val_of (by omega)
theorem mark_any (k : Nat) (hk : k < 66) (w : World) :
    Calls Try.prog 84 #[.int .i64 k] w fun e w' => e = .returned (.int .u8 (mark k).val) ∧ w = w' := by
  have hm := Lib.hid (mark_val (i := k) (by omega))
  go_enter Try.func84, Try.ntmps84
  go_wp2
  go_ret
  exact ⟨ret_int (by rw [hm.out]; omega), rfl⟩
theorem bs_len_le (xs : List E) (k : Nat) : (bs (xs.take k)).length ≤ xs.length := by rw [bs_length, List.length_take]; omega
set_option maxHeartbeats 1000000 in
theorem lent_n (A : Option Addr) (n : Nat) (xs : List E) (cap : Nat) (w : World) (hn : xs.length = n) (hr : Rd w A (bs xs)) (hlen : n ≤ 140737488355228) :
    Calls Try.prog 26 #[.slice A n cap] w fun e w' => ∃ g c, e = .returned (.slice (some ⟨g, 0, none⟩) n c) ∧ w.heap.size ≤ g ∧ Own w' w.heap.size 34 (.slice (some ⟨g, 0, none⟩) (n + 66) c) (bs (xs ++ marks 66)) ∧ n + 66 ≤ c ∧ c ≤ maxLen ∧ Ext w w' := by
  have HN := Lib.hid hn
  clear hn
  go_enter Try.func26, Try.ntmps26
  go_wp2_with fail
  go_loopw [3, 4] (fun v i wr => ∃ (k : Nat) (V : Value), V = v ∧ k ≤ n ∧ i = .int .i64 k ∧ Ext w wr ∧ Own wr w.heap.size 34 V (bs (xs.take k))) (fun _ i _ => n - (intOf i).toNat)
  case atStart => exact ⟨0, _, rfl, by omega, rfl, Ext.refl _, Own.nil _ _ _⟩
  case round =>
    obtain ⟨k, V, rfl, hk, rfl, hx, ho⟩ := hrel
    by_cases hlt : k < n
    · have hkt : k < xs.length := by rw [HN.out]; exact hlt
      obtain ⟨ad, rfl, hck⟩ := (hr.ext hx).byte hkt
      have hle := hx.le
      have hbd : ((bs (xs.take k)).length + 1) * 1 ≤ 140737488355328 := by have := bs_len_le xs k; have := HN.out; omega
      have hsn := bs_snoc xs k hkt
      have hkl := (xs[k]).lt
      go_wp2_with (at_builtin; refine wpList_push wr eltEl rfl _ _ (by rfl) w.heap.size V _ (by rfl) (by exact ho) (.int .u8 (xs[k]).val) (by rfl) rfl hbd hle ?_; intro v' w' ho' _ hb' _)
      go_roundw
      case rel => exact ⟨k + 1, _, rfl, by omega, by go_num, Below.trans hx hb', by rw [hsn]; exact ho'⟩
      case measure => simp [intOf]; omega
    · obtain rfl : k = n := by omega
      have hta : xs.take k = xs := List.take_of_length_le (by rw [HN.out]; exact Nat.le_refl _)
      rw [hta] at ho
      clear hta
      go_wp2
      go_loopw [3, 5] (fun v i wr => ∃ (j : Nat) (V : Value), V = v ∧ j ≤ 66 ∧ i = .int .i64 j ∧ Ext w wr ∧ Own wr w.heap.size 34 V (bs (xs ++ marks j))) (fun _ i _ => 66 - (intOf i).toNat)
      case atStart => exact ⟨0, _, rfl, by omega, rfl, hx, by simpa [marks] using ho⟩
      case round =>
        obtain ⟨j, V, rfl, hj, rfl, hx, ho⟩ := hrel
        by_cases hlt : j < 66
        · have hle := hx.le
          have hbd : ((bs (xs ++ marks j)).length + 1) * 1 ≤ 140737488355328 := by rw [bs_length, List.length_append, marks_length, HN.out]; omega
          have hml := (mark j).lt
          go_wp2_with (first | (go_at_call 84; with_reducible refine (mark_any j hlt _).mono ?_; rintro e w' ⟨rfl, rfl⟩) | (at_builtin; refine wpList_push _ eltEl rfl _ _ (by rfl) w.heap.size V _ (by rfl) (by exact ho) (.int .u8 (mark j).val) (by rfl) rfl hbd hle ?_; intro v' w' ho' _ hb' _))
          go_roundw
          case rel =>
            refine ⟨j + 1, _, rfl, by omega, by go_num, Below.trans hx hb', ?_⟩
            rw [marks_snoc, ← List.append_assoc, bs_append]
            exact ho'
          case measure => simp [intOf]; omega
        · obtain rfl : j = 66 := by omega
          obtain ⟨g, c, rfl, hg1, hg2, hlc, hmc⟩ := ho.some_ (fun e => by have := congrArg List.length e; simp [bs, marks_length] at this)
          have hll : (bs (xs ++ marks 66)).length = k + 66 := by rw [bs_length, List.length_append, marks_length, HN.out]
          rw [hll] at ho hlc ⊢
          simp only [maxLen] at hmc
          have hkc : k ≤ c := by omega
          go_wp2
          go_ret
          exact ⟨g, c, rfl, hg1, ho, hlc, by simp only [maxLen]; exact hmc, hx⟩
theorem same_n (A B : Option Addr) (n m : Nat) (xs : List E) (ca cb : Nat) (w : World) (hn : xs.length = n) (hm : xs.length = m) (hr : Rd w A (bs xs)) (hs : Rd w B (bs xs)) (hlen : n ≤ 9000000000000000000) :
    Calls Try.prog 28 #[.slice A n ca, .slice B m cb] w fun e w' => e = .returned (.bool true) ∧ Ext w w' := by
  subst hn
  subst hm
  go_enter Try.func28, Try.ntmps28
  go_wp2_with fail
  go_loopw [5] (fun i wr => ∃ k : Nat, k ≤ xs.length ∧ i = .int .i64 k ∧ Ext w wr) (fun i _ => xs.length - (intOf i).toNat)
  case atStart => exact ⟨0, by omega, rfl, Ext.refl _⟩
  case round =>
    obtain ⟨k, hk, rfl, hbel⟩ := hrel
    by_cases hlt : k < xs.length
    · obtain ⟨ad, rfl, hc1⟩ := (hr.ext hbel).byte hlt
      obtain ⟨bd, rfl, hc2⟩ := (hs.ext hbel).byte hlt
      have hl0 : (0 : Int) ≤ (k : Int) := by omega
      have hl1 : (k : Int) < (xs.length : Int) := by omega
      have hv := (xs[k]).lt
      go_wp2_with fail
      go_quiet (fail)
      go_wp2
      go_roundw
      case rel => exact ⟨k + 1, by omega, by go_num, hbel.drewN _⟩
      case measure => simp [intOf]; omega
    · obtain rfl : k = xs.length := by omega
      go_wp2
      go_ret
      exact ⟨rfl, hbel⟩
set_option maxHeartbeats 1000000 in
theorem kept_n (A B : Option Addr) (n m : Nat) (xs : List E) (ca cb : Nat) (w : World) (hn : xs.length = n) (hm : xs.length = m) (hr : Rd w A (bs (xs ++ marks 66))) (hs : Rd w B (bs xs)) (hlen : n ≤ 140737488355228) (hca : n + 66 ≤ ca) :
    Calls Try.prog 29 #[.slice A n ca, .slice B m cb] w fun e w' => e = .returned (.bool true) ∧ Ext w w' := by
  subst hn
  subst hm
  have hla : (xs ++ marks 66).length = xs.length + 66 := by rw [List.length_append, marks_length]
  have HLA := Lib.hid hla
  clear hla
  go_enter Try.func29, Try.ntmps29
  go_wp2_with fail
  go_loopw [5] (fun i wr => ∃ k : Nat, k ≤ xs.length ∧ i = .int .i64 k ∧ Ext w wr) (fun i _ => xs.length - (intOf i).toNat)
  case atStart => exact ⟨0, by omega, rfl, Ext.refl _⟩
  case round =>
    obtain ⟨k, hk, rfl, hbel⟩ := hrel
    by_cases hlt : k < xs.length
    · obtain ⟨ad, rfl, hc1⟩ := (hr.ext hbel).byte (k := k) (by have := HLA.out; omega)
      obtain ⟨bd, rfl, hc2⟩ := (hs.ext hbel).byte hlt
      rw [List.getElem_append_left hlt] at hc1
      have hl0 : (0 : Int) ≤ (k : Int) := by omega
      have hl1 : (k : Int) < (xs.length : Int) := by omega
      have hv := (xs[k]).lt
      go_wp2_with fail
      go_quiet (fail)
      go_wp2
      go_roundw
      case rel => exact ⟨k + 1, by omega, by go_num, hbel.drewN _⟩
      case measure => simp [intOf]; omega
    · obtain rfl : k = xs.length := by omega
      have h0 : 0 < (xs ++ marks 66).length := by have := HLA.out; omega
      obtain ⟨ad, rfl, -⟩ := hr.byte h0
      clear h0
      go_wp2
      go_loopw [7] (fun i wr => ∃ k : Nat, k ≤ 66 ∧ i = .int .i64 k ∧ Ext w wr) (fun i _ => 66 - (intOf i).toNat)
      case atStart => exact ⟨0, by omega, rfl, hbel⟩
      case round =>
        obtain ⟨k, hk, rfl, hbel⟩ := hrel
        by_cases hlt : k < 66
        · obtain ⟨ad', e', hc1⟩ := (hr.ext hbel).byte (k := xs.length + k) (by have := HLA.out; omega)
          injection e' with e'
          subst e'
          have hm : (xs ++ marks 66)[xs.length + k]'(by have := HLA.out; omega) = mark k := by
            rw [List.getElem_append_right (by omega)]
            simp [marks]
          rw [hm] at hc1
          clear hm
          have hw1 : IntKind.i64.wrap ((xs.length : Int) + (k : Int)) = (xs.length : Int) + (k : Int) := IntWalk.i64_in _ (by omega)
          have hw3 : ((xs.length : Int) + (k : Int)).toNat = xs.length + k := by omega
          have hl0 : (0 : Int) ≤ (xs.length : Int) + (k : Int) := by omega
          have hl1 : (xs.length : Int) + (k : Int) < (xs.length : Int) + 66 := by omega
          have hv := (mark k).lt
          go_wp2_with fail
          go_quiet ((go_at_call 84; with_reducible exact quiet_left (mark_any k hlt _)))
          go_wp2
          go_roundw
          case rel => exact ⟨k + 1, by omega, by go_num, hbel.drewN _⟩
          case measure => simp [intOf]; omega
        · obtain rfl : k = 66 := by omega
          go_wp2
          go_ret
          exact ⟨rfl, hbel⟩
/-- The roots, rising. -/
def rootsTo (p : List E) (k : Nat) : List E := ((List.range k).map E.of).filter (fun x => decide (evL p x = 0))
def rootsL (p : List E) : List E := rootsTo p 256
theorem rootsTo_yes {p : List E} {k : Nat} (h : evL p (E.of k) = 0) : rootsTo p (k + 1) = rootsTo p k ++ [E.of k] := by
  simp [rootsTo, List.range_succ, h]
theorem rootsTo_no {p : List E} {k : Nat} (h : evL p (E.of k) ≠ 0) : rootsTo p (k + 1) = rootsTo p k := by
  simp [rootsTo, List.range_succ, h]
theorem rootsTo_le (p : List E) (k : Nat) : (rootsTo p k).length ≤ k := by
  have := List.length_filter_le (fun x => decide (evL p x = 0)) ((List.range k).map E.of)
  simpa [rootsTo] using this
theorem polyAt_lit (A : Option Addr) (n cap : Nat) (p : List E) (a : Int) (x : E) (ha : a = x.val) (w : World) (hn : p.length = n) (hr : Rd w A (bs p)) (hlen : n ≤ maxLen) :
    Calls Try.prog 35 #[.slice A n cap, .int .u8 a] w fun e w' => e = .returned (.int .u8 (evL p x).val) ∧ Ext w w' := by
  subst ha; exact polyAt_n A n cap p x w hn hr hlen
theorem refAt_lit (A : Option Addr) (n cap : Nat) (p : List E) (a : Int) (x : E) (ha : a = x.val) (w : World) (hn : p.length = n) (hr : Rd w A (bs p)) (hlen : n ≤ 140737488355328) :
    Calls Try.prog 32 #[.slice A n cap, .int .u8 a] w fun e w' => e = .returned (.int .u8 (evL p x).val) ∧ w = w' := by
  subst ha; exact refAt_n A n p cap x w hn hr hlen
set_option maxHeartbeats 1000000 in
theorem refRoots_n (A : Option Addr) (n : Nat) (p : List E) (cap : Nat) (w : World) (hn : p.length = n) (hr : Rd w A (bs p)) (hlen : n ≤ 140737488355328) :
    Calls Try.prog 25 #[.slice A n cap] w fun e w' => ∃ v, e = .returned v ∧ Own w' w.heap.size 5 v (bs (rootsL p)) ∧ Ext w w' := by
  go_enter Try.func25, Try.ntmps25
  go_wp2_with fail
  go_loopw [3, 4] (fun v i wr => ∃ (k : Nat) (V : Value), V = v ∧ k ≤ 256 ∧ i = .int .i64 k ∧ Ext w wr ∧ Own wr w.heap.size 5 V (bs (rootsTo p k))) (fun _ i _ => 256 - (intOf i).toNat)
  case atStart => exact ⟨0, _, rfl, by omega, rfl, Ext.refl _, Own.nil _ _ _⟩
  case round =>
    obtain ⟨k, V, rfl, hk, rfl, hx, ho⟩ := hrel
    by_cases hlt : k < 256
    · have hof : (E.of k).val = k := E.val_of hlt
      have HC := Lib.hid (refAt_lit A n cap p k (E.of k) (by rw [hof]) wr hn (hr.ext hx) hlen)
      have hle := hx.le
      have hbd : ((bs (rootsTo p k)).length + 1) * 1 ≤ 140737488355328 := by rw [bs_length]; have := rootsTo_le p k; omega
      by_cases hz : evL p (E.of k) = 0
      · have hz0 : (((evL p (E.of k)).val : Int) == 0) = true := (eqE _ 0).trans (decide_eq_true hz)
        have HR := Lib.hid (rootsTo_yes hz)
        have HO := Lib.hid hof
        clear hz hn hr hof
        go_wp2_with (first | (go_at_call 32; with_reducible refine HC.out.mono ?_; rintro e w' ⟨rfl, rfl⟩) | (at_builtin; refine wpList_push _ eltU8 rfl _ _ (by rfl) w.heap.size V _ (by rfl) (by exact ho) (.int .u8 k) (by rfl) rfl hbd hle ?_; intro v' w' ho' _ hb' _))
        go_roundw
        case rel => exact ⟨k + 1, _, rfl, by omega, by go_num, Below.trans hx hb', by rw [HR.out, bs_append, bs_one, HO.out]; exact ho'⟩
        case measure => simp [intOf]; omega
      · have hz0 : (((evL p (E.of k)).val : Int) == 0) = false := (eqE _ 0).trans (decide_eq_false hz)
        have HR := Lib.hid (rootsTo_no hz)
        clear hz hn hr hof
        go_wp2_with (go_at_call 32; with_reducible refine HC.out.mono ?_; rintro e w' ⟨rfl, rfl⟩)
        go_roundw
        case rel => exact ⟨k + 1, _, rfl, by omega, by go_num, hx, by rw [HR.out]; exact ho⟩
        case measure => simp [intOf]; omega
    · obtain rfl : k = 256 := by omega
      go_wp2
      go_ret
      exact ⟨_, rfl, ho, hx⟩
set_option maxHeartbeats 1000000 in
theorem polyRoots_n (A : Option Addr) (n : Nat) (p : List E) (cap : Nat) (w : World) (hn : p.length = n) (hr : Rd w A (bs p)) (hlen : n ≤ 140737488355328) :
    Calls Try.prog 27 #[.slice A n cap] w fun e w' => ∃ v, e = .returned v ∧ Own w' w.heap.size 34 v (bs (rootsL p)) ∧ Ext w w' := by
  go_enter Try.func27, Try.ntmps27
  go_wp2_with fail
  go_loopw [3, 5] (fun v i wr => ∃ (k : Nat) (V : Value), V = v ∧ k ≤ 256 ∧ i = .int .i64 k ∧ Ext w wr ∧ Own wr w.heap.size 34 V (bs (rootsTo p k))) (fun _ i _ => 256 - (intOf i).toNat)
  case atStart => exact ⟨0, _, rfl, by omega, rfl, Ext.refl _, Own.nil _ _ _⟩
  case round =>
    obtain ⟨k, V, rfl, hk, rfl, hx, ho⟩ := hrel
    by_cases hlt : k < 256
    · have hof : (E.of k).val = k := E.val_of hlt
      have HC := Lib.hid (polyAt_lit A n cap p k (E.of k) (by rw [hof]) wr hn (hr.ext hx) (by simp only [maxLen]; omega))
      by_cases hz : evL p (E.of k) = 0
      · have hz0 : decide (evL p (E.of k) = 0) = true := decide_eq_true hz
        have HR := Lib.hid (rootsTo_yes hz)
        have HO := Lib.hid hof
        clear hz hn hr hof
        go_wp2_with fail
        refine HC.out.mono ?_
        rintro e w2 ⟨rfl, hx2⟩
        have ho2 := ho.ext hx2
        have hx3 := hx.trans hx2
        have hle := hx3.le
        have hbd : ((bs (rootsTo p k)).length + 1) * 1 ≤ 140737488355328 := by rw [bs_length]; have := rootsTo_le p k; omega
        clear hx2 hx ho HC
        go_wp2_with (first | (go_at_call 85; with_reducible refine (isZero_any _ _).mono ?_; rintro e w' ⟨rfl, rfl⟩) | (at_builtin; refine wpList_push _ eltEl rfl _ _ (by rfl) w.heap.size V _ (by rfl) (by exact ho2) (.int .u8 k) (by rfl) rfl hbd hle ?_; intro v' w' ho' _ hb' _))
        go_roundw
        case rel => exact ⟨k + 1, _, rfl, by omega, by go_num, Below.trans hx3 hb', by rw [HR.out, bs_append, bs_one, HO.out]; exact ho'⟩
        case measure => simp [intOf]; omega
      · have hz0 : decide (evL p (E.of k) = 0) = false := decide_eq_false hz
        have HR := Lib.hid (rootsTo_no hz)
        clear hz hn hr hof
        go_wp2_with fail
        refine HC.out.mono ?_
        rintro e w2 ⟨rfl, hx2⟩
        have ho2 := ho.ext hx2
        have hx3 := hx.trans hx2
        clear hx2 hx ho HC
        go_wp2_with (go_at_call 85; with_reducible refine (isZero_any _ _).mono ?_; rintro e w' ⟨rfl, rfl⟩)
        go_roundw
        case rel => exact ⟨k + 1, _, rfl, by omega, by go_num, hx3, by rw [HR.out]; exact ho2⟩
        case measure => simp [intOf]; omega
    · obtain rfl : k = 256 := by omega
      go_wp2
      go_ret
      exact ⟨_, rfl, ho, hx⟩
end Go.Proofs.Ytemnlcfabaocbaa
/-
  The walks of the document's answer for chapter 2: sums, multiples, products, the derivative.
-/
namespace Go.Proofs.Ytemnlcfabaocbaa
open Go.RowKit Gf
set_option maxRecDepth 20000
set_option linter.unusedVariables false

/-- A region of quiet operations with a store at its end, outside of a fence. -/
theorem region_store_plain {P : Program} {id : Nat} {Q : Exit → Act → World → Prop} {a : Act} {w : World} {L : List Oper} (hm : P.follows .mixedOrders = true) (hc : closes L = true) (hB : Region.lexB .any (muted L).toArray = true) (hnd : noDefer L.toArray = true)
    (h : wpQuietIn Fence.wide 0 P (muted L).toArray (fun w' => ∃ n, w' = w.drewN n) (fun a' => ∀ w', (∃ n, w' = w.drewN n) → ∀ s, L.getLast? = some s → s.wpIn Fence.wide 0 P a' w' (fun a w => Q .normal a w) Q) L.dropLast a) : (Code.region id L.toArray true).wp P Q a w :=
  (wpIn_wide (n := 0)).1 (region_store hm hc hB hnd h)

theorem coef_n (A : Option Addr) (n : Nat) (p : List E) (cap i : Nat) (w : World) (hn : p.length = n) (hr : Rd w A (bs p)) (hi : i ≤ 140737488355328) :
    Calls Try.prog 89 #[.slice A n cap, .int .i64 i] w fun e w' => e = .returned (.int .u8 (ser p i).val) ∧ w = w' := by
  by_cases h : i < n
  · have hp : i < p.length := by omega
    obtain ⟨ad, rfl, hc⟩ := hr.byte hp
    rw [← ser_at p i hp] at hc
    clear hn hp
    go_enter Try.func89, Try.ntmps89
    go_wp2
    go_ret
    exact ⟨rfl, rfl⟩
  · have hz := Lib.hid (ser_out p i (by omega))
    clear hn
    go_enter Try.func89, Try.ntmps89
    go_wp2
    go_ret
    exact ⟨by rw [hz.out]; rfl, rfl⟩
theorem bs_ofS_succ (k : Nat) (f : S) : bs (ofS (k + 1) f) = bs (ofS k f) ++ [.int .u8 ((f k).val : Int)] := by rw [ofS_succ, bs_append]; rfl
set_option maxHeartbeats 1000000 in
theorem refPlus_n (A B : Option Addr) (n m : Nat) (p q : List E) (ca cb : Nat) (w : World) (hn : p.length = n) (hm : q.length = m) (hr : Rd w A (bs p)) (hs : Rd w B (bs q)) (hlen : n ≤ 140737488355327) (hlenq : m ≤ 140737488355327) :
    Calls Try.prog 36 #[.slice A n ca, .slice B m cb] w fun e w' => ∃ v, e = .returned v ∧ Own w' w.heap.size 5 v (bs (plusL p q)) ∧ Ext w w' := by
  obtain ⟨N, hN, hc⟩ : ∃ N, N = max n m ∧ ((n < m ∧ N = m) ∨ (m ≤ n ∧ N = n)) := ⟨_, rfl, by omega⟩
  have HT := Lib.hid (show trim (ofS N (S.add (ser p) (ser q))) = plusL p q by rw [plusL, hn, hm, hN])
  have hNl : N ≤ 140737488355327 := by omega
  have HL := Lib.hid (ofS_length N (S.add (ser p) (ser q)))
  clear hN
  have key : ∀ (k : Nat) (V : Value) (wr : World), Ext w wr → Own wr w.heap.size 5 V (bs (ofS k (S.add (ser p) (ser q)))) → k < N →
      ((bs (ofS k (S.add (ser p) (ser q)))).length + 1) * 1 ≤ 140737488355328 := fun k V wr _ _ hk => by rw [bs_ofS_len]; omega
  rcases hc with ⟨hlt, rfl⟩ | ⟨hlt, rfl⟩
  rotate_left
  have hdec : decide (N < m) = false := decide_eq_false (by omega)
  rotate_left
  all_goals
    go_enter Try.func36, Try.ntmps36
    go_wp2
    go_loopw [6, 7] (fun v i wr => ∃ (k : Nat) (V : Value), V = v ∧ k ≤ N ∧ i = .int .i64 k ∧ Ext w wr ∧ Own wr w.heap.size 5 V (bs (ofS k (S.add (ser p) (ser q))))) (fun _ i _ => N - (intOf i).toNat)
    case atStart => exact ⟨0, _, rfl, by omega, rfl, Ext.refl _, Own.nil _ _ _⟩
    case round =>
      obtain ⟨k, V, rfl, hk, rfl, hx, ho⟩ := hrel
      by_cases hlt2 : k < N
      · have hle := hx.le
        have hbd := key k V wr hx ho hlt2
        have hxo := bits_u8_xor (ser p k) (ser q k)
        have h1 := (ser p k).lt
        have h2 := (ser q k).lt
        have h3 := (ser p k + ser q k).lt
        have hrp := hr.ext hx
        have hrq := hs.ext hx
        have hkb : k ≤ 140737488355328 := by omega
        have HS := Lib.hid (bs_ofS_succ k (S.add (ser p) (ser q)))
        go_wp2_with (first | (go_at_call 89; with_reducible refine (coef_n A _ p _ k _ hn hrp hkb).mono ?_; rintro e w' ⟨rfl, rfl⟩) | (go_at_call 89; with_reducible refine (coef_n B _ q _ k _ hm hrq hkb).mono ?_; rintro e w' ⟨rfl, rfl⟩) | (at_builtin; refine wpList_push _ eltU8 rfl _ _ (by rfl) w.heap.size V _ (by rfl) (by exact ho) (.int .u8 (ser p k + ser q k).val) (by rfl) rfl hbd hle ?_; intro v' w' ho' _ hb' _))
        go_roundw
        case rel => exact ⟨k + 1, _, rfl, by omega, by go_num, Below.trans hx hb', by rw [HS.out]; exact ho'⟩
        case measure => simp [intOf]; omega
      · obtain rfl : k = N := by omega
        obtain ⟨A1, c1, rfl, -, hr1, -, -⟩ := ho.bytes
        rw [HL.out]
        have hx' := hx
        go_wp2_with fail
        refine (refTrim_n A1 _ _ c1 _ HL.out hr1 (by omega)).mono ?_
        rintro e w2 ⟨v, rfl, ho2, hx2⟩
        go_wp2
        go_ret
        exact ⟨_, rfl, by rw [← HT.out]; exact ho2.mono hx.le, hx.trans hx2⟩
set_option maxHeartbeats 1000000 in
theorem refScale_n (A : Option Addr) (n : Nat) (p : List E) (cap : Nat) (c : E) (w : World) (hn : p.length = n) (hr : Rd w A (bs p)) (hlen : n ≤ 140737488355327) :
    Calls Try.prog 38 #[.slice A n cap, .int .u8 c.val] w fun e w' => ∃ v, e = .returned v ∧ Own w' w.heap.size 5 v (bs (scaleL p c)) ∧ Ext w w' := by
  have HT := Lib.hid (show trim (ofS n (S.smul c (ser p))) = scaleL p c by rw [scaleL, hn])
  have HL := Lib.hid (ofS_length n (S.smul c (ser p)))
  have HN := Lib.hid hn
  have hcl := c.lt
  clear hn
  go_enter Try.func38, Try.ntmps38
  go_wp2
  go_loopw [5, 6] (fun v i wr => ∃ (k : Nat) (V : Value), V = v ∧ k ≤ n ∧ i = .int .i64 k ∧ Ext w wr ∧ Own wr w.heap.size 5 V (bs (ofS k (S.smul c (ser p))))) (fun _ i _ => n - (intOf i).toNat)
  case atStart => exact ⟨0, _, rfl, by omega, rfl, Ext.refl _, Own.nil _ _ _⟩
  case round =>
    obtain ⟨k, V, rfl, hk, rfl, hx, ho⟩ := hrel
    by_cases hlt : k < n
    · have hkp : k < p.length := by have := HN.out; omega
      obtain ⟨ad, rfl, hc⟩ := (hr.ext hx).byte hkp
      have hle := hx.le
      have hbd : ((bs (ofS k (S.smul c (ser p)))).length + 1) * 1 ≤ 140737488355328 := by rw [bs_ofS_len]; omega
      have hpl := (p[k]).lt
      have hml := (p[k] * c).lt
      have HS := Lib.hid (show bs (ofS (k + 1) (S.smul c (ser p))) = bs (ofS k (S.smul c (ser p))) ++ [.int .u8 ((p[k] * c).val : Int)] by
        rw [bs_ofS_succ, show S.smul c (ser p) k = p[k] * c by rw [S.smul, ser_at p k hkp, E.mul_comm]])
      go_wp2_with (first | (go_at_call 86; with_reducible refine (refMul_any _ _ _).mono ?_; rintro e w' ⟨rfl, rfl⟩) | (at_builtin; refine wpList_push _ eltU8 rfl _ _ (by rfl) w.heap.size V _ (by rfl) (by exact ho) (.int .u8 (p[k] * c).val) (by rfl) rfl hbd hle ?_; intro v' w' ho' _ hb' _))
      go_roundw
      case rel => exact ⟨k + 1, _, rfl, by omega, by go_num, Below.trans hx hb', by rw [HS.out]; exact ho'⟩
      case measure => simp [intOf]; omega
    · obtain rfl : k = n := by omega
      obtain ⟨A1, c1, rfl, -, hr1, -, -⟩ := ho.bytes
      rw [HL.out]
      go_wp2_with fail
      refine (refTrim_n A1 _ _ c1 _ HL.out hr1 (by omega)).mono ?_
      rintro e w2 ⟨v, rfl, ho2, hx2⟩
      go_wp2
      go_ret
      exact ⟨_, rfl, by rw [← HT.out]; exact ho2.mono hx.le, hx.trans hx2⟩
set_option maxHeartbeats 1000000 in
theorem refDerive_n (A : Option Addr) (n : Nat) (p : List E) (cap : Nat) (w : World) (hn : p.length = n) (hr : Rd w A (bs p)) (hlen : n ≤ 140737488355327) :
    Calls Try.prog 39 #[.slice A n cap] w fun e w' => ∃ v, e = .returned v ∧ Own w' w.heap.size 5 v (bs (deriveL p)) ∧ Ext w w' := by
  obtain ⟨N, hN⟩ : ∃ N, N = n - 1 := ⟨_, rfl⟩
  have HT := Lib.hid (show trim (ofS N (deriveS (ser p))) = deriveL p by rw [deriveL, hn, hN])
  have HL := Lib.hid (ofS_length N (deriveS (ser p)))
  have HN := Lib.hid hn
  have HNN := Lib.hid hN
  clear hn hN
  go_enter Try.func39, Try.ntmps39
  go_wp2
  go_loopw [3, 4] (fun v i wr => ∃ (k : Nat) (V : Value), V = v ∧ k ≤ N ∧ i = .int .i64 k ∧ Ext w wr ∧ Own wr w.heap.size 5 V (bs (ofS k (deriveS (ser p))))) (fun _ i _ => N - (intOf i).toNat)
  case atStart => exact ⟨0, _, rfl, by omega, rfl, Ext.refl _, Own.nil _ _ _⟩
  case round =>
    obtain ⟨k, V, rfl, hk, rfl, hx, ho⟩ := hrel
    have hle := hx.le
    have hw1 : wrap64 ((k : Int) + 1) = (k : Int) + 1 := IntWalk.wrap64_in _ (by have := HNN.out; omega)
    by_cases hlt : k < N
    · have hkn : k + 1 < n := by have := HNN.out; omega
      have hkp : k + 1 < p.length := by have := HN.out; omega
      have hki : (k : Int) + 1 < (n : Int) := by omega
      obtain ⟨ad, rfl, hc⟩ := (hr.ext hx).byte hkp
      have hbd : ((bs (ofS k (deriveS (ser p)))).length + 1) * 1 ≤ 140737488355328 := by rw [bs_ofS_len]; omega
      have hpl := (p[k + 1]).lt
      have hc1 : ((k : Int) + 1).toNat = k + 1 := by omega
      simp only [Addr.add, Nat.add_one_ne_zero, if_false] at hc
      by_cases hev : k % 2 = 0
      · have hkm : ((k : Int) % 2 == 0) = true := by rw [beq_iff_eq]; omega
        have HS := Lib.hid (show bs (ofS (k + 1) (deriveS (ser p))) = bs (ofS k (deriveS (ser p))) ++ [.int .u8 ((p[k + 1]).val : Int)] by
          rw [bs_ofS_succ, deriveS, if_pos hev, ser_at p (k + 1) hkp])
        clear hev
        go_wp2_with (at_builtin; refine wpList_push _ eltU8 rfl _ _ (by rfl) w.heap.size V _ (by rfl) (by exact ho) (.int .u8 (p[k + 1]).val) (by rfl) rfl hbd hle ?_; intro v' w' ho' _ hb' _)
        go_roundw
        case rel => exact ⟨k + 1, _, rfl, by omega, by go_num, Below.trans hx hb', by rw [HS.out]; exact ho'⟩
        case measure => simp [intOf]; omega
      · have hkm : ((k : Int) % 2 == 0) = false := by rw [beq_eq_false_iff_ne]; omega
        have HS := Lib.hid (show bs (ofS (k + 1) (deriveS (ser p))) = bs (ofS k (deriveS (ser p))) ++ [.int .u8 0] by
          rw [bs_ofS_succ, deriveS, if_neg hev]; rfl)
        clear hev
        go_wp2_with (at_builtin; refine wpList_push _ eltU8 rfl _ _ (by rfl) w.heap.size V _ (by rfl) (by exact ho) (.int .u8 0) (by rfl) rfl hbd hle ?_; intro v' w' ho' _ hb' _)
        go_roundw
        case rel => exact ⟨k + 1, _, rfl, by omega, by go_num, Below.trans hx hb', by rw [HS.out]; exact ho'⟩
        case measure => simp [intOf]; omega
    · obtain rfl : k = N := by omega
      have hki : ¬ ((k : Int) + 1 < (n : Int)) := by have := HNN.out; omega
      obtain ⟨A1, c1, rfl, -, hr1, -, -⟩ := ho.bytes
      rw [HL.out]
      have hNb : k ≤ 140737488355328 := by have := HNN.out; omega
      go_wp2_with fail
      refine (refTrim_n A1 _ _ c1 _ HL.out hr1 hNb).mono ?_
      rintro e w2 ⟨v, rfl, ho2, hx2⟩
      go_wp2
      go_ret
      exact ⟨_, rfl, by rw [← HT.out]; exact ho2.mono hx.le, hx.trans hx2⟩
set_option maxHeartbeats 2000000 in
theorem refTimes_n (A B : Option Addr) (n m ca cb : Nat) (p q : List E) (w : World) (hn : p.length = n) (hm : q.length = m) (hr : Rd w A (bs p)) (hs : Rd w B (bs q)) (hlen : n + m ≤ 140737488355328) :
    Calls Try.prog 37 #[.slice A n ca, .slice B m cb] w fun e w' => ∃ v, e = .returned v ∧ Own w' w.heap.size 5 v (bs (timesL p q)) ∧ Ext w w' := by
  have hmk := make_bytes (n + m) (by omega)
  rw [zeros_ofS, Int.natCast_add] at hmk
  have HN := Lib.hid hn
  have HM := Lib.hid hm
  have HT := Lib.hid (show trim (ofS (n + m) (S.mul (ser p) (ser q))) = timesL p q by rw [timesL, hn, hm])
  have HA := Lib.hid (show partS p q n = S.mul (ser p) (ser q) by rw [← hn]; exact partS_all p q)
  have H0 := Lib.hid (partS_zero p q)
  have hmo : Try.prog.follows Departure.mixedOrders = true := by kernel_rfl
  have hwd : Fence.wide.depth = none := rfl
  have hwf : ∀ f, Fence.wide.fn f := fun _ => trivial
  clear hn hm
  go_enter Try.func37, Try.ntmps37
  go_wp2_with fail
  go_loopw [6] (fun i wr => ∃ k : Nat, k ≤ n ∧ i = .int .i64 k ∧ Ext w wr ∧ Blk wr w.heap.size 5 (bs (ofS (n + m) (partS p q k))).toArray) (fun i _ => n - (intOf i).toNat)
  case atStart => exact ⟨0, by omega, rfl, (Ext.refl _).alloc _, by rw [H0.out]; exact Blk.new _ _ _⟩
  case round =>
    obtain ⟨i, hi, rfl, hx, hb⟩ := hrel
    by_cases hlt : i < n
    · have hip : i < p.length := by have := HN.out; omega
      have HB' := Lib.hid (show Blk wr w.heap.size 5 (bs (ofS (n + m) (partT p q i 0))).toArray by rw [partT_zero]; exact hb)
      have HP := Lib.hid (show partT p q i m = partS p q (i + 1) by rw [← HM.out]; exact partT_all p q i)
      clear hb
      go_wp2
      go_loopw [7] (fun jj wr => ∃ j : Nat, j ≤ m ∧ jj = .int .i64 j ∧ Ext w wr ∧ Blk wr w.heap.size 5 (bs (ofS (n + m) (partT p q i j))).toArray) (fun jj _ => m - (intOf jj).toNat)
      case atStart => exact ⟨0, by omega, rfl, hx, HB'.out⟩
      case round =>
        obtain ⟨j, hj, rfl, hx2, hb2⟩ := hrel
        clear HB' hx
        by_cases hlt2 : j < m
        · have hjq : j < q.length := by have := HM.out; omega
          obtain ⟨ad, rfl, hc1⟩ := (hr.ext hx2).byte hip
          rw [← ser_at p i hip] at hc1
          obtain ⟨bd, rfl, hc2⟩ := (hs.ext hx2).byte hjq
          rw [← ser_at q j hjq] at hc2
          have hc3 : wr.cell? ⟨w.heap.size, i + j, none⟩ = some (.int .u8 ((partT p q i j (i + j)).val : Int)) := (hb2.cell (i + j)).trans (by rw [List.getElem?_toArray]; exact ofS_getb _ _ _ (by omega))
          have HB2 := Lib.hid hb2
          have HX2 := Lib.hid hx2
          clear hb2 hx2
          have hij : (i : Int) + (j : Int) < (n : Int) + (m : Int) := by omega
          have hij2 : (i : Int) + (j : Int) < ((n + m : Nat) : Int) := by omega
          have hij0 : (0 : Int) ≤ (i : Int) + (j : Int) := by omega
          have hij1 : i + j < n + m := by omega
          have hw1 : IntKind.i64.wrap ((i : Int) + (j : Int)) = (i : Int) + (j : Int) := IntWalk.i64_in _ (by omega)
          have hw3 : ((i : Int) + (j : Int)).toNat = i + j := by omega
          have hxo := bits_u8_xor (partT p q i j (i + j)) (ser p i * ser q j)
          have hl1 := (ser p i).lt
          have hl2 := (ser q j).lt
          go_wp2_with fail
          refine region_store_plain hmo (by kernel_rfl) (by kernel_rfl) (by kernel_rfl) ?_
          dsimp only [muted, mute, List.dropLast]
          repeat (gi_big_quiet_step ((gi_at_call 86; with_reducible refine (callsIn_wide.2 (refMul_any _ _ _)).mono ?_; rintro e w' ⟨rfl, rfl⟩; exact ⟨rfl, _, rfl⟩)))
          refine wpQuietIn_nil ?_
          rintro _ ⟨nq, rfl⟩ s hs'
          simp only [List.getLast?_cons_cons, List.getLast?_singleton, Option.some.injEq] at hs'
          subst hs'
          obtain ⟨W2, hW2⟩ : ∃ W2, W2 = wr.drewN nq := ⟨_, rfl⟩
          have hb3 : Blk W2 w.heap.size 5 (bs (ofS (n + m) (partT p q i j))).toArray := by rw [hW2]; exact HB2.out.drewN nq
          have hx3 : Ext w W2 := by rw [hW2]; exact HX2.out.drewN nq
          rw [← hW2]
          clear hW2 hc1 hc2 hc3 hxo
          have hc3 : W2.cell? ⟨w.heap.size, i + j, none⟩ = some (.int .u8 ((partT p q i j (i + j)).val : Int)) := (hb3.cell (i + j)).trans (by rw [List.getElem?_toArray]; exact ofS_getb _ _ _ (by omega))
          have hf := hb3.frozen (i + j)
          have hb4 := hb3.set_ (i + j) (.int .u8 ((partT p q i j (i + j) + ser p i * ser q j).val : Int))
          rw [List.setIfInBounds_toArray, ofS_setb, partT_step p q n i j] at hb4
          have HB4 := Lib.hid hb4
          have hx4 := hx3.new (p := ⟨w.heap.size, i + j, none⟩) (Nat.le_refl _) (.int .u8 ((partT p q i j (i + j) + ser p i * ser q j).val : Int))
          clear hb3 hb4 hw1 hw3 hx3
          go_simp
          go_wp2
          go_roundw
          case rel => exact ⟨j + 1, by omega, by go_num, hx4, HB4.out⟩
          case measure => simp [intOf]; omega
        · obtain rfl : j = m := by omega
          have HB2 := Lib.hid (show Blk wr w.heap.size 5 (bs (ofS (n + j) (partS p q (i + 1)))).toArray by rw [← HP.out]; exact hb2)
          clear hb2
          go_wp2
          go_roundw
          case rel => exact ⟨i + 1, by omega, by go_num, hx2, HB2.out⟩
          case measure => simp [intOf]; omega
    · obtain rfl : i = n := by omega
      rw [HA.out] at hb
      have hs2 : (bs (ofS (i + m) (S.mul (ser p) (ser q)))).toArray.size = i + m := by simp [bs, ofS_length]
      have ho := hb.own (B := w.heap.size) (n := i + m) (cap := i + m) (Nat.le_refl _) (Nat.le_refl _) (by simp only [maxLen]; omega) hs2
      rw [List.toList_toArray, List.take_of_length_le (by rw [bs_ofS_len]; exact Nat.le_refl _)] at ho
      have hrd := ho.rd
      have HL := Lib.hid (ofS_length (i + m) (S.mul (ser p) (ser q)))
      generalize hL : ofS (i + m) (S.mul (ser p) (ser q)) = L at hrd HL
      have HLL := Lib.hid hL
      clear hb hL ho hs2
      go_wp2_with fail
      refine (refTrim_n _ (i + m) L _ _ HL.out hrd (by omega)).mono ?_
      rintro e w2 ⟨v, rfl, ho2, hx2⟩
      go_wp2
      go_ret
      exact ⟨_, rfl, by rw [← HT.out, HLL.out]; exact ho2.mono hx.le, hx.trans hx2⟩
end Go.Proofs.Ytemnlcfabaocbaa
