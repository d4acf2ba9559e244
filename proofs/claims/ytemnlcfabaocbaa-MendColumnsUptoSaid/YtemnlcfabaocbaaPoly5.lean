/-
  The walks of layer 2: the quotient and what is left.
-/
import Derived.Test.YtemnlcfabaocbaaPoly4
import Derived.Test.YtemnlcfabaocbaaPoly3
import Derived.Test.YtemnlcfabaocbaaDiv
import Derived.Test.YtemnlcfabaocbaaQuiet
import Derived.RegionIn
import Derived.Sort.QuietIn
import Derived.Shelf.RegionOpen
namespace Go.Proofs.Ytemnlcfabaocbaa
open Go.RowKit Go.Shelf Gf
set_option maxRecDepth 100000
set_option linter.unusedVariables false
attribute [local go_sem] Oper.semAt_some

theorem Own.still {w w' : World} {B : Nat} {T : TypeId} {v : Value} {xs : List Value} {row : Option Nat} (h : Own w B T v xs) (hg : w.grownBy w' row) (hr : ∀ r, row = some r → ∃ o : Obj, w.heap[r]? = some o ∧ o.isCells = false) : Own w' B T v xs := by
  refine h.keepBlock fun g hg' => hg.block g (h.lt g hg').2 (fun e => ?_)
  obtain ⟨o, ho, hc⟩ := hr g e.symm
  rcases h.2 with ⟨hv, _⟩ | ⟨g', cap, cur, hv, _, hh, _⟩
  · rw [hv] at hg'; cases hg'
  · rw [hv] at hg'
    have : g' = g := by simpa [Value.ownBlock] using hg'
    subst this
    rw [hh] at ho
    cases ho; cases hc
theorem Blk.still {w w' : World} {g : Nat} {t : TypeId} {cs : Array Value} {row : Option Nat} (h : Blk w g t cs) (hg : w.grownBy w' row) (hr : ∀ r, row = some r → ∃ o : Obj, w.heap[r]? = some o ∧ o.isCells = false) : Blk w' g t cs := by
  refine h.grown hg (fun e => ?_)
  obtain ⟨o, ho, hc⟩ := hr g e.symm
  rw [show w.heap[g]? = _ from h] at ho
  cases ho; cases hc

/-- What lies while the division runs: the boxes, the row r, the row s, the iterator's box. -/
structure DI (b s4 d lr ns cr : Nat) (Q : Value) (lead : E) (R : Option Addr) (fr fs : S) (W : World) : Prop where
  q : W.cell? ⟨b, 0, none⟩ = some Q
  d : W.cell? ⟨b + 1, 0, none⟩ = some (.int .i64 (d : Int))
  l : W.cell? ⟨b + 1 + 1, 0, none⟩ = some (.int .u8 (lead.val : Int))
  r : W.cell? ⟨s4, 0, none⟩ = some (.slice R lr cr)
  s : W.cell? ⟨s4 + 1 + 1, 0, none⟩ = some (.slice (some ⟨s4 + 1, 0, none⟩) ns ns)
  i : W.cell? ⟨s4 + 1 + 1 + 1, 0, none⟩ = some (.slice (some ⟨s4 + 1, 0, none⟩) ns ns)
  own : Own W (b + 3) 34 (.slice R lr cr) (bs (ofS lr fr))
  blk : Blk W (s4 + 1) 34 (bs (ofS ns fs)).toArray
section
variable {b s4 d lr ns cr : Nat} {Q : Value} {lead : E} {R : Option Addr} {fr fs : S} {W W' : World}
theorem DI.still {row : Option Nat} (h : DI b s4 d lr ns cr Q lead R fr fs W) (hg : W.grownBy W' row) (hr : ∀ r, row = some r → ∃ o : Obj, W.heap[r]? = some o ∧ o.isCells = false) : DI b s4 d lr ns cr Q lead R fr fs W' :=
  ⟨cell_kept h.q hg hr, cell_kept h.d hg hr, cell_kept h.l hg hr, cell_kept h.r hg hr, cell_kept h.s hg hr, cell_kept h.i hg hr, h.own.still hg hr, h.blk.still hg hr⟩
theorem DI.drew (h : DI b s4 d lr ns cr Q lead R fr fs W) : DI b s4 d lr ns cr Q lead R fr fs W.drew := ⟨h.q, h.d, h.l, h.r, h.s, h.i, h.own, h.blk⟩
theorem DI.drewN (h : DI b s4 d lr ns cr Q lead R fr fs W) (k : Nat) : DI b s4 d lr ns cr Q lead R fr fs (W.drewN k) := ⟨h.q, h.d, h.l, h.r, h.s, h.i, h.own, h.blk⟩
theorem DI.setR {gr : Nat} (h : DI b s4 d lr ns cr Q lead (some ⟨gr, 0, none⟩) fr fs W) (h1 : b + 3 ≤ gr) (h2 : gr < s4) (j : Nat) (v : E) :
    DI b s4 d lr ns cr Q lead (some ⟨gr, 0, none⟩) (upd fr j v) fs (W.setCell ⟨gr, j, none⟩ (.int .u8 (v.val : Int))) := by
  have hk : ∀ {k : Nat} {u : Value}, k ≠ gr → W.cell? ⟨k, 0, none⟩ = some u → (W.setCell ⟨gr, j, none⟩ (.int .u8 (v.val : Int))).cell? ⟨k, 0, none⟩ = some u := fun hne hc => (World.cell?_setCell_other _ _ _ _ (fun e => hne (by injection e with e1; exact e1.symm))).trans hc
  have hR := h.own.set j (.int .u8 (v.val : Int))
  rw [ofS_setb] at hR
  exact ⟨hk (by omega) h.q, hk (by omega) h.d, hk (by omega) h.l, hk (by omega) h.r, hk (by omega) h.s, hk (by omega) h.i, hR, h.blk.far (p := ⟨gr, j, none⟩) (by show s4 + 1 ≠ gr; omega) _⟩
theorem DI.setS (h : DI b s4 d lr ns cr Q lead R fr fs W) (h1 : b + 3 ≤ s4) (h2 : ∀ ad, R = some ad → ad.block < s4) (j : Nat) (v : E) :
    DI b s4 d lr ns cr Q lead R fr (upd fs j v) (W.setCell ⟨s4 + 1, j, none⟩ (.int .u8 (v.val : Int))) := by
  have hk : ∀ {k : Nat} {u : Value}, k ≠ s4 + 1 → W.cell? ⟨k, 0, none⟩ = some u → (W.setCell ⟨s4 + 1, j, none⟩ (.int .u8 (v.val : Int))).cell? ⟨k, 0, none⟩ = some u := fun hne hc => (World.cell?_setCell_other _ _ _ _ (fun e => hne (by injection e with e1; exact e1.symm))).trans hc
  have hS := h.blk.set_ j (.int .u8 (v.val : Int))
  rw [List.setIfInBounds_toArray, ofS_setb] at hS
  refine ⟨hk (by omega) h.q, hk (by omega) h.d, hk (by omega) h.l, hk (by omega) h.r, hk (by omega) h.s, hk (by omega) h.i, h.own.far ?_ _, hS⟩
  intro e
  cases R with
  | none => cases e
  | some ad =>
    have h3 := h2 ad rfl
    have : ad.block = s4 + 1 := by simpa [Value.ownBlock] using e
    omega
theorem DI.seen (h : DI b s4 d lr ns cr Q lead R fr fs W) : Seen (s4 + 1 + 1 + 1) ns ns (some ⟨s4 + 1, 0, none⟩) (fun _ _ => True) W := ⟨h.i, fun k hk =>
  ⟨⟨s4 + 1, 0, none⟩, fs k, rfl, trivial, by rw [add_plain]; exact (h.blk.cell k).trans (by rw [List.getElem?_toArray]; exact ofS_getb _ _ _ hk)⟩⟩
theorem DI.below {B : Nat} (h : DI b s4 d lr ns cr Q lead R fr fs W) (hb : Below B W W') (hB : W.heap.size ≤ B) : DI b s4 d lr ns cr Q lead R fr fs W' := by
  have hk : ∀ {k : Nat} {u : Value}, W.cell? ⟨k, 0, none⟩ = some u → W'.cell? ⟨k, 0, none⟩ = some u := fun {k u} hc => (hb.cell (p := ⟨k, 0, none⟩) (Nat.lt_of_lt_of_le (World.block_lt_of_cell? W _ hc) hB)).trans hc
  exact ⟨hk h.q, hk h.d, hk h.l, hk h.r, hk h.s, hk h.i, h.own.below hb hB, h.blk.below hb (Nat.lt_of_lt_of_le h.blk.lt hB)⟩
end

/-- What a division answers. -/
structure DivOK (p q s r : List E) : Prop where
  ts : Trimmed s
  tr : Trimmed r
  eq : S.add (ser r) (S.mul (ser s) (ser q)) = ser p
  lt : r.length < dg q
theorem divide_ok {p q : List E} {d ns lr : Nat} {ok : Nat → E → Prop} {ys : List (Nat × E)} {fr fs : S} (hd : dg q = d + 1) (hdm : d < q.length) (hlr : lr = dg p) (hns : ns = lr - d) (h : Back ns ok ns ys)
    (hst : dfold q d (E.inv q[d]) (ser p, S.zero) ys = (fr, fs)) : DivOK p q (trim (ofS ns fs)) (trim (ofS lr fr)) := by
  have hq : S.Dlt (ser q) (d + 1) := hd ▸ dg_dlt q
  have h0 : ser q d ≠ 0 := by have := dg_last q (by omega); rwa [hd] at this
  have hl : E.inv q[d] * ser q d = 1 := by rw [← ser_at q d hdm, E.mul_comm]; exact E.mul_inv h0
  have hp : S.Dlt (ser p) (d + ns) := (dg_dlt p).mono (by omega)
  obtain ⟨h1, h2, _, h4⟩ := dfold_ok hq hl hp ns ys (Nat.le_refl _) h
  rw [hst] at h1 h2 h4
  dsimp only at h1 h2 h4
  rw [Nat.sub_self, Nat.add_zero] at h2
  have h5 : S.Dlt fr lr := by
    rcases Nat.le_total d lr with h6 | h6
    · exact h2.mono h6
    · obtain rfl : ns = 0 := by omega
      rw [h4.zero, S.zero_mul, S.add_zero] at h1
      rw [h1, hlr]
      exact dg_dlt p
  refine ⟨trimmed_trim _, trimmed_trim _, by rw [ser_trim, ser_trim, ser_ofS h5, ser_ofS h4, h1], ?_⟩
  rw [trim_length, hd]
  have : S.Dlt (ser (ofS lr fr)) d := by rw [ser_ofS h5]; exact h2
  have := dg_min this
  omega

set_option maxHeartbeats 4000000 in
theorem polyDivide_n (A C : Option Addr) (n m ca cb : Nat) (p q : List E) (w : World) (hn : p.length = n) (hm : q.length = m) (hr : Rd w A (bs p)) (hs : Rd w C (bs q)) (hlen : n ≤ 140737488355328) (hlenq : m ≤ 140737488355328) (hca : n ≤ ca) (hcb : m ≤ cb) (hne : 0 < dg q) :
    Calls Try.prog 45 #[.slice A n ca, .slice C m cb] w fun e w' => ∃ vs vr s r, e = .returned (.tuple #[vs, vr, .int .i64 0]) ∧ DivOK p q s r ∧ Own w' w.heap.size 34 vs (bs s) ∧ Own w' w.heap.size 34 vr (bs r) ∧
      (∀ g, vs.ownBlock = some g → vr.ownBlock ≠ some g) ∧ Ext w w' := by
  obtain ⟨N, hN⟩ : ∃ N : Nat, 3 ≤ N := ⟨3, by decide⟩
  have h1 : 1 ≤ N := by omega
  have h3 : 1 ≤ N - 1 - 1 := by omega
  refine (callsIn_wide (n := N)).1 ?_
  obtain ⟨F, hF⟩ : ∃ F : Fence, F = Fence.wide := ⟨_, rfl⟩
  have hro : F.round = none := by rw [hF]; rfl
  have hfn : ∀ f, F.fn f := fun f => by rw [hF]; trivial
  have hcp : ∀ {f : FuncId} {args : Array Value} {w : World} {R : Ending → World → Prop} (n : Nat), Calls Try.prog f args w R → CallsIn F n Try.prog f args w R := fun n h => by rw [hF]; exact callsIn_wide.2 h
  have hci : ∀ {f : FuncId} {args : Array Value} {w : World} {R : Ending → World → Prop} (n l : Nat), Calls Try.prog f args w R → CallsIn (F.inRound l) n Try.prog f args w R := fun n l h => CallsIn.inRound l (hcp n h)
  rw [← hF]
  clear hF
  have hmo : Try.prog.follows Departure.mixedOrders = true := by kernel_rfl
  obtain ⟨d, hd⟩ : ∃ d, dg q = d + 1 := ⟨dg q - 1, by omega⟩
  have hdm : d < m := by have := dg_le q; omega
  have hdm' : d < q.length := by omega
  have hdd : ((d : Int) < 0) = False := by simp
  refine callsIn_of_wp_marks Try.func45 rfl (hfn _) ?_ hro
  simp only [Try.ntmps45, List.size_toArray, List.length_cons, List.length_nil, Nat.reduceAdd, Nat.reduceSub, Array.replicate_succ, Array.replicate_zero, List.push_toArray, List.append_toArray, List.nil_append, List.cons_append]
  obtain ⟨wq, hwq⟩ : ∃ wq, wq = w.alloc (.cells #[.slice C m cb] 26) := ⟨_, rfl⟩
  obtain ⟨wd, hwd⟩ : ∃ wd, wd = wq.alloc (.cells #[.int .i64 (d : Int)] 3) := ⟨_, rfl⟩
  have xq : Ext w wq := by rw [hwq]; exact (Ext.refl w).alloc _
  have xd : Ext w wd := by rw [hwd]; exact xq.alloc _
  obtain ⟨cd, rfl, hc1⟩ := (hs.ext xd).byte hdm'
  have hlead := (q[d]).lt
  have hdeg : ∀ W, Rd W (some cd) (bs q) → Calls Try.prog 34 #[.slice (some cd) m cb] W fun e w' => e = .returned (.int .i64 (d : Int)) ∧ W = w' := fun W hW =>
    (degree_n _ m q _ _ hm hW (by omega)).mono fun e w' ⟨he, hw⟩ => ⟨by rw [he, hd]; simp, hw⟩
  rw [hwd, hwq] at hc1
  gi_wp2_with (first | (gi_at_call 34; refine (hcp _ (hdeg _ (by rw [← hwq]; exact hs.ext xq))).mono ?_; rintro e w' ⟨rfl, rfl⟩) | (gi_at_call 94; refine (hcp _ (inverse_any q[d] _)).mono ?_; rintro e w' ⟨rfl, rfl⟩))
  obtain ⟨wl, hwl⟩ : ∃ wl, wl = wd.alloc (.cells #[.int .u8 ((E.inv q[d]).val : Int)] 34) := ⟨_, rfl⟩
  have xl : Ext w wl := by rw [hwl]; exact xd.alloc _
  have bq : wl.cell? ⟨w.heap.size, 0, none⟩ = some (.slice (some cd) m cb) := by rw [hwl, hwd, hwq]; exact (((Boxed.new w 26 (.slice (some cd) m cb)).alloc _).alloc _).cell
  have bd : wl.cell? ⟨w.heap.size + 1, 0, none⟩ = some (.int .i64 (d : Int)) := by
    have := ((Boxed.new wq 3 (.int .i64 (d : Int))).alloc (.cells #[.int .u8 ((E.inv q[d]).val : Int)] 34)).cell
    rw [← hwd, ← hwl, show wq.heap.size = w.heap.size + 1 by rw [hwq, World.size_alloc]] at this
    exact this
  have bl : wl.cell? ⟨w.heap.size + 1 + 1, 0, none⟩ = some (.int .u8 ((E.inv q[d]).val : Int)) := by
    have := (Boxed.new wd 34 (.int .u8 ((E.inv q[d]).val : Int))).cell
    rw [← hwl, show wd.heap.size = w.heap.size + 1 + 1 by rw [hwd, World.size_alloc, hwq, World.size_alloc]] at this
    exact this
  have hszl : wl.heap.size = w.heap.size + 1 + 1 + 1 := by rw [hwl, World.size_alloc, hwd, World.size_alloc, hwq, World.size_alloc]
  rw [← hwq, ← hwd, ← hwl]
  refine (hcp _ (trim_n A n p ca wl hn (hr.ext xl) hlen hca)).mono ?_
  rintro e w4 ⟨v, rfl, ho, hx4⟩
  obtain ⟨R, cr, rfl, ho, hrd, hle, hmx⟩ := ho.bytes
  have HL := Lib.hid (trim_length p)
  have HDP := Lib.hid (show dg p ≤ n by have := dg_le p; omega)
  clear hwq hwd hwl
  have bq4 := (hx4.cell (p := ⟨w.heap.size, 0, none⟩) (by rw [hszl]; simp; omega)).trans bq
  have bd4 := (hx4.cell (p := ⟨w.heap.size + 1, 0, none⟩) (by rw [hszl]; simp)).trans bd
  have bl4 := (hx4.cell (p := ⟨w.heap.size + 1 + 1, 0, none⟩) (by rw [hszl]; simp)).trans bl
  have hsz4 := hx4.le
  rw [hszl] at hsz4
  have xw4 := xl.trans hx4
  clear bq bd bl xq xd xl hx4 hc1 hdeg
  generalize hlr : (trim p).length = lr at *
  have bd5 : (w4.alloc (.cells #[.slice R lr cr] 26)).cell? ⟨w.heap.size + 1, 0, none⟩ = some (.int .i64 (d : Int)) := (World.cell?_alloc_lt _ _ _ (by show w.heap.size + 1 < _; omega)).trans bd4
  obtain ⟨ns, hns⟩ : ∃ ns, ns = lr - d := ⟨_, rfl⟩
  have HNS := Lib.hid hns
  have hRb : ∀ ad, R = some ad → ad.block < w4.heap.size := by
    obtain ⟨_, _, hv, _, _, _, hlt⟩ := ho.slice
    injection hv with e1
    subst e1
    exact fun ad e => (hlt ad e).2
  have hRt := ho
  rw [show trim p = ofS lr (ser p) by rw [← hlr, ← ser_trim p]; exact (ofS_ser (trim p)).symm, hszl] at hRt
  have hlr1 : lr ≤ n := by rw [HL.out]; exact HDP.out
  have hnsl : ns ≤ n := by omega
  have hmk := make_elems ns (by omega)
  rw [zeros_ofS] at hmk
  have hmk0 : lr ≤ d → ns = 0 := by omega
  have HDI := Lib.hid (show DI w.heap.size w4.heap.size d lr ns cr (.slice (some cd) m cb) (E.inv q[d]) R (ser p) S.zero ((((w4.alloc (.cells #[.slice R lr cr] 26)).alloc (.cells (bs (ofS ns S.zero)).toArray 34)).alloc (.cells #[.slice (some ⟨w4.heap.size + 1, 0, none⟩) ns ns] 26)).alloc (.cells #[.slice (some ⟨w4.heap.size + 1, 0, none⟩) ns ns] 26)) by
    have a1 := Boxed.new w4 26 (.slice R lr cr)
    have a2 := Blk.new (w4.alloc (.cells #[.slice R lr cr] 26)) 34 (bs (ofS ns S.zero)).toArray
    rw [World.size_alloc] at a2
    have a3 := Boxed.new ((w4.alloc (.cells #[.slice R lr cr] 26)).alloc (.cells (bs (ofS ns S.zero)).toArray 34)) 26 (.slice (some ⟨w4.heap.size + 1, 0, none⟩) ns ns)
    rw [World.size_alloc, World.size_alloc] at a3
    have a4 := Boxed.new (((w4.alloc (.cells #[.slice R lr cr] 26)).alloc (.cells (bs (ofS ns S.zero)).toArray 34)).alloc (.cells #[.slice (some ⟨w4.heap.size + 1, 0, none⟩) ns ns] 26)) 26 (.slice (some ⟨w4.heap.size + 1, 0, none⟩) ns ns)
    rw [World.size_alloc, World.size_alloc, World.size_alloc] at a4
    have hx : Ext w4 ((((w4.alloc (.cells #[.slice R lr cr] 26)).alloc (.cells (bs (ofS ns S.zero)).toArray 34)).alloc (.cells #[.slice (some ⟨w4.heap.size + 1, 0, none⟩) ns ns] 26)).alloc (.cells #[.slice (some ⟨w4.heap.size + 1, 0, none⟩) ns ns] 26)) := ((((Ext.refl w4).alloc _).alloc _).alloc _).alloc _
    exact ⟨(hx.cell (p := ⟨w.heap.size, 0, none⟩) (by show w.heap.size < _; omega)).trans bq4, (hx.cell (p := ⟨w.heap.size + 1, 0, none⟩) (by show w.heap.size + 1 < _; omega)).trans bd4, (hx.cell (p := ⟨w.heap.size + 1 + 1, 0, none⟩) (by show w.heap.size + 1 + 1 < _; omega)).trans bl4,
      (((a1.alloc _).alloc _).alloc _).cell, (a3.alloc _).cell, a4.cell, (hRt.ext hx), (a2.alloc _).alloc _⟩)
  by_cases hcase : lr ≤ d
  · obtain ⟨e, he, he0⟩ : ∃ e : Int, e = (lr : Int) - d ∧ e ≤ 0 := ⟨_, rfl, by omega⟩
    have hw : wrap64 ((lr : Int) - (d : Int)) = e := by rw [he]; exact IntWalk.wrap64_in _ (by omega)
    have hmk' := hmk
    rw [show ((ns : Nat) : Int) = 0 by have := hmk0 hcase; omega] at hmk'
    clear hmk hns he hmk0
    (gi_wp2_with (gi_at_call 88; refine (back_in F (N - 1) (hfn _) hro _ _ _ _).mono ?_; rintro e w' ⟨rfl, rfl⟩))
    obtain ⟨w8, hw8⟩ : ∃ w8, w8 = (((w4.alloc (.cells #[.slice R lr cr] 26)).alloc (.cells (bs (ofS ns S.zero)).toArray 34)).alloc (.cells #[.slice (some ⟨w4.heap.size + 1, 0, none⟩) ns ns] 26)).alloc (.cells #[.slice (some ⟨w4.heap.size + 1, 0, none⟩) ns ns] 26) := ⟨_, rfl⟩
    have hD := HDI.out
    rw [← hw8] at hD ⊢
    have hsz8 : w8.heap.size = w4.heap.size + 1 + 1 + 1 + 1 := by rw [hw8]; simp
    have hx8 : Ext w w8 := by rw [hw8]; exact (((xw4.alloc _).alloc _).alloc _).alloc _
    clear hw8
    refine wpIn_rangeFunc_ownG hro h1 (gf := 118) (lb := #[.pointer (some ⟨w4.heap.size + 1 + 1 + 1, 0, none⟩)]) rfl (hfn _) (enters_of Try.func118 (by kernel_rfl) rfl)
      (back_stops F (N - 1) (hfn _) hro (by omega) (w4.heap.size + 1 + 1 + 1) ns ns (some ⟨w4.heap.size + 1, 0, none⟩) (fun _ _ => True) (by simp only [maxLen]; omega) w8 (fun W hW => (hD.below hW (Nat.le_refl _)).seen))
      (fun h k hq => k (h hq)) (fun W l o o' _ hl ho _ hq => hq.put o' hl ho) (Below.refl _ _) (fun _ => rfl)
      (fun pre W => DI w.heap.size w4.heap.size d lr ns cr (.slice (some cd) m cb) (E.inv q[d]) R (dfold q d (E.inv q[d]) (ser p, S.zero) (plain pre)).1 (dfold q d (E.inv q[d]) (ser p, S.zero) (plain pre)).2 W ∧ Below w.heap.size w W)
      (fun _ _ _ => False)
      (OwnFrom.and (Own.from (fun s A B row hs hg hr => hs.still hg hr) _) (ownFrom_below (Nat.le_refl _) hx8.le))
      (fun _ _ _ _ _ hs _ _ => hs)
      ⟨hD, hx8⟩
      ?a11 ?assign1 ?body1 ?done1 ?stop1
    case assign1 =>
      intro l y W K hK
      gi_wp2
      exact hK
    case body1 =>
      rintro l pre ⟨⟨a, z⟩, ha⟩ W _ _
      exfalso
      have := HNS.out
      dsimp only at ha
      omega
    case done1 =>
      rintro D ys W hDD hys ⟨hI, hB⟩ hK
      obtain ⟨fr, fs, hst⟩ : ∃ fr fs, dfold q d (E.inv q[d]) (ser p, S.zero) (plain ys) = (fr, fs) := ⟨_, _, rfl⟩
      have hok := Lib.hid (divide_ok hd hdm' HL.out HNS.out hys hst)
      rw [hst] at hI
      dsimp only at hI
      have hi4 := hI.r
      have hi5 := hI.s
      obtain ⟨ho1, hr1, hd1⟩ := own_trim (B := w.heap.size) hI.blk (by omega) (by simp only [maxLen]; omega)
      have hr2 := hI.own.rd
      have hd2 := dg_le (ofS lr fr)
      rw [ofS_length] at hd2
      have ho2 := Lib.hid ((hI.own.take (dg (ofS lr fr)) hd2).mono (B' := w.heap.size) (by omega))
      have HO := Lib.hid (show ∀ W', Below w.heap.size w W' → KeepsFrom w8.heap.size W W' → True from fun _ _ _ => trivial)
      have ho1 := Lib.hid ho1
      have HB := Lib.hid hB
      have HK := Lib.hid hK
      have HR := Lib.hid hRb
      have HDD := Lib.hid hDD
      have hd3 : dg (ofS lr fr) ≤ cr := by omega
      have HX8 := Lib.hid hx8.le
      have hbd1 : dg (ofS ns fs) ≤ 140737488355328 := by omega
      have hbd2 : dg (ofS lr fr) ≤ 140737488355328 := by omega
      have hq1 : ∀ k, Rd (W.drewN k) (some ⟨w4.heap.size + 1, 0, none⟩) (bs (ofS ns fs)) := fun k => hr1
      have hq2 : ∀ k, Rd (W.drewN k) R (bs (ofS lr fr)) := fun k => hr2
      have hL1 := ofS_length ns fs
      have hL2 := ofS_length lr fr
      have hbn1 : ns ≤ 140737488355328 := by omega
      have hbn2 : lr ≤ 140737488355328 := by omega
      clear hI hB hK hst hys hRb hDD hD hn hm hr hs hlen hlenq hca hcb hne hd hdd hszl hmx HDP bq4 bd4 bl4 HDI ho hrd bd5 hRt hw hx8 hcase hnsl hlr1 hsz8 xw4 hle h3 hdm hsz4
      try clear e0
      try clear hmk
      try clear hmk'
      gi_wp2_with fail
      refine region_quiet hmo (by kernel_rfl) (by kernel_rfl) ?_
      repeat (gi_big_quiet_step ((first | (gi_at_call 34; with_reducible refine (hcp _ (degree_n _ _ _ _ _ hL1 (hq1 _) (by omega))).mono ?_; rintro e w' ⟨rfl, rfl⟩; exact ⟨rfl, _, rfl⟩) | (gi_at_call 34; with_reducible refine (hcp _ (degree_n _ _ _ _ _ hL2 (hq2 _) (by omega))).mono ?_; rintro e w' ⟨rfl, rfl⟩; exact ⟨rfl, _, rfl⟩))))
      refine wpQuietIn_nil ?_
      rintro _ ⟨nq, rfl⟩
      gi_wp2
      obtain ⟨W2, hW2⟩ : ∃ W2, W2 = W.drewN nq := ⟨_, rfl⟩
      have hK2 : W2.heap[D]? = some (Obj.deferred (some [])) := by rw [hW2]; exact HK.out
      have hB2 : Below w.heap.size w W2 := by rw [hW2]; exact below_drewN HB.out nq
      have hs2 : Own W2 w.heap.size 34 (.slice (some ⟨w4.heap.size + 1, 0, none⟩) (dg (ofS ns fs)) ns) (bs (trim (ofS ns fs))) := by rw [hW2]; exact ho1.out
      have ht2 : Own W2 w.heap.size 34 (.slice R (dg (ofS lr fr)) cr) (bs (trim (ofS lr fr))) := by rw [hW2, trim, bs_take]; exact ho2.out
      rw [← hW2]
      clear hW2
      refine ⟨by simp, .inl ⟨_, _, rfl, run_takeDeferred hK2, ?_⟩⟩
      refine ⟨_, results_tmp3 rfl _ _ _, _, _, _, _, rfl, hok.out, hs2.still (grownBy_putObj' W2 D _) (fun r e => by injection e with e; subst e; exact ⟨_, hK2, rfl⟩), ht2.still (grownBy_putObj' W2 D _) (fun r e => by injection e with e; subst e; exact ⟨_, hK2, rfl⟩), ?_, ?_⟩
      · intro g hg hg'
        have hg1 : w4.heap.size + 1 = g := by simpa [Value.ownBlock] using hg
        cases hR : R with
        | none => rw [hR] at hg'; cases hg'
        | some ad =>
          have h3 := HR.out ad hR
          rw [hR] at hg'
          have : ad.block = g := by simpa [Value.ownBlock] using hg'
          omega
      · exact hB2.trans (belowK_b (w := w) (Nat.le_refl _) W2 D _ _ (by have := HDD.out; have := HX8.out; omega) hK2 rfl rfl)
    case stop1 =>
      rintro D c pre W _ _ h _
      exact h.elim
  · have e0 : (lr : Int) - (d : Int) = (ns : Int) := by omega
    have hw : wrap64 ((lr : Int) - (d : Int)) = (lr : Int) - (d : Int) := IntWalk.wrap64_in _ (by omega)
    clear hns hmk0
    (gi_wp2_with (gi_at_call 88; refine (back_in F (N - 1) (hfn _) hro _ _ _ _).mono ?_; rintro e w' ⟨rfl, rfl⟩))
    obtain ⟨w8, hw8⟩ : ∃ w8, w8 = (((w4.alloc (.cells #[.slice R lr cr] 26)).alloc (.cells (bs (ofS ns S.zero)).toArray 34)).alloc (.cells #[.slice (some ⟨w4.heap.size + 1, 0, none⟩) ns ns] 26)).alloc (.cells #[.slice (some ⟨w4.heap.size + 1, 0, none⟩) ns ns] 26) := ⟨_, rfl⟩
    have hD := HDI.out
    rw [← hw8] at hD ⊢
    have hsz8 : w8.heap.size = w4.heap.size + 1 + 1 + 1 + 1 := by rw [hw8]; simp
    have hx8 : Ext w w8 := by rw [hw8]; exact (((xw4.alloc _).alloc _).alloc _).alloc _
    clear hw8
    refine wpIn_rangeFunc_ownG hro h1 (gf := 118) (lb := #[.pointer (some ⟨w4.heap.size + 1 + 1 + 1, 0, none⟩)]) rfl (hfn _) (enters_of Try.func118 (by kernel_rfl) rfl)
      (back_stops F (N - 1) (hfn _) hro (by omega) (w4.heap.size + 1 + 1 + 1) ns ns (some ⟨w4.heap.size + 1, 0, none⟩) (fun _ _ => True) (by simp only [maxLen]; omega) w8 (fun W hW => (hD.below hW (Nat.le_refl _)).seen))
      (fun h k hq => k (h hq)) (fun W l o o' _ hl ho _ hq => hq.put o' hl ho) (Below.refl _ _) (fun _ => rfl)
      (fun pre W => DI w.heap.size w4.heap.size d lr ns cr (.slice (some cd) m cb) (E.inv q[d]) R (dfold q d (E.inv q[d]) (ser p, S.zero) (plain pre)).1 (dfold q d (E.inv q[d]) (ser p, S.zero) (plain pre)).2 W ∧ Below w.heap.size w W)
      (fun _ _ _ => False)
      (OwnFrom.and (Own.from (fun s A B row hs hg hr => hs.still hg hr) _) (ownFrom_below (Nat.le_refl _) hx8.le))
      (fun _ _ _ _ _ hs _ _ => hs)
      ⟨hD, hx8⟩
      ?a12 ?assign2 ?body2 ?done2 ?stop2
    case assign2 =>
      intro l y W K hK
      gi_wp2
      exact hK
    case body2 =>
      rintro l pre ⟨⟨a, z⟩, ha⟩ W ⟨hI, hB⟩ _
      obtain ⟨fr, fs, hst⟩ : ∃ fr fs, dfold q d (E.inv q[d]) (ser p, S.zero) (plain pre) = (fr, fs) := ⟨_, _, rfl⟩
      have hI' := hI
      rw [hst] at hI
      clear hI'
      have HST := Lib.hid hst
      clear hst
      dsimp only at hI ha ⊢
      have hlr2 : lr = d + ns := by have := HNS.out; omega
      obtain ⟨gr, cr', hv, hgr1, hgr2, hcrr⟩ := hI.own.some_ (fun e => by have := congrArg List.length e; rw [bs_ofS_len] at this; simp at this; omega)
      injection hv with e1 e2 e3
      subst e1
      have hgr3 := hRb _ rfl
      dsimp only at hgr3
      have hi1 := hI.q
      have hi2 := hI.d
      have hi3 := hI.l
      have hi4 := hI.r
      have hi5 := hI.s
      have hcr : W.cell? ⟨gr, a + d, none⟩ = some (.int .u8 ((fr (a + d)).val : Int)) := hI.own.cell (ofS_getb _ _ _ (by omega))
      have had : a + d < lr := by omega
      have had0 : (0 : Int) ≤ (a : Int) + (d : Int) := by omega
      have had1 : (a : Int) + (d : Int) < (lr : Int) := by omega
      have hw1 : IntKind.i64.wrap ((a : Int) + (d : Int)) = (a : Int) + (d : Int) := IntWalk.i64_in _ (by omega)
      have hw3 : ((a : Int) + (d : Int)).toNat = a + d := by omega
      obtain ⟨c, hc⟩ : ∃ c, c = fr (a + d) * E.inv q[d] := ⟨_, rfl⟩
      have HC := Lib.hid hc
      have HI := Lib.hid hI
      have HB := Lib.hid hB
      have HS := Lib.hid hs
      have HQ := Lib.hid hdm
      have HQ2 := Lib.hid hdm'
      have HG := Lib.hid (And.intro hgr1 hgr3)
      have HX := Lib.hid hsz4
      have HM := Lib.hid hm
      have HL2 := Lib.hid hlr2
      have HLE := Lib.hid (And.intro hlen hlenq)
      have HNL := Lib.hid hnsl
      clear hI hB hs hgr1 hgr2 hgr3 hcrr e2 e3 hrd ho bd5 hRb hRt HDI hD hn hm hr hlen hlenq hca hcb hne hd hdd hszl hmx HDP bq4 bd4 bl4 hsz4 xw4 hlr hle hnsl hlr1 hcase e0 hw hsz8 hx8 hmk hc hlr2 h1 hN hdm
      gi_wp2_with fail
      refine region_quiet hmo (by kernel_rfl) (by kernel_rfl) ?_
      repeat (gi_big_quiet_step ((gi_at_call 58; with_reducible refine (hci _ l (times_any _ _ _)).mono ?_; rintro e w' ⟨rfl, rfl⟩; exact ⟨rfl, _, rfl⟩)))
      refine wpQuietIn_nil ?_
      rintro _ ⟨nq, rfl⟩
      rw [← HC.out]
      have hkW := (KeepsFrom.refl w8.heap.size W)
      obtain ⟨W1, hW1⟩ : ∃ W1, W1 = W.drewN nq := ⟨_, rfl⟩
      have hI1 : DI w.heap.size w4.heap.size d lr ns cr (.slice (some cd) m cb) (E.inv q[d]) (some ⟨gr, 0, none⟩) fr fs W1 := by rw [hW1]; exact ⟨HI.out.q, HI.out.d, HI.out.l, HI.out.r, HI.out.s, HI.out.i, HI.out.own, HI.out.blk⟩
      have hB1 : Below w.heap.size w W1 := by rw [hW1]; exact below_drewN HB.out nq
      have hk1 : KeepsFrom w8.heap.size W W1 := by rw [hW1]; exact ⟨Nat.le_refl _, fun _ _ _ h _ => h⟩
      rw [← hW1]
      clear hW1 hi1 hi2 hi3 hi4 hi5 hcr hkW had0 had1 hw1 hw3
      have hi2 := hI1.d
      have hi5 := hI1.s
      have hcs : W1.frozen? ⟨w4.heap.size + 1, a, none⟩ = false := hI1.blk.frozen a
      have hcz : W1.cell? ⟨w4.heap.size + 1, a, none⟩ = some (.int .u8 ((fs a).val : Int)) := (hI1.blk.cell a).trans (by rw [List.getElem?_toArray]; exact ofS_getb _ _ _ ha)
      have hd9 : d < 140737488355328 := by have := HQ.out; have := HLE.out.2; omega
      have hI2 := Lib.hid (hI1.setS (by have := HX.out; omega) (by intro ad e; injection e with e; subst e; exact HG.out.2) a c)
      have hB2 := Lib.hid (hB1.setCell (p := ⟨w4.heap.size + 1, a, none⟩) (by have := HX.out; show w.heap.size ≤ w4.heap.size + 1; omega) (.int .u8 (c.val : Int)))
      have hk2 := Lib.hid (hk1.trans ((KeepsOthers.setCell W1 ⟨w4.heap.size + 1, a, none⟩ (.int .u8 (c.val : Int))).from w8.heap.size))
      have hi2' : (W1.setCell ⟨w4.heap.size + 1, a, none⟩ (.int .u8 (c.val : Int))).cell? ⟨w.heap.size + 1, 0, none⟩ = some (.int .i64 (d : Int)) := hI2.out.d
      clear hI1 hB1 hk1
      gi_wp2_with fail
      gi_loopw [53] (fun i wr => ∃ k : Nat, k ≤ d + 1 ∧ i = .int .i64 k ∧ DI w.heap.size w4.heap.size d lr ns cr (.slice (some cd) m cb) (E.inv q[d]) (some ⟨gr, 0, none⟩) (divT fr q c a k) (upd fs a c) wr ∧ Below w.heap.size w wr ∧ KeepsFrom w8.heap.size W wr) (fun i _ => d + 1 - (intOf i).toNat)
      case atStart => exact ⟨0, by omega, rfl, by rw [divT_zero]; exact hI2.out, hB2.out, hk2.out⟩
      case round =>
        obtain ⟨k, hk, rfl, hI3, hB3, hk3⟩ := hrel
        clear hi2 hi2' hi5 hcs hcz
        by_cases hlt : k < d + 1
        · have hkq : k < q.length := by have := HQ2.out; omega
          obtain ⟨cd', e', hc3⟩ := (HS.out.ext hB3).byte hkq
          injection e' with e'
          subst e'
          have hi1 := hI3.q
          have hi4 := hI3.r
          have hak : a + k < lr := by have := HL2.out; omega
          have hcr : wr.cell? ⟨gr, a + k, none⟩ = some (.int .u8 ((divT fr q c a k (a + k)).val : Int)) := hI3.own.cell (ofS_getb _ _ _ hak)
          have hfz : wr.frozen? ⟨gr, a + k, none⟩ = false := hI3.own.frozen _
          have hw1 : IntKind.i64.wrap ((a : Int) + (k : Int)) = (a : Int) + (k : Int) := IntWalk.i64_in _ (by have := HL2.out; have := HNL.out; have := HLE.out; omega)
          have hw3 : ((a : Int) + (k : Int)).toNat = a + k := by omega
          have hw4 : (0 : Int) ≤ (a : Int) + (k : Int) := by omega
          have hw5 : (a : Int) + (k : Int) < (lr : Int) := by omega
          have hkm : k < m := by have := HM.out; omega
          have hkv := (q[k]).lt
          have HI3 := Lib.hid hI3
          have HB3 := Lib.hid hB3
          have HK3 := Lib.hid hk3
          clear hI3 hB3 hk3 hI2 hB2 hk2 had hfz
          gi_wp2_with fail
          refine region_store hmo (by kernel_rfl) (by kernel_rfl) (by kernel_rfl) ?_
          dsimp only [muted, mute, List.dropLast]
          repeat (gi_big_quiet_step ((first | (gi_at_call 58; with_reducible refine (hci _ l (times_any _ _ _)).mono ?_; rintro e w' ⟨rfl, rfl⟩; exact ⟨rfl, _, rfl⟩) | (gi_at_call 57; with_reducible refine (hci _ l (plus_any _ _ _)).mono ?_; rintro e w' ⟨rfl, rfl⟩; exact ⟨rfl, _, rfl⟩))))
          refine wpQuietIn_nil ?_
          rintro _ ⟨nq, rfl⟩ s hs
          simp only [List.getLast?_cons_cons, List.getLast?_singleton, Option.some.injEq] at hs
          subst hs
          obtain ⟨W2, hW2⟩ : ∃ W2, W2 = wr.drewN nq := ⟨_, rfl⟩
          have hI4 : DI w.heap.size w4.heap.size d lr ns cr (.slice (some cd) m cb) (E.inv q[d]) (some ⟨gr, 0, none⟩) (divT fr q c a k) (upd fs a c) W2 := by rw [hW2]; exact HI3.out.drewN nq
          have hB4 : Below w.heap.size w W2 := by rw [hW2]; exact below_drewN HB3.out nq
          have hk4 : KeepsFrom w8.heap.size W W2 := by rw [hW2]; exact HK3.out.trans ⟨Nat.le_refl _, fun _ _ _ h _ => h⟩
          rw [← hW2]
          clear hW2 hi1 hi4 hcr hc3 hw1 hw3 hw4 hw5
          have hcr : W2.cell? ⟨gr, a + k, none⟩ = some (.int .u8 ((divT fr q c a k (a + k)).val : Int)) := hI4.own.cell (ofS_getb _ _ _ hak)
          have hfz : W2.frozen? ⟨gr, a + k, none⟩ = false := hI4.own.frozen _
          have hI5 := Lib.hid (hI4.setR HG.out.1 HG.out.2 (a + k) (divT fr q c a k (a + k) + c * q[k]))
          have hk5 := Lib.hid (hk4.trans ((KeepsOthers.setCell W2 ⟨gr, a + k, none⟩ (.int .u8 ((divT fr q c a k (a + k) + c * q[k]).val : Int))).from w8.heap.size))
          have hB5 := Lib.hid (hB4.setCell (p := ⟨gr, a + k, none⟩) (by have := HG.out.1; show w.heap.size ≤ gr; omega) (.int .u8 ((divT fr q c a k (a + k) + c * q[k]).val : Int)))
          have hser : Hid (ser q k = q[k]) := Lib.hid (ser_at q k hkq)
          clear hI4 hB4 hk4
          go_simp
          gi_wp2_with fail
          go_roundw
          case rel => exact ⟨k + 1, by omega, by go_num, by rw [← divT_step, hser.out]; exact hI5.out, hB5.out, hk5.out⟩
          case measure => simp [intOf]; omega
        · have hkd : k = d + 1 := by omega
          rw [hkd] at hI3
          have HI3 := Lib.hid hI3
          have HB3 := Lib.hid hB3
          have HK3 := Lib.hid hk3
          clear hI3 hB3 hk3 hI2 hB2 hk2 had hkd
          gi_wp2_with fail
          refine ⟨HK3.out, fun _ => HI3.out.seen, ?_, HB3.out⟩
          rw [plain_snoc, dfold_snoc, HST.out]
          dsimp only [dstep]
          rw [← HC.out]
          exact HI3.out
    case done2 =>
      rintro D ys W hDD hys ⟨hI, hB⟩ hK
      obtain ⟨fr, fs, hst⟩ : ∃ fr fs, dfold q d (E.inv q[d]) (ser p, S.zero) (plain ys) = (fr, fs) := ⟨_, _, rfl⟩
      have hok := Lib.hid (divide_ok hd hdm' HL.out HNS.out hys hst)
      rw [hst] at hI
      dsimp only at hI
      have hi4 := hI.r
      have hi5 := hI.s
      obtain ⟨ho1, hr1, hd1⟩ := own_trim (B := w.heap.size) hI.blk (by omega) (by simp only [maxLen]; omega)
      have hr2 := hI.own.rd
      have hd2 := dg_le (ofS lr fr)
      rw [ofS_length] at hd2
      have ho2 := Lib.hid ((hI.own.take (dg (ofS lr fr)) hd2).mono (B' := w.heap.size) (by omega))
      have HO := Lib.hid (show ∀ W', Below w.heap.size w W' → KeepsFrom w8.heap.size W W' → True from fun _ _ _ => trivial)
      have ho1 := Lib.hid ho1
      have HB := Lib.hid hB
      have HK := Lib.hid hK
      have HR := Lib.hid hRb
      have HDD := Lib.hid hDD
      have hd3 : dg (ofS lr fr) ≤ cr := by omega
      have HX8 := Lib.hid hx8.le
      have hbd1 : dg (ofS ns fs) ≤ 140737488355328 := by omega
      have hbd2 : dg (ofS lr fr) ≤ 140737488355328 := by omega
      have hq1 : ∀ k, Rd (W.drewN k) (some ⟨w4.heap.size + 1, 0, none⟩) (bs (ofS ns fs)) := fun k => hr1
      have hq2 : ∀ k, Rd (W.drewN k) R (bs (ofS lr fr)) := fun k => hr2
      have hL1 := ofS_length ns fs
      have hL2 := ofS_length lr fr
      have hbn1 : ns ≤ 140737488355328 := by omega
      have hbn2 : lr ≤ 140737488355328 := by omega
      clear hI hB hK hst hys hRb hDD hD hn hm hr hs hlen hlenq hca hcb hne hd hdd hszl hmx HDP bq4 bd4 bl4 HDI ho hrd bd5 hRt hw hx8 hcase hnsl hlr1 hsz8 xw4 hle h3 hdm hsz4
      try clear e0
      try clear hmk
      try clear hmk'
      gi_wp2_with fail
      refine region_quiet hmo (by kernel_rfl) (by kernel_rfl) ?_
      repeat (gi_big_quiet_step ((first | (gi_at_call 34; with_reducible refine (hcp _ (degree_n _ _ _ _ _ hL1 (hq1 _) (by omega))).mono ?_; rintro e w' ⟨rfl, rfl⟩; exact ⟨rfl, _, rfl⟩) | (gi_at_call 34; with_reducible refine (hcp _ (degree_n _ _ _ _ _ hL2 (hq2 _) (by omega))).mono ?_; rintro e w' ⟨rfl, rfl⟩; exact ⟨rfl, _, rfl⟩))))
      refine wpQuietIn_nil ?_
      rintro _ ⟨nq, rfl⟩
      gi_wp2
      obtain ⟨W2, hW2⟩ : ∃ W2, W2 = W.drewN nq := ⟨_, rfl⟩
      have hK2 : W2.heap[D]? = some (Obj.deferred (some [])) := by rw [hW2]; exact HK.out
      have hB2 : Below w.heap.size w W2 := by rw [hW2]; exact below_drewN HB.out nq
      have hs2 : Own W2 w.heap.size 34 (.slice (some ⟨w4.heap.size + 1, 0, none⟩) (dg (ofS ns fs)) ns) (bs (trim (ofS ns fs))) := by rw [hW2]; exact ho1.out
      have ht2 : Own W2 w.heap.size 34 (.slice R (dg (ofS lr fr)) cr) (bs (trim (ofS lr fr))) := by rw [hW2, trim, bs_take]; exact ho2.out
      rw [← hW2]
      clear hW2
      refine ⟨by simp, .inl ⟨_, _, rfl, run_takeDeferred hK2, ?_⟩⟩
      refine ⟨_, results_tmp3 rfl _ _ _, _, _, _, _, rfl, hok.out, hs2.still (grownBy_putObj' W2 D _) (fun r e => by injection e with e; subst e; exact ⟨_, hK2, rfl⟩), ht2.still (grownBy_putObj' W2 D _) (fun r e => by injection e with e; subst e; exact ⟨_, hK2, rfl⟩), ?_, ?_⟩
      · intro g hg hg'
        have hg1 : w4.heap.size + 1 = g := by simpa [Value.ownBlock] using hg
        cases hR : R with
        | none => rw [hR] at hg'; cases hg'
        | some ad =>
          have h3 := HR.out ad hR
          rw [hR] at hg'
          have : ad.block = g := by simpa [Value.ownBlock] using hg'
          omega
      · exact hB2.trans (belowK_b (w := w) (Nat.le_refl _) W2 D _ _ (by have := HDD.out; have := HX8.out; omega) hK2 rfl rfl)
    case stop2 =>
      rintro D c pre W _ _ h _
      exact h.elim
end Go.Proofs.Ytemnlcfabaocbaa
