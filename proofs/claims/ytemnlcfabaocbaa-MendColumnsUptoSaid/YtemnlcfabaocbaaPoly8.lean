/-
  The walks of layer 2: Euclid's algorithm, ended early.
-/
import Derived.Test.YtemnlcfabaocbaaPart
import Derived.Test.YtemnlcfabaocbaaMix
import Derived.Test.YtemnlcfabaocbaaLaw3
namespace Go.Proofs.Ytemnlcfabaocbaa
open Go.RowKit Gf
set_option maxRecDepth 20000
set_option linter.unusedVariables false

theorem results_tmp4 {fn : Func} {t u v x : Tmp} (h : fn.results = #[.tmp t, .tmp u, .tmp v, .tmp x]) (tmps : Array Value) (P : Program) (w : World) :
    (results fn tmps).run P w = .ok (.tuple #[tmps.getD t undef, tmps.getD u undef, tmps.getD v undef, tmps.getD x undef]) w := by
  simp [results, h]
theorem polyPartial_neg (A C : Option Addr) (n m ca cb : Nat) (k : Int) (hk : k < 0) (w : World) :
    Calls Try.prog 52 #[.slice A n ca, .slice C m cb, .int .i64 k] w fun e w' => e = .returned (.tuple #[.slice none 0 0, .slice none 0 0, .slice none 0 0, .int .i64 2]) ∧ w = w' := by
  have hd := decide_eq_true hk
  go_enter Try.func52, Try.ntmps52
  go_wp2
  (try simp only [Exit.inBlock, Exit.then]); refine bodyPost_ret (results_tmp4 rfl _ _ _) rfl ?_
  exact ⟨rfl, rfl⟩
/-- No slice into the two boxes. -/
def Far (G : Nat) (A : Option Addr) : Prop := ∀ ad, A = some ad → ad.block ≠ G ∧ ad.block ≠ G + 1
/-- A row of Euclid's: three slices. -/
structure RowRd (w : World) (B G : Nat) (a : Row) (Ag Au Av : Option Addr) (cg cu cv : Nat) : Prop where
  g : Own w B 34 (.slice Ag a.g.length cg) (bs a.g)
  u : Rd w Au (bs a.u)
  v : Rd w Av (bs a.v)
  fg : Far G Ag
  fu : Far G Au
  fv : Far G Av
theorem RowRd.ext {w w' : World} {B G : Nat} {a : Row} {Ag Au Av : Option Addr} {cg cu cv : Nat} (h : RowRd w B G a Ag Au Av cg cu cv) (e : Ext w w') : RowRd w' B G a Ag Au Av cg cu cv :=
  ⟨h.g.ext e, h.u.ext e, h.v.ext e, h.fg, h.fu, h.fv⟩
theorem RowRd.set {w : World} {B G : Nat} {a : Row} {Ag Au Av : Option Addr} {cg cu cv : Nat} (h : RowRd w B G a Ag Au Av cg cu cv) (g i : Nat) (hg : g = G ∨ g = G + 1) (x : Value) : RowRd (w.setCell ⟨g, i, none⟩ x) B G a Ag Au Av cg cu cv := by
  have far : ∀ A, Far G A → ∀ ad, A = some ad → ad.block ≠ g := fun A hA ad e => by have := hA ad e; omega
  refine ⟨h.g.far (p := ⟨g, i, none⟩) ?_ x, h.u.setCell (p := ⟨g, i, none⟩) (far _ h.fu) x, h.v.setCell (p := ⟨g, i, none⟩) (far _ h.fv) x, h.fg, h.fu, h.fv⟩
  intro e
  cases Ag with
  | none => cases e
  | some ad => exact far _ h.fg ad rfl (by simpa [Value.ownBlock] using e)
theorem Blk.set3 {w : World} {G : Nat} {t : TypeId} {x y z : Value} (h : Blk w G t #[x, y, z]) (a b c : Value) : Blk (((w.setCell ⟨G, 0, none⟩ a).setCell ⟨G, 1, none⟩ b).setCell ⟨G, 2, none⟩ c) G t #[a, b, c] := by
  have := ((h.set_ 0 a).set_ 1 b).set_ 2 c
  simpa using this
theorem Blk.far3 {w : World} {G G' : Nat} {t : TypeId} {cs : Array Value} (h : Blk w G t cs) (hne : G ≠ G') (a b c : Value) : Blk (((w.setCell ⟨G', 0, none⟩ a).setCell ⟨G', 1, none⟩ b).setCell ⟨G', 2, none⟩ c) G t cs :=
  ((h.far (p := ⟨G', 0, none⟩) hne a).far (p := ⟨G', 1, none⟩) hne b).far (p := ⟨G', 2, none⟩) hne c
theorem ext3 {w w' : World} {G : Nat} (h : Ext w w') (hG : w.heap.size ≤ G) (a b c : Value) : Ext w (((w'.setCell ⟨G, 0, none⟩ a).setCell ⟨G, 1, none⟩ b).setCell ⟨G, 2, none⟩ c) :=
  ((h.new (p := ⟨G, 0, none⟩) hG a).new (p := ⟨G, 1, none⟩) hG b).new (p := ⟨G, 2, none⟩) hG c
theorem far_new {w : World} {B G : Nat} {T : TypeId} {A : Option Addr} {n c : Nat} {xs : List Value} (h : Own w B T (.slice A n c) xs) (hB : G + 1 < B) : Far G A := by
  obtain ⟨A', c', hv, _, _, _, hlt⟩ := h.slice
  injection hv with e1
  subst e1
  intro ad e
  have := (hlt ad e).1
  omega
def lenAt (w : World) (G : Nat) : Nat := match w.cell? ⟨G, 0, none⟩ with | some (.slice _ l _) => l | _ => 0
/-- What the loop keeps. -/
structure PI (p q : List E) (k n m : Nat) (w wr : World) (GA : Nat) (N : Nat) (a b : Row) (Ag Au Av Bg Bu Bv : Option Addr) (cg cu cv dg' du dv : Nat) : Prop where
  ext : Ext w wr
  hGA : w.heap.size ≤ GA
  hGB : GA + 1 < wr.heap.size
  ra : RowN p q N a
  rb : RowN p q (N + 1) b
  before : ∀ j, j < N → ∀ x, RowN p q j x → k < x.g.length
  ba : Blk wr GA 127 #[.slice Ag a.g.length cg, .slice Au a.u.length cu, .slice Av a.v.length cv]
  bb : Blk wr (GA + 1) 127 #[.slice Bg b.g.length dg', .slice Bu b.u.length du, .slice Bv b.v.length dv]
  la : RowRd wr w.heap.size GA a Ag Au Av cg cu cv
  lb : RowRd wr w.heap.size GA b Bg Bu Bv dg' du dv
  sz : N + b.g.length ≤ m
  sg : a.g.length ≤ n + m
  su : a.u.length ≤ (N + 1) * 8000001 ∧ b.u.length ≤ (N + 1) * 8000001 ∧ a.v.length ≤ (N + 1) * 8000001 ∧ b.v.length ≤ (N + 1) * 8000001
set_option maxHeartbeats 4000000 in
theorem polyPartial_far (A C : Option Addr) (n m ca cb : Nat) (p q : List E) (k : Nat) (w : World) (hn : p.length = n) (hm : q.length = m) (hr : Rd w A (bs p)) (hs : Rd w C (bs q)) (hlen : n ≤ 4000000) (hlenq : m ≤ 4000000) (hca : n ≤ ca) (hcb : m ≤ cb) (hk : (Lit.int .i64 (k : Int)).wf = true) :
    Calls Try.prog 52 #[.slice A n ca, .slice C m cb, .int .i64 k] w fun e w' => ∃ vg vu vv r, e = .returned (.tuple #[vg, vu, vv, .int .i64 0]) ∧ PartRes p q k r ∧
      Own w' w.heap.size 34 vg (bs r.g) ∧ Own w' w.heap.size 34 vu (bs r.u) ∧ Own w' w.heap.size 34 vv (bs r.v) ∧ Ext w w' ∧ r.u.length ≤ 40000000000000 ∧ r.v.length ≤ 40000000000000 ∧ r.g.length ≤ 8000000 ∧
      ∃ n1 n2, n1 ≤ n2 ∧ (∀ g, vg.ownBlock = some g → g < n1) ∧ (∀ g, vu.ownBlock = some g → n1 ≤ g ∧ g < n2) ∧ (∀ g, vv.ownBlock = some g → n2 ≤ g) := by
  have hmo : Try.prog.follows Departure.mixedOrders = true := by kernel_rfl
  have hk9 : (k : Int) ≤ 9223372036854775807 := by
    have : 0 ≤ (k : Int) ∧ _ := ⟨by omega, hk⟩
    simpa [Lit.wf, IntKind.min, IntKind.max, IntKind.signed, IntKind.bits] using hk
  go_enter Try.func52, Try.ntmps52
  go_wp2_with fail
  refine (trim_n A n p ca _ hn (hr.alloc _) (by omega) hca).mono ?_
  rintro e w1 ⟨v, rfl, ho1, hx1⟩
  obtain ⟨Ap, cp, rfl, -, hcp, hmp⟩ := ho1.bytesN rfl
  go_wp2_with fail
  refine (trim_n C m q cb _ hm ((hs.alloc _).ext hx1) (by omega) hcb).mono ?_
  rintro e w2 ⟨v, rfl, ho2, hx2⟩
  obtain ⟨Aq, cq, rfl, -, hcq, hmq⟩ := ho2.bytesN rfl
  have x0 : Ext w (w.alloc (.cells #[.int .u8 1] 34)) := (Ext.refl w).alloc _
  have y1 := x0.trans hx1
  have y2 := y1.trans hx2
  have h1 : Rd w2 (some ⟨w.heap.size, 0, none⟩) (bs [1]) := ((rd_lit w 34 [1] (by simp)).ext hx1).ext hx2
  have hpl := trim_le p
  have hql := trim_le q
  have hl2 : w.heap.size < w2.heap.size := by
    have := hx1.le
    have := hx2.le
    rw [World.size_alloc] at *
    omega
  obtain ⟨w3, hw3⟩ : ∃ w3, w3 = (w2.alloc (.cells #[.slice Ap (trim p).length cp, .slice (some ⟨w.heap.size, 0, none⟩) 1 1, .slice none 0 0] 127)).alloc (.cells #[.slice Aq (trim q).length cq, .slice none 0 0, .slice (some ⟨w.heap.size, 0, none⟩) 1 1] 127) := ⟨_, rfl⟩
  have x3 : Ext w2 w3 := by rw [hw3]; exact ((Ext.refl w2).alloc _).alloc _
  have f0 : Far w2.heap.size none := fun ad e => by cases e
  have f1 : Far w2.heap.size (some ⟨w.heap.size, 0, none⟩) := fun ad e => by injection e with e; subst e; exact ⟨by show w.heap.size ≠ _; omega, by show w.heap.size ≠ _; omega⟩
  have fo : ∀ {B : Nat} {A : Option Addr} {l c : Nat} {xs : List Value}, Own w2 B 34 (.slice A l c) xs → Far w2.heap.size A := fun h ad e => by
    obtain ⟨A', c', hv, _, _, _, hlt⟩ := h.slice
    injection hv with e1
    subst e1
    have := (hlt ad e).2
    omega
  have HI : PI p q k n m w w3 w2.heap.size 0 ⟨trim p, [1], []⟩ ⟨trim q, [], [1]⟩ Ap (some ⟨w.heap.size, 0, none⟩) none Aq none (some ⟨w.heap.size, 0, none⟩) cp 1 0 cq 0 1 := by
    have ho1' := (ho1.mono x0.le).ext hx2
    have ho2' := ho2.mono y1.le
    refine ⟨y2.trans x3, by omega, by rw [hw3]; simp, rfl, rfl, fun j hj => absurd hj (by omega), ?_, ?_, ⟨ho1'.ext x3, h1.ext x3, Rd.nil _ _, fo ho1', f1, f0⟩, ⟨ho2'.ext x3, Rd.nil _ _, h1.ext x3, fo ho2', f0, f1⟩, by simp; omega, by simp; omega, by simp⟩
    · rw [hw3]; exact (Blk.new _ _ _).alloc _
    · rw [hw3]
      have := Blk.new (w2.alloc (.cells #[.slice Ap (trim p).length cp, .slice (some ⟨w.heap.size, 0, none⟩) 1 1, .slice none 0 0] 127)) 127 #[.slice Aq (trim q).length cq, .slice none 0 0, .slice (some ⟨w.heap.size, 0, none⟩) 1 1]
      rwa [World.size_alloc] at this
  have HI := Lib.hid HI
  obtain ⟨GA, hGA⟩ : ∃ GA, GA = w2.heap.size := ⟨_, rfl⟩
  go_wp2_with fail
  rw [← hw3]
  rw [← hGA] at HI ⊢
  clear hGA hw3 h1 ho1 ho2 hx1 hx2 x0 y1 y2 x3 hr hs f0 f1 fo hl2
  go_loopw [] (fun wr => ∃ (N : Nat) (a b : Row) (Ag Au Av Bg Bu Bv : Option Addr) (cg cu cv dg' du dv : Nat), PI p q k n m w wr GA N a b Ag Au Av Bg Bu Bv cg cu cv dg' du dv) (fun wr => lenAt wr (GA + 1))
  case atStart => exact ⟨0, _, _, _, _, _, _, _, _, _, _, _, _, _, _, HI.out⟩
  case round =>
    obtain ⟨N, a, b, Ag, Au, Av, Bg, Bu, Bv, cg, cu, cv, dg', du, dv, hI⟩ := hrel
    clear HI
    have hsg := hI.sg
    have hq0 : wr.cell? ⟨GA, 0, none⟩ = some (.slice Ag a.g.length cg) := hI.ba.cell 0
    have hw1 : wrap64 ((a.g.length : Int) - 1) = (a.g.length : Int) - 1 := IntWalk.wrap64_in _ (by omega)
    have HII := Lib.hid hI
    by_cases hgo : k < a.g.length
    · have hd1 : decide ((k : Int) ≤ (a.g.length : Int) - 1) = true := decide_eq_true (by omega)
      have hr0 : wr.cell? ⟨GA + 1, 0, none⟩ = some (.slice Bg b.g.length dg') := hI.bb.cell 0
      have hr1 : wr.cell? ⟨GA + 1, 1, none⟩ = some (.slice Bu b.u.length du) := hI.bb.cell 1
      have hr2 : wr.cell? ⟨GA + 1, 2, none⟩ = some (.slice Bv b.v.length dv) := hI.bb.cell 2
      have hq1 : wr.cell? ⟨GA, 1, none⟩ = some (.slice Au a.u.length cu) := hI.ba.cell 1
      have hq2 : wr.cell? ⟨GA, 2, none⟩ = some (.slice Av a.v.length cv) := hI.ba.cell 2
      have hfa := hI.ba.frozen
      by_cases hz : b.g.length = 0
      · have hr0' := hr0
        rw [hz] at hr0
        have hf0 := hfa 0
        have hf1 := hfa 1
        have hf2 := hfa 2
        have HZ := Lib.hid hz
        clear hI hfa hz hr0'
        go_wp2_with fail
        obtain ⟨W, hW⟩ : ∃ W, W = ((wr.setCell ⟨GA, 0, none⟩ (.slice Bg 0 dg')).setCell ⟨GA, 1, none⟩ (.slice Bu b.u.length du)).setCell ⟨GA, 2, none⟩ (.slice Bv b.v.length dv) := ⟨_, rfl⟩
        have HBK : Hid (Blk W GA 127 #[.slice Bg b.g.length dg', .slice Bu b.u.length du, .slice Bv b.v.length dv]) := Lib.hid (by rw [hW, HZ.out]; exact HII.out.ba.set3 _ _ _)
        have HRR : Hid (RowRd W w.heap.size GA b Bg Bu Bv dg' du dv) := Lib.hid (by rw [hW]; exact ((HII.out.lb.set GA 0 (.inl rfl) _).set GA 1 (.inl rfl) _).set GA 2 (.inl rfl) _)
        have HXW : Hid (Ext w W) := Lib.hid (by rw [hW]; exact ext3 HII.out.ext HII.out.hGA _ _ _)
        have HPR : Hid (PartRes p q k b) := Lib.hid ⟨N + 1, HII.out.rb, by rw [HZ.out]; omega, fun j hj x hx => by
          rcases Nat.lt_or_ge j N with h | h
          · exact HII.out.before j h x hx
          · obtain rfl : j = N := by omega
            rw [RowN.uniq j x a hx HII.out.ra]; exact hgo⟩
        have hul : b.u.length ≤ 40000000000000 := by have := HII.out.su.2.1; have := HII.out.sz; omega
        have hvl : b.v.length ≤ 40000000000000 := by have := HII.out.su.2.2.2; have := HII.out.sz; omega
        have hgl : b.g.length ≤ 8000000 := by rw [HZ.out]; omega
        rw [← hW]
        clear hW hr0 hr1 hr2 hq0 hq1 hq2 hf0 hf1 hf2 hw1 hd1
        refine wp_region_mix (fun i => [0, 0, 0, 0, 1, 0, 0, 1, 0, 0, 0, 0].getD i 0) (fun w' => Ext W w') hmo (by kernel_rfl) (by kernel_rfl) ((Ext.refl _).drewN 1) ?_
        have g0 : ∀ w', Ext W w' → w'.cell? ⟨GA, 0, none⟩ = some (.slice Bg b.g.length dg') := fun w' h => (HBK.out.below h HBK.out.lt).cell 0
        have g1 : ∀ w', Ext W w' → w'.cell? ⟨GA, 1, none⟩ = some (.slice Bu b.u.length du) := fun w' h => (HBK.out.below h HBK.out.lt).cell 1
        have g2 : ∀ w', Ext W w' → w'.cell? ⟨GA, 2, none⟩ = some (.slice Bv b.v.length dv) := fun w' h => (HBK.out.below h HBK.out.lt).cell 2
        have xd : Ext W W.drew := (Ext.refl _).drewN 1
        refine mix_still (.pointer (some ⟨GA, 0, none⟩)) rfl (fun w' hw' => by go_simp) ?_
        refine mix_still (.slice Bg b.g.length dg') rfl (fun w' hw' => by have := g0 w' hw'; go_simp) ?_
        refine mix_still (.pointer (some ⟨GA, 1, none⟩)) rfl (fun w' hw' => by go_simp) ?_
        refine mix_still (.slice Bu b.u.length du) rfl (fun w' hw' => by have := g1 w' hw'; go_simp) ?_
        refine mix_call 87 #[.slice Bu b.u.length du] rfl (by go_simp) ?_
        refine (clone_n Bu _ b.u du _ rfl (HRR.out.u.ext xd) (by omega)).mono ?_
        rintro e w4 ⟨vu, rfl, hou, hx4⟩
        have x4 := xd.trans hx4
        refine ⟨vu, rfl, x4, ?_⟩
        refine mix_still (.pointer (some ⟨GA, 2, none⟩)) rfl (fun w' hw' => by go_simp) ?_
        refine mix_still (.slice Bv b.v.length dv) rfl (fun w' hw' => by have := g2 w' hw'; go_simp) ?_
        refine mix_call 87 #[.slice Bv b.v.length dv] rfl (by go_simp) ?_
        refine (clone_n Bv _ b.v dv _ rfl (HRR.out.v.ext x4) (by omega)).mono ?_
        rintro e w5 ⟨vv, rfl, hov, hx5⟩
        have x5 := x4.trans hx5
        refine ⟨vv, rfl, x5, ?_⟩
        refine mix_still (.slice Bg b.g.length dg') rfl (fun w' hw' => by go_simp) ?_
        refine mix_still vu rfl (fun w' hw' => by go_simp) ?_
        refine mix_still vv rfl (fun w' hw' => by go_simp) ?_
        refine mix_still (.int .i64 0) rfl (fun w' hw' => by go_simp) ?_
        refine mix_nil ?_
        go_wp2
        (try simp only [Exit.inBlock, Exit.then]); refine bodyPost_ret (results_tmp4 rfl _ _ _) rfl ?_
        have hext := HXW.out
        refine ⟨.slice Bg b.g.length dg', vu, vv, b, ?_, HPR.out, (HRR.out.ext x5).g, ?_, hov.mono (hext.trans x4).le, hext.trans x5, hul, hvl, hgl, W.heap.size, w4.heap.size, x4.le, fun g hg => (HRR.out.g.lt g hg).2, fun g hg => hou.lt g hg, fun g hg => (hov.lt g hg).1⟩
        · first | (with_reducible rfl) | (simp; done) | go_simp
        exact (hou.mono (hext.trans xd).le).ext hx5
      · have HZ := Lib.hid hz
        clear hI hfa
        have htb := RowN.tr _ _ HII.out.rb
        have hpos : 0 < dg b.g := by rw [htb.dg]; have := HZ.out; omega
        have hgb : b.g.length ≤ 8000000 := by have := HII.out.sz; omega
        have hzb : ((b.g.length : Int) == 0) = false := by rw [beq_eq_false_iff_ne]; have := HZ.out; omega
        obtain ⟨cg', hcg⟩ : ∃ c', c' = cg := ⟨_, rfl⟩
        have hcga : a.g.length ≤ cg := by obtain ⟨_, _, hv, -, h, -, -⟩ := HII.out.la.g.slice; injection hv with _ _ e3; subst e3; rwa [bs_length] at h
        have hcgb : b.g.length ≤ dg' := by obtain ⟨_, _, hv, -, h, -, -⟩ := HII.out.lb.g.slice; injection hv with _ _ e3; subst e3; rwa [bs_length] at h
        clear htb hcg
        go_wp2_with fail
        refine (polyDivide_n Ag Bg _ _ cg dg' a.g b.g _ rfl rfl HII.out.la.g.rd HII.out.lb.g.rd (by omega) (by omega) hcga hcgb hpos).mono ?_
        rintro e w4 ⟨vs, vr, s, r, rfl, hd, hos, hor, -, hx4⟩
        obtain ⟨As, cs, rfl, hrs, -, -⟩ := hos.bytesN rfl
        obtain ⟨Ar, cr, rfl, -, -, -⟩ := hor.bytesN rfl
        have hls := hd.ls
        have hlr := hd.lt
        have hdgb := dg_le b.g
        have hbs := HII.out.su
        have hsz := HII.out.sz
        have HD := Lib.hid hd
        have HOR := Lib.hid hor
        have HRS := Lib.hid hrs
        have HX4 := Lib.hid hx4
        have hb1 := timesL_le s b.u
        have hb2 := plusL_le a.u (timesL s b.u)
        have hb3 := timesL_le s b.v
        have hb4 := plusL_le a.v (timesL s b.v)
        have BA4 := Lib.hid (HII.out.ba.below hx4 HII.out.ba.lt)
        have BB4 := Lib.hid (HII.out.bb.below hx4 HII.out.bb.lt)
        have LA4 := Lib.hid (HII.out.la.ext hx4)
        have LB4 := Lib.hid (HII.out.lb.ext hx4)
        clear hd hos hor hrs hx4 hr0 hr1 hr2 hq0 hq1 hq2
        go_wp2_with fail
        refine wp_region_mix (fun i => [0, 3, 3, 0, 3, 3, 0, 1, 1, 3, 0, 3, 3, 0, 1, 1, 3, 2, 2].getD i 0) (fun w' => Ext w4 w') hmo (by kernel_rfl) (by kernel_rfl) ((Ext.refl _).drewN 1) ?_
        have g1 : ∀ w', Ext w4 w' → w'.cell? ⟨GA, 1, none⟩ = some (.slice Au a.u.length cu) := fun w' h => (BA4.out.below h BA4.out.lt).cell 1
        have g2 : ∀ w', Ext w4 w' → w'.cell? ⟨GA, 2, none⟩ = some (.slice Av a.v.length cv) := fun w' h => (BA4.out.below h BA4.out.lt).cell 2
        have k0 : ∀ w', Ext w4 w' → w'.cell? ⟨GA + 1, 0, none⟩ = some (.slice Bg b.g.length dg') := fun w' h => (BB4.out.below h BB4.out.lt).cell 0
        have k1 : ∀ w', Ext w4 w' → w'.cell? ⟨GA + 1, 1, none⟩ = some (.slice Bu b.u.length du) := fun w' h => (BB4.out.below h BB4.out.lt).cell 1
        have k2 : ∀ w', Ext w4 w' → w'.cell? ⟨GA + 1, 2, none⟩ = some (.slice Bv b.v.length dv) := fun w' h => (BB4.out.below h BB4.out.lt).cell 2
        have xd : Ext w4 w4.drew := (Ext.refl _).drewN 1
        refine mix_still (.agg #[.slice Bg b.g.length dg', .slice Bu b.u.length du, .slice Bv b.v.length dv]) rfl (fun w' hw' => by have h0 := k0 w' hw'; have h1 := k1 w' hw'; have h2 := k2 w' hw'; go_simp) ?_
        refine mix_pure (.slice Ar r.length cr) rfl (fun w' => by go_simp) ?_
        refine mix_pure (.pointer (some ⟨GA, 1, none⟩)) rfl (fun w' => by go_simp) ?_
        refine mix_still (.slice Au a.u.length cu) rfl (fun w' hw' => by have := g1 w' hw'; go_simp) ?_
        refine mix_pure (.slice As s.length cs) rfl (fun w' => by go_simp) ?_
        refine mix_pure (.pointer (some ⟨GA + 1, 1, none⟩)) rfl (fun w' => by go_simp) ?_
        refine mix_still (.slice Bu b.u.length du) rfl (fun w' hw' => by have := k1 w' hw'; go_simp) ?_
        refine mix_call 41 #[.slice As s.length cs, .slice Bu b.u.length du] rfl (by go_simp) ?_
        refine (polyTimes_n As Bu _ _ cs du s b.u _ rfl rfl (HRS.out.ext xd) (LB4.out.u.ext xd) (by omega)).mono ?_
        rintro e w5 ⟨v, rfl, ho, hx5⟩
        obtain ⟨A5, c5, rfl, hr5, -, -⟩ := ho.bytesN rfl
        have x5 := xd.trans hx5
        clear ho
        refine ⟨_, rfl, x5, ?_⟩
        refine mix_call 40 #[.slice Au a.u.length cu, .slice A5 (timesL s b.u).length c5] rfl (by go_simp) ?_
        refine (polyPlus_n Au A5 _ _ cu c5 a.u (timesL s b.u) _ rfl rfl (LA4.out.u.ext x5) hr5 (by omega) (by omega)).mono ?_
        rintro e w6 ⟨v, rfl, ho6, hx6⟩
        obtain ⟨A6, c6, rfl, hr6, -, -⟩ := ho6.bytesN rfl
        have x6 := x5.trans hx6
        refine ⟨_, rfl, x6, ?_⟩
        refine mix_pure (.pointer (some ⟨GA, 2, none⟩)) rfl (fun w' => by go_simp) ?_
        refine mix_still (.slice Av a.v.length cv) rfl (fun w' hw' => by have := g2 w' hw'; go_simp) ?_
        refine mix_pure (.slice As s.length cs) rfl (fun w' => by go_simp) ?_
        refine mix_pure (.pointer (some ⟨GA + 1, 2, none⟩)) rfl (fun w' => by go_simp) ?_
        refine mix_still (.slice Bv b.v.length dv) rfl (fun w' hw' => by have := k2 w' hw'; go_simp) ?_
        refine mix_call 41 #[.slice As s.length cs, .slice Bv b.v.length dv] rfl (by go_simp) ?_
        refine (polyTimes_n As Bv _ _ cs dv s b.v _ rfl rfl (HRS.out.ext x6) (LB4.out.v.ext x6) (by omega)).mono ?_
        rintro e w7 ⟨v, rfl, ho, hx7⟩
        obtain ⟨A7, c7, rfl, hr7, -, -⟩ := ho.bytesN rfl
        have x7 := x6.trans hx7
        clear ho
        refine ⟨_, rfl, x7, ?_⟩
        refine mix_call 40 #[.slice Av a.v.length cv, .slice A7 (timesL s b.v).length c7] rfl (by go_simp) ?_
        refine (polyPlus_n Av A7 _ _ cv c7 a.v (timesL s b.v) _ rfl rfl (LA4.out.v.ext x7) hr7 (by omega) (by omega)).mono ?_
        rintro e w8 ⟨v, rfl, ho8, hx8⟩
        obtain ⟨A8, c8, rfl, hr8, -, -⟩ := ho8.bytesN rfl
        have x8 := x7.trans hx8
        refine ⟨_, rfl, x8, ?_⟩
        refine mix_pure (.agg #[.slice Ar r.length cr, .slice A6 (plusL a.u (timesL s b.u)).length c6, .slice A8 (plusL a.v (timesL s b.v)).length c8]) rfl (fun w' => by go_simp) ?_
        have BA8 := BA4.out.below x8 BA4.out.lt
        have BB8 := BB4.out.below x8 BB4.out.lt
        have fa0 := BA8.frozen 0
        have fa1 := BA8.frozen 1
        have fa2 := BA8.frozen 2
        have fb0 := BB8.frozen 0
        have fb1 := BB8.frozen 1
        have fb2 := BB8.frozen 2
        have da0 : w8.cell? ⟨GA, 0, none⟩ = some (.slice Ag a.g.length cg) := BA8.cell 0
        have da1 := g1 _ x8
        have da2 := g2 _ x8
        have db0 := k0 _ x8
        have db1 := k1 _ x8
        have db2 := k2 _ x8
        obtain ⟨W1, hW1⟩ : ∃ W1, W1 = ((w8.setCell ⟨GA, 0, none⟩ (.slice Bg b.g.length dg')).setCell ⟨GA, 1, none⟩ (.slice Bu b.u.length du)).setCell ⟨GA, 2, none⟩ (.slice Bv b.v.length dv) := ⟨_, rfl⟩
        refine mix_store W1 rfl (by rw [hW1]; go_simp) ?_
        have ne : GA + 1 ≠ GA := by omega
        have BA9 := BA8.set3 (.slice Bg b.g.length dg') (.slice Bu b.u.length du) (.slice Bv b.v.length dv)
        have BB9 := BB8.far3 ne (.slice Bg b.g.length dg') (.slice Bu b.u.length du) (.slice Bv b.v.length dv)
        have XW := Lib.hid (ext3 (HII.out.ext.trans (HX4.out.trans x8)) HII.out.hGA (.slice Bg b.g.length dg') (.slice Bu b.u.length du) (.slice Bv b.v.length dv))
        rw [← hW1] at BA9 BB9 XW
        have eb0 : W1.cell? ⟨GA + 1, 0, none⟩ = some (.slice Bg b.g.length dg') := BB9.cell 0
        have eb1 : W1.cell? ⟨GA + 1, 1, none⟩ = some (.slice Bu b.u.length du) := BB9.cell 1
        have eb2 : W1.cell? ⟨GA + 1, 2, none⟩ = some (.slice Bv b.v.length dv) := BB9.cell 2
        have gb0 := BB9.frozen 0
        have gb1 := BB9.frozen 1
        have gb2 := BB9.frozen 2
        obtain ⟨W2, hW2⟩ : ∃ W2, W2 = ((W1.setCell ⟨GA + 1, 0, none⟩ (.slice Ar r.length cr)).setCell ⟨GA + 1, 1, none⟩ (.slice A6 (plusL a.u (timesL s b.u)).length c6)).setCell ⟨GA + 1, 2, none⟩ (.slice A8 (plusL a.v (timesL s b.v)).length c8) := ⟨_, rfl⟩
        refine mix_store W2 rfl (by rw [hW2]; go_simp) ?_
        refine mix_nil ?_
        have hl48 : wr.heap.size ≤ w4.heap.size := HX4.out.le
        have hgb2 := HII.out.hGB
        have L8b : RowRd w8 w.heap.size GA b Bg Bu Bv dg' du dv := LB4.out.ext x8
        have L8r : RowRd w8 w.heap.size GA ⟨r, plusL a.u (timesL s b.u), plusL a.v (timesL s b.v)⟩ Ar A6 A8 cr c6 c8 :=
          ⟨(HOR.out.mono HII.out.ext.le).ext x8, hr6.ext (hx7.trans hx8), hr8, far_new HOR.out hgb2, far_new ho6 (by have := x5.le; omega), far_new ho8 (by have := x7.le; omega)⟩
        have L1b : RowRd W1 w.heap.size GA b Bg Bu Bv dg' du dv := by rw [hW1]; exact ((L8b.set GA 0 (.inl rfl) _).set GA 1 (.inl rfl) _).set GA 2 (.inl rfl) _
        have L1r : RowRd W1 w.heap.size GA ⟨r, plusL a.u (timesL s b.u), plusL a.v (timesL s b.v)⟩ Ar A6 A8 cr c6 c8 := by rw [hW1]; exact ((L8r.set GA 0 (.inl rfl) _).set GA 1 (.inl rfl) _).set GA 2 (.inl rfl) _
        have L2b : RowRd W2 w.heap.size GA b Bg Bu Bv dg' du dv := by rw [hW2]; exact ((L1b.set (GA + 1) 0 (.inr rfl) _).set (GA + 1) 1 (.inr rfl) _).set (GA + 1) 2 (.inr rfl) _
        have L2r : RowRd W2 w.heap.size GA ⟨r, plusL a.u (timesL s b.u), plusL a.v (timesL s b.v)⟩ Ar A6 A8 cr c6 c8 := by rw [hW2]; exact ((L1r.set (GA + 1) 0 (.inr rfl) _).set (GA + 1) 1 (.inr rfl) _).set (GA + 1) 2 (.inr rfl) _
        have BA10 : Blk W2 GA 127 #[.slice Bg b.g.length dg', .slice Bu b.u.length du, .slice Bv b.v.length dv] := by rw [hW2]; exact BA9.far3 (by omega) _ _ _
        have BB10 : Blk W2 (GA + 1) 127 #[.slice Ar r.length cr, .slice A6 (plusL a.u (timesL s b.u)).length c6, .slice A8 (plusL a.v (timesL s b.v)).length c8] := by rw [hW2]; exact BB9.set3 _ _ _
        have XW2 : Ext w W2 := by rw [hW2]; exact ext3 XW.out (by have := HII.out.hGA; omega) _ _ _
        have hmeas : lenAt W2 (GA + 1) < lenAt wr (GA + 1) := by
          have e1 : W2.cell? ⟨GA + 1, 0, none⟩ = some (.slice Ar r.length cr) := BB10.cell 0
          have e2 : wr.cell? ⟨GA + 1, 0, none⟩ = some (.slice Bg b.g.length dg') := HII.out.bb.cell 0
          simp only [lenAt, e1, e2]
          omega
        have hPI : PI p q k n m w W2 GA (N + 1) b ⟨r, plusL a.u (timesL s b.u), plusL a.v (timesL s b.v)⟩ Bg Bu Bv Ar A6 A8 dg' du dv cr c6 c8 := by
          refine ⟨XW2, HII.out.hGA, BB10.lt, HII.out.rb, ⟨a, b, s, HII.out.ra, HII.out.rb, HD.out, rfl, rfl⟩, fun j hj x hx => ?_, BA10, BB10, L2b, L2r, ?_, ?_, ?_, ?_, ?_, ?_⟩
          · rcases Nat.lt_or_ge j N with h | h
            · exact HII.out.before j h x hx
            · obtain rfl : j = N := by omega
              rw [RowN.uniq j x a hx HII.out.ra]; exact hgo
          · show N + 1 + r.length ≤ m; omega
          · omega
          · omega
          · show (plusL a.u (timesL s b.u)).length ≤ _; omega
          · omega
          · show (plusL a.v (timesL s b.v)).length ≤ _; omega
        have HPI := Lib.hid hPI
        clear hPI L8b L8r L1b L1r L2b L2r BA10 BB10 BA8 BB8 BA9 BB9 XW2 hW1 hW2
        go_wp2_with fail
        go_simp
        exact ⟨N + 1, b, ⟨r, plusL a.u (timesL s b.u), plusL a.v (timesL s b.v)⟩, Bg, Bu, Bv, Ar, A6, A8, dg', du, dv, cr, c6, c8, HPI.out⟩
    · have hd1 : decide ((k : Int) ≤ (a.g.length : Int) - 1) = false := decide_eq_false (by omega)
      have HBK := Lib.hid hI.ba
      have HRR := Lib.hid hI.la
      have HXW := Lib.hid hI.ext
      have HPR : Hid (PartRes p q k a) := Lib.hid ⟨N, hI.ra, by omega, hI.before⟩
      have hul : a.u.length ≤ 40000000000000 := by have := hI.su.1; have := hI.sz; omega
      have hvl : a.v.length ≤ 40000000000000 := by have := hI.su.2.2.1; have := hI.sz; omega
      have hgl : a.g.length ≤ 8000000 := by omega
      clear hI
      go_wp2_with fail
      refine wp_region_mix (fun i => [0, 0, 0, 0, 1, 0, 0, 1, 0, 0, 0, 0].getD i 0) (fun w' => Ext wr w') hmo (by kernel_rfl) (by kernel_rfl) ((Ext.refl _).drewN 1) ?_
      have g0 : ∀ w', Ext wr w' → w'.cell? ⟨GA, 0, none⟩ = some (.slice Ag a.g.length cg) := fun w' h => (HBK.out.below h HBK.out.lt).cell 0
      have g1 : ∀ w', Ext wr w' → w'.cell? ⟨GA, 1, none⟩ = some (.slice Au a.u.length cu) := fun w' h => (HBK.out.below h HBK.out.lt).cell 1
      have g2 : ∀ w', Ext wr w' → w'.cell? ⟨GA, 2, none⟩ = some (.slice Av a.v.length cv) := fun w' h => (HBK.out.below h HBK.out.lt).cell 2
      have xd : Ext wr wr.drew := (Ext.refl _).drewN 1
      refine mix_still (.pointer (some ⟨GA, 0, none⟩)) rfl (fun w' hw' => by go_simp) ?_
      refine mix_still (.slice Ag a.g.length cg) rfl (fun w' hw' => by have := g0 w' hw'; go_simp) ?_
      refine mix_still (.pointer (some ⟨GA, 1, none⟩)) rfl (fun w' hw' => by go_simp) ?_
      refine mix_still (.slice Au a.u.length cu) rfl (fun w' hw' => by have := g1 w' hw'; go_simp) ?_
      refine mix_call 87 #[.slice Au a.u.length cu] rfl (by go_simp) ?_
      refine (clone_n Au _ a.u cu _ rfl (HRR.out.u.ext xd) (by omega)).mono ?_
      rintro e w4 ⟨vu, rfl, hou, hx4⟩
      have x4 := xd.trans hx4
      refine ⟨vu, rfl, x4, ?_⟩
      refine mix_still (.pointer (some ⟨GA, 2, none⟩)) rfl (fun w' hw' => by go_simp) ?_
      refine mix_still (.slice Av a.v.length cv) rfl (fun w' hw' => by have := g2 w' hw'; go_simp) ?_
      refine mix_call 87 #[.slice Av a.v.length cv] rfl (by go_simp) ?_
      refine (clone_n Av _ a.v cv _ rfl (HRR.out.v.ext x4) (by omega)).mono ?_
      rintro e w5 ⟨vv, rfl, hov, hx5⟩
      have x5 := x4.trans hx5
      refine ⟨vv, rfl, x5, ?_⟩
      refine mix_still (.slice Ag a.g.length cg) rfl (fun w' hw' => by go_simp) ?_
      refine mix_still vu rfl (fun w' hw' => by go_simp) ?_
      refine mix_still vv rfl (fun w' hw' => by go_simp) ?_
      refine mix_still (.int .i64 0) rfl (fun w' hw' => by go_simp) ?_
      refine mix_nil ?_
      go_wp2
      (try simp only [Exit.inBlock, Exit.then]); refine bodyPost_ret (results_tmp4 rfl _ _ _) rfl ?_
      have hext := HXW.out
      refine ⟨.slice Ag a.g.length cg, vu, vv, a, ?_, HPR.out, (HRR.out.ext x5).g, ?_, hov.mono (hext.trans x4).le, hext.trans x5, hul, hvl, hgl, wr.heap.size, w4.heap.size, x4.le, fun g hg => (HRR.out.g.lt g hg).2, fun g hg => hou.lt g hg, fun g hg => (hov.lt g hg).1⟩
      · first | (with_reducible rfl) | (simp; done) | go_simp
      exact (hou.mono (hext.trans xd).le).ext hx5
theorem polyPartial_n (A C : Option Addr) (n m ca cb : Nat) (p q : List E) (k : Nat) (w : World) (hn : p.length = n) (hm : q.length = m) (hr : Rd w A (bs p)) (hs : Rd w C (bs q)) (hlen : n ≤ 4000000) (hlenq : m ≤ 4000000) (hca : n ≤ ca) (hcb : m ≤ cb) (hk : (Lit.int .i64 (k : Int)).wf = true) :
    Calls Try.prog 52 #[.slice A n ca, .slice C m cb, .int .i64 k] w fun e w' => ∃ vg vu vv r, e = .returned (.tuple #[vg, vu, vv, .int .i64 0]) ∧ PartRes p q k r ∧
      Own w' w.heap.size 34 vg (bs r.g) ∧ Own w' w.heap.size 34 vu (bs r.u) ∧ Own w' w.heap.size 34 vv (bs r.v) ∧ Ext w w' ∧ r.u.length ≤ 40000000000000 ∧ r.v.length ≤ 40000000000000 ∧ r.g.length ≤ 8000000 :=
  (polyPartial_far A C n m ca cb p q k w hn hm hr hs hlen hlenq hca hcb hk).mono fun e w' ⟨vg, vu, vv, r, h1, h2, h3, h4, h5, h6, h7, h8, h9, _⟩ => ⟨vg, vu, vv, r, h1, h2, h3, h4, h5, h6, h7, h8, h9⟩
end Go.Proofs.Ytemnlcfabaocbaa
