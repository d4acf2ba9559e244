/-
  The walks of the document's answer for chapter 2: Euclid's row.
-/
import Derived.Test.YtemnlcfabaocbaaRef6
namespace Go.Proofs.Ytemnlcfabaocbaa
open Go.RowKit Gf
set_option maxRecDepth 20000
set_option linter.unusedVariables false
@[go_sem] theorem buildRow01 (A C : Option Addr) (n m c d : Nat) (w : World) : (Instr.build 125 #[(0, .slice A n c), (1, .slice C m d)]).run Try.prog w = .ok (.agg #[.slice A n c, .slice C m d, .slice none 0 0]) w := run_build w _ _ _ (by kernel_rfl)
@[go_sem] theorem buildRow02 (A C : Option Addr) (n m c d : Nat) (w : World) : (Instr.build 125 #[(0, .slice A n c), (2, .slice C m d)]).run Try.prog w = .ok (.agg #[.slice A n c, .slice none 0 0, .slice C m d]) w := run_build w _ _ _ (by kernel_rfl)
@[go_sem] theorem buildRow3 (A C D : Option Addr) (n m l c d f : Nat) (w : World) : (Instr.build 125 #[(0, .slice A n c), (1, .slice C m d), (2, .slice D l f)]).run Try.prog w = .ok (.agg #[.slice A n c, .slice C m d, .slice D l f]) w := run_build w _ _ _ (by kernel_rfl)
theorem RI.start {p q : List E} {w w1 w2 : World} {A1 A2 : Option Addr} {c1 c2 : Nat} {T : TypeId} (hx1 : Ext w w1) (hr1 : Rd w1 A1 (bs (trim p))) (hb1 : ∀ ad, A1 = some ad → w.heap.size ≤ ad.block ∧ ad.block < w1.heap.size)
    (hx2 : Ext (w1.alloc (.cells #[.int .u8 1] T)) w2) (hr2 : Rd w2 A2 (bs (trim q))) (hb2 : ∀ ad, A2 = some ad → (w1.alloc (.cells #[.int .u8 1] T)).heap.size ≤ ad.block ∧ ad.block < w2.heap.size) :
    ∃ xs, RI p q w ((w2.alloc (.cells #[.int .u8 1] T)).alloc (.cells #[.slice A1 (trim p).length c1, .slice (some ⟨w1.heap.size, 0, none⟩) 1 1, .slice none 0 0, .slice A2 (trim q).length c2, .slice none 0 0, .slice (some ⟨w2.heap.size, 0, none⟩) 1 1] 125)) 0 (w2.heap.size + 1) 2 xs := by
  have l1 := hx1.le
  have l2 := hx2.le
  rw [World.size_alloc] at l2
  obtain ⟨w3, hw3⟩ : ∃ w3, w3 = (w2.alloc (.cells #[.int .u8 1] T)).alloc (.cells #[.slice A1 (trim p).length c1, .slice (some ⟨w1.heap.size, 0, none⟩) 1 1, .slice none 0 0, .slice A2 (trim q).length c2, .slice none 0 0, .slice (some ⟨w2.heap.size, 0, none⟩) 1 1] 125) := ⟨_, rfl⟩
  have hh : w3.heap[w2.heap.size + 1]? = some (.cells #[.slice A1 (trim p).length c1, .slice (some ⟨w1.heap.size, 0, none⟩) 1 1, .slice none 0 0, .slice A2 (trim q).length c2, .slice none 0 0, .slice (some ⟨w2.heap.size, 0, none⟩) 1 1] 125) := by
    have := heap_alloc_new (w2.alloc (.cells #[.int .u8 1] T)) (.cells #[.slice A1 (trim p).length c1, .slice (some ⟨w1.heap.size, 0, none⟩) 1 1, .slice none 0 0, .slice A2 (trim q).length c2, .slice none 0 0, .slice (some ⟨w2.heap.size, 0, none⟩) 1 1] 125)
    rw [World.size_alloc] at this
    rw [hw3]; exact this
  have x3 : Ext w2 w3 := by rw [hw3]; exact ((Ext.refl w2).alloc _).alloc _
  have x1 : Ext w1 w3 := (((Ext.refl w1).alloc _).trans hx2).trans x3
  have k1 : Rd w3 (some ⟨w1.heap.size, 0, none⟩) (bs [1]) := ((rd_new (w := w1) (.int .u8 1) T).ext hx2).ext x3
  have k2 : Rd w3 (some ⟨w2.heap.size, 0, none⟩) (bs [1]) := by
    have := (rd_new (w := w2) (.int .u8 1) T).ext ((Ext.refl _).alloc (.cells #[.slice A1 (trim p).length c1, .slice (some ⟨w1.heap.size, 0, none⟩) 1 1, .slice none 0 0, .slice A2 (trim q).length c2, .slice none 0 0, .slice (some ⟨w2.heap.size, 0, none⟩) 1 1] 125))
    rw [hw3]; exact this
  have hs3 : w3.heap.size = w2.heap.size + 2 := by rw [hw3]; simp
  rw [← hw3]
  refine ⟨_, hx1.trans x1, ⟨by omega, ⟨_, hh, rfl, rfl⟩, rfl, Nat.le_refl _, by decide⟩, ?_⟩
  intro i hi
  have nf : ∀ {A : Option Addr} {xs : List E}, Rd w3 A (bs xs) → (∀ ad, A = some ad → ad.block < w2.heap.size + 1) → RdF w3 (w2.heap.size + 1) A xs := fun h1 h2 => ⟨h1, fun ad e => ⟨by have := h2 ad e; omega, by have := h2 ad e; omega⟩⟩
  have n0 : RdF w3 (w2.heap.size + 1) none [] := nf (Rd.nil _ _) fun ad e => by cases e
  rcases (show i = 0 ∨ i = 1 by omega) with rfl | rfl
  · exact ⟨⟨trim p, [1], []⟩, rfl, A1, some ⟨w1.heap.size, 0, none⟩, none, c1, 1, 0, rfl, rfl, rfl, nf (hr1.ext x1) (fun ad e => by have := (hb1 ad e).2; omega), nf k1 (fun ad e => by injection e with e; subst e; show w1.heap.size < _; omega), n0⟩
  · exact ⟨⟨trim q, [], [1]⟩, rfl, A2, none, some ⟨w2.heap.size, 0, none⟩, c2, 0, 1, rfl, rfl, rfl, nf (hr2.ext x3) (fun ad e => by have := (hb2 ad e).2; omega), n0, nf k2 (fun ad e => by injection e with e; subst e; show w2.heap.size < _; omega)⟩
set_option maxHeartbeats 4000000 in
theorem refRows_n (A C : Option Addr) (n m ca cb : Nat) (p q : List E) (w : World) (hn : p.length = n) (hm : q.length = m) (hr : Rd w A (bs p)) (hs : Rd w C (bs q)) (hlen : n ≤ 4000000) (hlenq : m ≤ 4000000) :
    Calls Try.prog 97 #[.slice A n ca, .slice C m cb] w fun e w' => ∃ N g cap xs r, e = .returned (.slice (some ⟨g, 0, none⟩) (N + 2) cap) ∧ RI p q w w' N g cap xs ∧ RowN p q (N + 1) r ∧ r.g = [] := by
  have HN := Lib.hid hn
  have HM := Lib.hid hm
  clear hn hm
  go_enter Try.func97, Try.ntmps97
  go_wp2_with fail
  refine (refTrim_n A n p ca _ HN.out hr (by omega)).mono ?_
  rintro e w1 ⟨v1, rfl, ho1, hx1⟩
  obtain ⟨A1, c1, rfl, hr1, hc1, hm1, hb1⟩ := ho1.slice
  rw [bs_length]
  clear ho1
  go_wp2_with fail
  refine (refTrim_n C m q cb _ HM.out ((hs.ext hx1).alloc _) (by omega)).mono ?_
  rintro e w2 ⟨v2, rfl, ho2, hx2⟩
  obtain ⟨A2, c2, rfl, hr2, hc2, hm2, hb2⟩ := ho2.slice
  rw [bs_length]
  clear ho2
  go_wp2_with fail
  go_loopw [5] (fun v wr => ∃ N g cap xs, v = .slice (some ⟨g, 0, none⟩) (N + 2) cap ∧ RI p q w wr N g cap xs) (fun v _ => m + 3 - vlen v)
  case atStart =>
    obtain ⟨xs, hst⟩ := RI.start (c1 := c1) (c2 := c2) hx1 hr1 hb1 hx2 hr2 hb2
    exact ⟨0, w2.heap.size + 1, 2, xs, by simp, hst⟩
  case round =>
    obtain ⟨N, g, cap, xs, rfl, hI⟩ := hrel
    obtain ⟨a, ha, Ag, Au, Av, cg, cu, cv, ja0, ja1, ja2, ja3, ja4, ja5⟩ := hI.rows N (by omega)
    obtain ⟨b, hb, Bg, Bu, Bv, dg', du, dv, jb0, jb1, jb2, jb3, jb4, jb5⟩ := hI.rows (N + 1) (by omega)
    have hNm := RowN.len N b hb
    rw [HM.out] at hNm
    have c0 := hI.own.cell ja0
    have c1' := hI.own.cell ja1
    have c2' := hI.own.cell ja2
    have d0 := hI.own.cell jb0
    have d1 := hI.own.cell jb1
    have d2 := hI.own.cell jb2
    have HI := Lib.hid hI
    have HA := Lib.hid ha
    have HB := Lib.hid hb
    clear hr1 hc1 hm1 hb1 hr2 hc2 hm2 hb2 hx1 hx2 hr hs ja0 ja1 ja2 jb0 jb1 jb2 hI ha hb
    by_cases hz : b.g.length = 0
    · rw [hz] at d0
      go_wp2_with fail
      go_ret
      exact ⟨N, g, cap, xs, b, rfl, HI.out, HB.out, List.length_eq_zero_iff.1 hz⟩
    · obtain ⟨oA, hoA⟩ : ∃ o, o = Obj.cells #[Value.slice Ag a.g.length cg, Value.slice Au a.u.length cu, Value.slice Av a.v.length cv] 125 := ⟨_, rfl⟩
      obtain ⟨oB, hoB⟩ : ∃ o, o = Obj.cells #[Value.slice Bg b.g.length dg', Value.slice Bu b.u.length du, Value.slice Bv b.v.length dv] 125 := ⟨_, rfl⟩
      have hgl := HI.out.own.lt
      have al : ∀ j u, wr.cell? ⟨g, j, none⟩ = some u → (wr.alloc oA).cell? ⟨g, j, none⟩ = some u := fun j u h => by rw [World.cell?_alloc_lt wr oA ⟨g, j, none⟩ hgl]; exact h
      have e0 := al _ _ d0
      have e1 := al _ _ d1
      have e2 := al _ _ d2
      have hBA : Blk ((wr.alloc oA).alloc oB) wr.heap.size 125 #[Value.slice Ag a.g.length cg, Value.slice Au a.u.length cu, Value.slice Av a.v.length cv] := by rw [hoA]; exact ((Blk.new wr _ _).alloc _)
      have hBB : Blk ((wr.alloc oA).alloc oB) (wr.heap.size + 1) 125 #[Value.slice Bg b.g.length dg', Value.slice Bu b.u.length du, Value.slice Bv b.v.length dv] := by
        have := Blk.new (wr.alloc oA) 125 #[Value.slice Bg b.g.length dg', Value.slice Bu b.u.length du, Value.slice Bv b.v.length dv]
        rw [hoB]; simpa using this
      have hxW : Ext wr ((wr.alloc oA).alloc oB) := ((Ext.refl _).alloc _).alloc _
      have f0 := hBA.cell 0
      have f1 := hBB.cell 0
      rw [hoA] at e0 e1 e2
      rw [hoA, hoB] at f0 f1
      clear al
      have hdb : dg b.g = b.g.length := (RowN.tr _ _ HB.out).dg
      have hdp : 0 < dg b.g := by rw [hdb]; omega
      have hlb := Nat.le_trans (RowN.lg _ _ HB.out) (by rw [HN.out, HM.out]; omega : p.length + q.length ≤ 8000000)
      have hla := Nat.le_trans (RowN.lg _ _ HA.out) (by rw [HN.out, HM.out]; omega : p.length + q.length ≤ 8000000)
      go_wp2_with fail
      rw [← hoA, ← hoB]
      generalize (wr.alloc oA).alloc oB = W2 at hBA hBB hxW
      clear f0 f1 e0 e1 e2 hoA hoB
      refine (refDivide_all Ag Bg _ _ cg dg' a.g b.g _ rfl rfl (ja3.1.ext hxW) (jb3.1.ext hxW) (by omega) (by omega)).mono ?_
      rintro e w3 ⟨vs, vr, s, r, k, rfl, hd, hos, hor, hx3⟩
      obtain ⟨hD, rfl⟩ : DivOK a.g b.g s r ∧ k = 0 := by
        rcases hd with ⟨h0, _⟩ | ⟨_, h, e⟩
        · omega
        · exact ⟨h, e⟩
      have HD := Lib.hid hD
      have hls := hD.ls
      have hlr := hD.lt
      clear hd hD
      have y3 := hxW.trans hx3
      have BA3 := hBA.below hx3 hBA.lt
      have BB3 := hBB.below hx3 hBB.lt
      have hgW : g < W2.heap.size := Nat.lt_of_lt_of_le hgl hxW.le
      obtain ⟨As, cs, rfl, hrs, hcs, hms⟩ := hos.rdF hgW rfl
      obtain ⟨Ar, cr, rfl, hrr, hcr, hmr⟩ := hor.rdF hgW rfl
      clear hos hor hBA hBB hxW hx3
      have hmo : Try.prog.follows Departure.mixedOrders = true := by kernel_rfl
      have hgl3 : g < w3.heap.size := Nat.lt_of_lt_of_le hgl y3.le
      go_wp2_with fail
      refine wp_region_mix (fun i => [0, 0, 0, 0, 0, 0, 0, 1, 1, 0, 0, 0, 0, 0, 1, 1, 1, 1, 2, 3].getD i 0) (fun w' => Ext w3 w') hmo (by kernel_rfl) (by kernel_rfl) ((Ext.refl _).drewN 1) ?_
      have xd : Ext w3 w3.drew := (Ext.refl _).drewN 1
      have a1 : ∀ w', Ext w3 w' → w'.cell? ⟨wr.heap.size, 1, none⟩ = some (.slice Au a.u.length cu) := fun w' h => (BA3.below h BA3.lt).cell 1
      have a2 : ∀ w', Ext w3 w' → w'.cell? ⟨wr.heap.size, 2, none⟩ = some (.slice Av a.v.length cv) := fun w' h => (BA3.below h BA3.lt).cell 2
      have b1 : ∀ w', Ext w3 w' → w'.cell? ⟨wr.heap.size + 1, 1, none⟩ = some (.slice Bu b.u.length du) := fun w' h => (BB3.below h BB3.lt).cell 1
      have b2 : ∀ w', Ext w3 w' → w'.cell? ⟨wr.heap.size + 1, 2, none⟩ = some (.slice Bv b.v.length dv) := fun w' h => (BB3.below h BB3.lt).cell 2
      obtain ⟨lu, lv⟩ := (RowN.luv (p := p) (q := q) N).1 _ HA.out
      obtain ⟨ku, kv⟩ := (RowN.luv (p := p) (q := q) N).2 _ HB.out
      have hNK : (N + 2) * (p.length + q.length + 1) ≤ 40000000000000 := by
        rw [HN.out, HM.out]
        exact Nat.le_trans (Nat.mul_le_mul (show N + 2 ≤ 4000002 by omega) (show n + m + 1 ≤ 8000001 by omega)) (by omega)
      have hNK1 : (N + 1) * (p.length + q.length + 1) ≤ (N + 2) * (p.length + q.length + 1) := Nat.mul_le_mul_right _ (by omega)
      have l1 : a.u.length ≤ 40000000000000 := by omega
      have l2 : a.v.length ≤ 40000000000000 := by omega
      have l3 : b.u.length ≤ 40000000000000 := by omega
      have l4 : b.v.length ≤ 40000000000000 := by omega
      clear lu lv ku kv hNK hNK1
      refine mix_still (.slice (some ⟨g, 0, none⟩) (N + 2) cap) rfl (fun w' hw' => by go_simp) ?_
      refine mix_still (.slice Ar r.length cr) rfl (fun w' hw' => by go_simp) ?_
      refine mix_still (.pointer (some ⟨wr.heap.size, 1, none⟩)) rfl (fun w' hw' => by go_simp) ?_
      refine mix_still (.slice Au a.u.length cu) rfl (fun w' hw' => by have := a1 w' hw'; go_simp) ?_
      refine mix_still (.slice As s.length cs) rfl (fun w' hw' => by go_simp) ?_
      refine mix_still (.pointer (some ⟨wr.heap.size + 1, 1, none⟩)) rfl (fun w' hw' => by go_simp) ?_
      refine mix_still (.slice Bu b.u.length du) rfl (fun w' hw' => by have := b1 w' hw'; go_simp) ?_
      refine mix_call 37 #[.slice As s.length cs, .slice Bu b.u.length du] rfl (by go_simp) ?_
      refine (refTimes_n As Bu _ _ cs du s b.u _ rfl rfl (hrs.1.ext xd) (jb4.1.ext (y3.trans xd)) (by omega)).mono ?_
      rintro e w4 ⟨v, rfl, ho, hx4⟩
      have x4 := xd.trans hx4
      obtain ⟨A4, c4, rfl, hr4, -, -⟩ := ho.rdF (g := g) hgl3 rfl
      clear ho
      have m4 := timesL_le s b.u
      refine ⟨_, rfl, x4, ?_⟩
      refine mix_call 36 #[.slice Au a.u.length cu, .slice A4 (timesL s b.u).length c4] rfl (by go_simp) ?_
      refine (refPlus_n Au A4 _ _ a.u (timesL s b.u) cu c4 _ rfl rfl (ja4.1.ext (y3.trans x4)) hr4.1 (by omega) (by omega)).mono ?_
      rintro e w5 ⟨v, rfl, ho, hx5⟩
      have x5 := x4.trans hx5
      obtain ⟨A5, c5, rfl, hr5, -, -⟩ := ho.rdF (g := g) (Nat.lt_of_lt_of_le hgl3 x4.le) rfl
      clear ho hr4
      refine ⟨_, rfl, x5, ?_⟩
      refine mix_still (.pointer (some ⟨wr.heap.size, 2, none⟩)) rfl (fun w' hw' => by go_simp) ?_
      refine mix_still (.slice Av a.v.length cv) rfl (fun w' hw' => by have := a2 w' hw'; go_simp) ?_
      refine mix_still (.slice As s.length cs) rfl (fun w' hw' => by go_simp) ?_
      refine mix_still (.pointer (some ⟨wr.heap.size + 1, 2, none⟩)) rfl (fun w' hw' => by go_simp) ?_
      refine mix_still (.slice Bv b.v.length dv) rfl (fun w' hw' => by have := b2 w' hw'; go_simp) ?_
      refine mix_call 37 #[.slice As s.length cs, .slice Bv b.v.length dv] rfl (by go_simp) ?_
      refine (refTimes_n As Bv _ _ cs dv s b.v _ rfl rfl (hrs.1.ext x5) (jb5.1.ext (y3.trans x5)) (by omega)).mono ?_
      rintro e w6 ⟨v, rfl, ho, hx6⟩
      have x6 := x5.trans hx6
      obtain ⟨A6, c6, rfl, hr6, -, -⟩ := ho.rdF (g := g) (Nat.lt_of_lt_of_le hgl3 x5.le) rfl
      clear ho
      have m6 := timesL_le s b.v
      refine ⟨_, rfl, x6, ?_⟩
      refine mix_call 36 #[.slice Av a.v.length cv, .slice A6 (timesL s b.v).length c6] rfl (by go_simp) ?_
      refine (refPlus_n Av A6 _ _ a.v (timesL s b.v) cv c6 _ rfl rfl (ja5.1.ext (y3.trans x6)) hr6.1 (by omega) (by omega)).mono ?_
      rintro e w7 ⟨v, rfl, ho, hx7⟩
      have x7 := x6.trans hx7
      obtain ⟨A7, c7, rfl, hr7, -, -⟩ := ho.rdF (g := g) (Nat.lt_of_lt_of_le hgl3 x6.le) rfl
      clear ho hr6
      refine ⟨_, rfl, x7, ?_⟩
      refine mix_laid (.agg #[.slice Ar r.length cr, .slice A5 (plusL a.u (timesL s b.u)).length c5, .slice A7 (plusL a.v (timesL s b.v)).length c7]) w7 rfl (by go_simp) x7 ?_
      refine mix_laid (.slice (some ⟨w7.heap.size, 0, none⟩) 1 1) (w7.alloc (.cells #[.slice Ar r.length cr, .slice A5 (plusL a.u (timesL s b.u)).length c5, .slice A7 (plusL a.v (timesL s b.v)).length c7] 125)) rfl (by go_simp) (x7.alloc _) ?_
      have hown7 : OwnR (w7.alloc (.cells #[.slice Ar r.length cr, .slice A5 (plusL a.u (timesL s b.u)).length c5, .slice A7 (plusL a.v (timesL s b.v)).length c7] 125)) w.heap.size 125 3 g (N + 2) cap xs := HI.out.own.below (y3.trans (x7.alloc _))
      have hW7 : w.heap.size ≤ (w7.alloc (.cells #[.slice Ar r.length cr, .slice A5 (plusL a.u (timesL s b.u)).length c5, .slice A7 (plusL a.v (timesL s b.v)).length c7] 125)).heap.size := Nat.le_trans HI.out.ext.le (Nat.le_trans y3.le (x7.alloc _).le)
      have hx8 : Ext wr (w7.alloc (.cells #[.slice Ar r.length cr, .slice A5 (plusL a.u (timesL s b.u)).length c5, .slice A7 (plusL a.v (timesL s b.v)).length c7] 125)) := y3.trans (x7.alloc _)
      have hr8 := ((hrr.mono x7).mono ((Ext.refl w7).alloc (.cells #[.slice Ar r.length cr, .slice A5 (plusL a.u (timesL s b.u)).length c5, .slice A7 (plusL a.v (timesL s b.v)).length c7] 125)))
      have hr58 := (((hr5.mono hx6).mono hx7).mono ((Ext.refl w7).alloc (.cells #[.slice Ar r.length cr, .slice A5 (plusL a.u (timesL s b.u)).length c5, .slice A7 (plusL a.v (timesL s b.v)).length c7] 125)))
      have hr78 := hr7.mono ((Ext.refl w7).alloc (.cells #[.slice Ar r.length cr, .slice A5 (plusL a.u (timesL s b.u)).length c5, .slice A7 (plusL a.v (timesL s b.v)).length c7] 125))
      obtain ⟨g', cap', w9, hrun, hO9, hM9⟩ := run_appRow _ 122 w.heap.size g (N + 2) cap xs hown7 w7.heap.size 1 _ _ _ (heap_alloc_new w7 _) ⟨rfl, rfl, rfl⟩ (by omega) hW7
      generalize w7.alloc (.cells #[.slice Ar r.length cr, .slice A5 (plusL a.u (timesL s b.u)).length c5, .slice A7 (plusL a.v (timesL s b.v)).length c7] 125) = W8 at hown7 hW7 hx8 hr8 hr58 hr78 hrun hM9 ⊢
      refine mix_last (.slice (some ⟨g', 0, none⟩) (N + 2 + 1) cap') w9 rfl (append_run (s := .tmp 50) (x := .tmp 67) (t := 122) rfl (by go_simp) (by go_simp) hrun) ?_
      have hI9 : RI p q w w9 (N + 1) g' cap' (xs ++ [.slice Ar r.length cr, .slice A5 (plusL a.u (timesL s b.u)).length c5, .slice A7 (plusL a.v (timesL s b.v)).length c7]) := by
        refine ⟨?_, hO9, ?_⟩
        · have h1 := HI.out.ext.trans hx8
          rcases hM9 with ⟨_, hg⟩ | ⟨_, hg⟩
          · exact Below.grown h1 hg hW7 (fun g0 e => by cases e; exact HI.out.own.hB)
          · exact Below.grown h1 hg hW7 (fun g0 e => by cases e)
        · intro j hj
          by_cases hj2 : j < N + 2
          · obtain ⟨r', hr', hat⟩ := HI.out.rows j hj2
            exact ⟨r', hr', (hat.mono hx8).moved hM9 _⟩
          · obtain rfl : j = N + 2 := by omega
            have hl := HI.out.own.len
            refine ⟨⟨r, plusL a.u (timesL s b.u), plusL a.v (timesL s b.v)⟩, ⟨a, b, s, HA.out, HB.out, HD.out, rfl, rfl⟩, Ar, A5, A7, cr, c5, c7, ?_, ?_, ?_, hr8.moved hM9, hr58.moved hM9, hr78.moved hM9⟩
            · rw [List.getElem?_append_right (by omega), hl]; simp
            · rw [List.getElem?_append_right (by omega), hl]; simp
            · rw [List.getElem?_append_right (by omega), hl]; simp
      have HI9 := Lib.hid hI9
      clear hI9 hM9 hO9 hr8 hr58 hr78 hx8 hW7 hown7 hrun
      refine mix_pure (.slice (some ⟨g', 0, none⟩) (N + 2 + 1) cap') rfl (fun w' => by go_simp) ?_
      refine mix_nil ?_
      go_wp2_with fail
      go_simp
      go_roundw
      case rel => exact ⟨N + 1, g', cap', ⟨rfl, rfl, rfl⟩, _, HI9.out⟩
      case measure => simp [vlen]; omega
end Go.Proofs.Ytemnlcfabaocbaa
