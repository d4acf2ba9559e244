/-
  The walks of layer 2: a polynomial's value.
-/
import Derived.Test.YtemnlcfabaocbaaBack
namespace Go.Proofs.Ytemnlcfabaocbaa
open Go.RowKit Go.Shelf Gf
set_option maxRecDepth 100000
set_option linter.unusedVariables false
attribute [local go_sem] Oper.semAt_some

def horner (x : E) (ys : List (Nat × E)) : E := ys.foldl (fun v y => v * x + y.2) 0
theorem horner_snoc (x : E) (ys : List (Nat × E)) (y : Nat × E) : horner x (ys ++ [y]) = horner x ys * x + y.2 := by simp [horner]
theorem horner_back (p : List E) (x : E) {k : Nat} {ys : List (Nat × E)} (hk : k ≤ p.length) (h : Back p.length (fun i z => p[i]? = some z) k ys) : horner x ys = evL (p.drop (p.length - k)) x := by
  induction k generalizing ys with
  | zero =>
    have : ys = [] := List.length_eq_zero_iff.1 h.1
    subst this
    rw [Nat.sub_zero, List.drop_length]; rfl
  | succ k ih =>
    obtain ⟨z, hz, ho⟩ := h.2 k (by omega)
    have hl := h.1
    have e : ys = ys.take k ++ [(p.length - 1 - k, z)] := by
      have h2 : k < ys.length := by omega
      have h3 := List.take_succ_eq_append_getElem h2
      rw [List.take_of_length_le (by omega)] at h3
      have h4 : ys[k] = (p.length - 1 - k, z) := by
        rw [List.getElem?_eq_getElem h2] at hz
        exact Option.some.inj hz
      rw [h4] at h3
      exact h3
    have ht : Back p.length (fun i z => p[i]? = some z) k (ys.take k) := by
      refine ⟨by rw [List.length_take]; omega, fun j hj => ?_⟩
      obtain ⟨z', hz', ho'⟩ := h.2 j (by omega)
      exact ⟨z', by rw [List.getElem?_take_of_lt hj]; exact hz', ho'⟩
    rw [e, horner_snoc, ih (by omega) ht]
    have hd : p.length - (k + 1) < p.length := by omega
    have hd2 : p.length - (k + 1) + 1 = p.length - k := by omega
    have hd3 : p.length - 1 - k = p.length - (k + 1) := by omega
    rw [evL_drop p x _ hd, hd2]
    rw [hd3, List.getElem?_eq_getElem hd] at ho
    rw [Option.some.inj ho, E.mul_comm, E.add_comm]

set_option maxHeartbeats 4000000 in
theorem polyAt_n (A : Option Addr) (n cap : Nat) (p : List E) (x : E) (w : World) (hn : p.length = n) (hr : Rd w A (bs p)) (hlen : n ≤ maxLen) :
    Calls Try.prog 35 #[.slice A n cap, .int .u8 (x.val : Int)] w fun e w' => e = .returned (.int .u8 ((evL p x).val : Int)) ∧ Ext w w' := by
  obtain ⟨N, hN⟩ : ∃ N : Nat, 3 ≤ N := ⟨3, by decide⟩
  have h1 : 1 ≤ N := by omega
  have h3 : 1 ≤ N - 1 - 1 := by omega
  refine (callsIn_wide (n := N)).1 ?_
  obtain ⟨F, hF⟩ : ∃ F : Fence, F = Fence.wide := ⟨_, rfl⟩
  have hro : F.round = none := by rw [hF]; rfl
  have hfn : ∀ f, F.fn f := fun f => by rw [hF]; trivial
  have hci : ∀ {f : FuncId} {args : Array Value} {w : World} {R : Ending → World → Prop} (n l : Nat), Calls Try.prog f args w R → CallsIn (F.inRound l) n Try.prog f args w R := fun n l h => CallsIn.inRound l (by rw [hF]; exact callsIn_wide.2 h)
  rw [← hF]
  clear hF
  refine callsIn_of_wp_marks Try.func35 rfl (hfn _) ?_ hro
  simp only [Try.ntmps35, List.size_toArray, List.length_cons, List.length_nil, Nat.reduceAdd, Nat.reduceSub, Array.replicate_succ, Array.replicate_zero, List.push_toArray, List.append_toArray, List.nil_append, List.cons_append]
  have hx := x.lt
  gi_wp2_with (gi_at_call 88; refine (back_in F (N - 1) (hfn _) hro _ _ _ _).mono ?_; rintro e w' ⟨rfl, rfl⟩)
  have bX := Boxed.new w 34 (.int .u8 (x.val : Int))
  have bV := Boxed.new (w.alloc (.cells #[.int .u8 (x.val : Int)] 34)) 34 (.int .u8 0)
  have bN := Boxed.new ((w.alloc (.cells #[.int .u8 (x.val : Int)] 34)).alloc (.cells #[.int .u8 0] 34)) 26 (.slice A n cap)
  rw [World.size_alloc, World.size_alloc] at bN
  rw [World.size_alloc] at bV
  have hB0 : Ext w (((w.alloc (.cells #[.int .u8 (x.val : Int)] 34)).alloc (.cells #[.int .u8 0] 34)).alloc (.cells #[.slice A n cap] 26)) := (((Ext.refl w).alloc _).alloc _).alloc _
  have hA : ∀ k, k < n → ∃ ad, A = some ad ∧ ad.block < w.heap.size := fun k hk => hr.lt (by rw [bs_length]; omega)
  have hseen : ∀ W, Ext w W → W.cell? ⟨w.heap.size + 1 + 1, 0, none⟩ = some (.slice A n cap) → Seen (w.heap.size + 1 + 1) n cap A (fun i z => p[i]? = some z) W := fun W hW hbox => ⟨hbox, fun k hk => by
    have hkp : k < p.length := by omega
    obtain ⟨ad, rfl, hc⟩ := (hr.ext hW).byte hkp
    exact ⟨ad, p[k], rfl, List.getElem?_eq_getElem hkp, hc⟩⟩
  refine wpIn_rangeFunc_ownG hro h1 (gf := 118) (lb := #[.pointer (some ⟨w.heap.size + 1 + 1, 0, none⟩)]) rfl (hfn _) (enters_of Try.func118 (by kernel_rfl) rfl)
    (back_stops F (N - 1) (hfn _) hro (by omega) (w.heap.size + 1 + 1) n cap A (fun i z => p[i]? = some z) hlen _ (fun W hW => hseen W (hB0.trans (hW.mono (by simp))) ((hW.cell (p := ⟨w.heap.size + 1 + 1, 0, none⟩) (by simp)).trans bN.cell)))
    (fun h k hq => k (h hq)) (fun W l o o' _ hl ho _ hq => hq.put o' hl ho) (Below.refl _ _) ?hps
    (fun pre W => ((W.cell? ⟨w.heap.size + 1, 0, none⟩ = some (.int .u8 ((horner x (plain pre)).val : Int)) ∧ W.frozen? ⟨w.heap.size + 1, 0, none⟩ = false) ∧ W.cell? ⟨w.heap.size, 0, none⟩ = some (.int .u8 (x.val : Int))) ∧ Below w.heap.size w W)
    (fun _ _ _ => False)
    (OwnFrom.and (Own.from (fun s A B row hs hg hr => ⟨⟨cell_kept hs.1.1 hg hr, (frozen_kept hs.1.1 hg hr).trans hs.1.2⟩, cell_kept hs.2 hg hr⟩) _) (ownFrom_below (Nat.le_refl _) (by simp; omega)))
    (fun _ _ _ _ _ hs _ _ => hs)
    ⟨⟨⟨(bV.alloc _).cell, (bV.alloc _).frozen⟩, ((bX.alloc _).alloc _).cell⟩, hB0⟩
    (fun y => { tmps := #[.slice A n cap, .int .u8 (x.val : Int), undef, .pointer (some ⟨w.heap.size, 0, none⟩), .int .u8 0, .pointer (some ⟨w.heap.size + 1, 0, none⟩), undef, .int .u8 (y.1.2.val : Int), .slice A n cap, .func (.func 118) #[] #[.pointer (some ⟨w.heap.size + 1 + 1, 0, none⟩)], .int .i64 (y.1.1 : Int), .int .u8 (y.1.2.val : Int), undef, undef, undef, undef, undef, undef], defers := [] }) ?assign ?body ?done ?stop
  case hps => exact fun _ => rfl
  case assign =>
    intro l y W K hK
    gi_wp2
    exact hK
  case body =>
    rintro l pre y W ⟨⟨⟨hc, hf⟩, hcx⟩, hB⟩ _
    have hy := y.1.2.lt
    gi_wp2_with (first | (gi_at_call 58; with_reducible refine (hci _ l (times_any _ _ _)).mono ?_; rintro e w' ⟨rfl, rfl⟩) | (gi_at_call 57; with_reducible refine (hci _ l (plus_any _ _ _)).mono ?_; rintro e w' ⟨rfl, rfl⟩))
    exact ⟨(KeepsOthers.setCell _ _ _).from _, fun hq => hq.setCell (p := ⟨w.heap.size + 1, 0, none⟩) (by simp) (fun h0 ad e => by obtain ⟨ad', e', hb⟩ := hA 0 h0; rw [e] at e'; obtain rfl := Option.some.inj e'; simp; omega) _,
      ⟨⟨by rw [plain_snoc, horner_snoc]; exact World.cell?_setCell_same' _ _ _ (by rw [hc]; rfl), by rw [World.frozen?_setCell]; exact hf⟩, (World.cell?_setCell_other _ _ _ _ (by simp)).trans hcx⟩, hB.setCell (p := ⟨w.heap.size + 1, 0, none⟩) (by simp) _⟩
  case done =>
    rintro D ys W hD hys ⟨⟨⟨hc, _⟩, _⟩, hB⟩ hK
    gi_wp2
    have hv : horner x (plain ys) = evL p x := by
      subst hn
      have := horner_back p x (Nat.le_refl _) hys
      rw [Nat.sub_self, List.drop_zero] at this
      exact this
    refine ⟨by simp, .inl ⟨_, _, rfl, run_takeDeferred hK, ?_⟩⟩
    refine ⟨_, results_tmp rfl _ _ _, ?_, hB.trans (belowK_b (w := w) (Nat.le_refl _) W D _ _ (by simp at hD; omega) hK rfl rfl)⟩
    rw [← hv]; rfl
  case stop =>
    rintro D c pre W _ _ h _
    exact h.elim
end Go.Proofs.Ytemnlcfabaocbaa
