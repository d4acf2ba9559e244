/-
  append and make, of elements of one cell: what they do to a row of the call's own, and to nothing else.
-/
import Derived.Test.YtemnlcfabaocbaaMem
import Derived.Laws.CopyOwn
namespace Go.Proofs.Ytemnlcfabaocbaa
open Go.RowKit Gf

/-- What a slice type's elements are: of one cell, with this zero, of so many bytes. -/
structure Elt (P : Program) (t e : TypeId) (z : Value) (bytes : Nat) : Prop where
  ty : P.underlying t = some (.slice e)
  info : ∃ i, P.info? e = some i ∧ i.zero = some z ∧ i.size = 1 ∧ i.bytes = bytes
  cells : z.cells = #[z]
  pos : 1 ≤ bytes

/-- Behind an append: the row lies where it lay, and that block alone may have been written; or it lies in the new block, and nothing has been written. -/
def Moved (w w' : World) (v v' : Value) : Prop := (v'.ownBlock = v.ownBlock ∧ w.grownBy w' v.ownBlock) ∨ (v'.ownBlock = some w.heap.size ∧ w.grownBy w' none)
theorem grownBy_weak {w w' : World} {row : Option Nat} (h : w.grownBy w' none) : w.grownBy w' row := ⟨h.os, h.tape, h.output, h.size, fun k hk _ => h.block k hk (by simp)⟩
theorem Moved.grown {w w' : World} {v v' : Value} (h : Moved w w' v v') : w.grownBy w' v.ownBlock := by
  rcases h with ⟨_, h⟩ | ⟨_, h⟩
  · exact h
  · exact grownBy_weak h
theorem Moved.below {w w' : World} {v v' : Value} {B : Nat} (h : Moved w w' v v') (hB : B ≤ w.heap.size) (hv : ∀ g, v.ownBlock = some g → B ≤ g) : Below B w w' :=
  (Below.refl _ _).grown h.grown hB hv
theorem grownBy_trans {a b c : World} {row : Option Nat} (h : a.grownBy b row) (k : b.grownBy c row) : a.grownBy c row :=
  ⟨k.os.trans h.os, k.tape.trans h.tape, k.output.trans h.output, Nat.le_trans h.size k.size, fun i hi hne => (k.block i (Nat.lt_of_lt_of_le hi h.size) hne).trans (h.block i hi hne)⟩

section
variable {P : Program} (w : World)
theorem run_append_nil_src (t ty e : TypeId) (i : TypeInfo) (ht : P.underlying t = some (.slice e)) (hi : P.info? e = some i)
    (B : Nat) (v : Value) (xs : List Value) (hown : Own w B e v xs) (c : Nat) : (Builtin.append_ #[t, t] ty #[v, .slice none 0 c]).run P w = .ok v w := by
  rcases hown.2 with ⟨rfl, hn⟩ | ⟨g, cap, cur, rfl, _, _, hnc, _⟩
  · simp [Builtin.append_, run_underlying ht, sizeOf, typeInfo, hi, Builtin.lenOf, Builtin.firstCells]
  · simp [Builtin.append_, run_underlying ht, sizeOf, typeInfo, hi, Builtin.lenOf, Builtin.firstCells, hnc, storeCells]

theorem run_app {t e : TypeId} {z : Value} {bytes : Nat} (E : Elt P t e z bytes) (ty : TypeId) (B : Nat) (v : Value) (xs : List Value) (hown : Own w B e v xs)
    (A : Option Addr) (m c : Nat) (news : List Value) (hr : Rd w A news) (hm : news.length = m) (h1 : ∀ u ∈ news, u.oneCell' = true)
    (hbytes : (xs.length + m) * bytes ≤ 140737488355328) (hB : B ≤ w.heap.size) :
    ∃ v' w', (Builtin.append_ #[t, t] ty #[v, .slice A m c]).run P w = .ok v' w' ∧ Own w' B e v' (xs ++ news) ∧ Moved w w' v v' := by
  obtain ⟨i, hi, hz, hsz, hby⟩ := E.info
  have hzs : z.cells.size = i.size := by rw [E.cells, hsz]; rfl
  have hle : xs.length + m ≤ 140737488355328 := Nat.le_trans (Nat.le_mul_of_pos_right _ E.pos) hbytes
  have hl : news.length = m * i.size := by rw [hsz, Nat.mul_one, hm]
  have hbytes' : (xs.length + m) * i.bytes ≤ 140737488355328 := by rw [hby]; exact hbytes
  rcases A with _ | ad
  · have hm0 : m = 0 := by
      rcases Nat.eq_zero_or_pos m with h0 | h0
      · exact h0
      · obtain ⟨ad, h, _⟩ := hr (by omega)
        cases h
    subst hm0
    obtain rfl : news = [] := List.eq_nil_of_length_eq_zero hm
    exact ⟨v, w, run_append_nil_src w t ty e i E.ty hi B v xs hown c, by simpa using hown, .inl ⟨rfl, World.grownBy.refl _ _⟩⟩
  have hnews : ∀ j u, news[j]? = some u → w.cell? (ad.add j) = some u := by
    intro j u hu
    obtain ⟨ad', h, hc⟩ := hr (by have := (List.getElem?_eq_some_iff.1 hu).1; omega)
    injection h with h
    subst h
    exact hc j u hu
  have grown : ∀ (old : Nat), old < xs.length + m →
      Own (w.drew.alloc (.cells (xs.toArray ++ news.toArray ++ Builtin.zeroCells z.cells (grownCap w (xs.length + m) old e - (xs.length + m))) e)) B e
        (.slice (some ⟨w.heap.size, 0, none⟩) (xs.length + m) (grownCap w (xs.length + m) old e)) (xs ++ news) ∧
      w.grownBy (w.drew.alloc (.cells (xs.toArray ++ news.toArray ++ Builtin.zeroCells z.cells (grownCap w (xs.length + m) old e - (xs.length + m))) e)) none := by
    intro old ho
    have hge := grownCap_ge w (xs.length + m) old e
    have hcm : grownCap w (xs.length + m) old e ≤ maxLen := grownCap_le_maxLen w (xs.length + m) old e (by simp only [maxLen]; omega)
    have hxl : (xs ++ news).length = xs.length + m := by rw [List.length_append, hm]
    refine ⟨⟨by omega, .inr ⟨w.heap.size, _, _, by rw [hxl], hB, heap_alloc_new w.drew _, by omega, hcm, ?_, ?_⟩⟩, ⟨rfl, rfl, rfl, by simp, fun k hk _ => heap_alloc_old w.drew _ k hk⟩⟩
    · simp only [Array.size_append, List.size_toArray, size_zeroCells, hzs, hsz, hm]
      omega
    · simp only [Array.toList_append, List.append_assoc, Nat.mul_one]
      rw [← List.append_assoc]
      exact List.take_left
  rcases hown.2 with ⟨rfl, hn⟩ | ⟨g, cap, cur, rfl, hbg, hg, hnc, hcm, hcs, htake⟩
  · obtain rfl : xs = [] := List.eq_nil_of_length_eq_zero hn
    simp only [List.length_nil, Nat.zero_add] at hle hbytes' grown
    by_cases hm0 : m = 0
    · subst hm0
      obtain rfl : news = [] := List.eq_nil_of_length_eq_zero hm
      refine ⟨.slice none 0 0, w, ?_, Own.nil _ _ _, .inl ⟨rfl, World.grownBy.refl _ _⟩⟩
      simp [Builtin.append_, run_underlying E.ty, sizeOf, typeInfo, hi, Builtin.lenOf, Builtin.firstCells, loadCells, loadCellsFrom]
    · have hr' := run_append_nil (P := P) w t ty e i z E.ty hi hz ad m c news hl hnews (by omega) (by omega) (by omega)
      have hgr := grown 0 (by omega)
      simp only [List.nil_append, Array.empty_append] at hgr ⊢
      exact ⟨_, _, hr', hgr.1, .inr ⟨rfl, hgr.2⟩⟩
  · by_cases hroom : xs.length + m ≤ cap
    · have hfit : xs.length * i.size + news.length ≤ cur.size := by rw [hsz, hcs, hm]; omega
      have hr' := run_append_room (P := P) w t ty e i E.ty hi g xs.length cap cur hg ad m c news hl hnews h1 hroom hfit
      refine ⟨_, _, hr', ⟨by omega, .inr ⟨g, cap, _, by rw [List.length_append, hm], hbg, setRow_heap w g cur _ e _ hg, by rw [List.length_append, hm]; exact hroom, hcm, ?_, ?_⟩⟩, .inl ⟨rfl, rfl, rfl, rfl, by simp, fun k _ hk => setRow_other w g k _ (fun e => hk (by simp [Value.ownBlock, e]))⟩⟩
      · simp only [List.size_toArray, List.length_append, List.length_take, List.length_drop, Array.length_toList]
        rw [hsz] at hfit ⊢
        omega
      · rw [hsz, htake, Nat.mul_one]
        simp only [List.length_append]
        rw [← List.length_append]
        exact List.take_left
    · have holds : ∀ j u, xs[j]? = some u → w.cell? ((⟨g, 0, none⟩ : Addr).add j) = some u := World.ownsRow.cells hown (g := g) rfl
      have hr' := run_append_grow (P := P) w t ty e i z E.ty hi hz ⟨g, 0, none⟩ xs.length cap xs (by rw [hsz]; omega) holds ad m c news hl hnews (by omega) (by omega) (growslice_fits (by omega) hbytes')
      have hgr := grown cap (by omega)
      exact ⟨_, _, hr', hgr.1, .inr ⟨rfl, hgr.2⟩⟩

theorem wp_app {t e : TypeId} {z : Value} {bytes : Nat} (E : Elt P t e z bytes) {o : Oper} {a : Act} {K : Act → World → Prop} {Q : Exit → Act → World → Prop} (s x : Operand)
    (ho : o.op = .call { callee := .builtin .append, args := #[s, x], argTypes := #[t, t] })
    (B : Nat) (v : Value) (xs : List Value) (hs : a.eval s = v) (hown : Own w B e v xs)
    (A : Option Addr) (m c : Nat) (news : List Value) (hx : a.eval x = .slice A m c) (hr : Rd w A news) (hm : news.length = m) (h1 : ∀ u ∈ news, u.oneCell' = true)
    (hbytes : (xs.length + m) * bytes ≤ 140737488355328) (hB : B ≤ w.heap.size)
    (h : ∀ v' w', Own w' B e v' (xs ++ news) → Moved w w' v v' → K (a.put o.dst v') w') : o.wp P a w K Q := by
  obtain ⟨v', w', hrun, h2, h3⟩ := run_app (P := P) w E o.type B v xs hown A m c news hr hm h1 hbytes hB
  unfold Oper.wp execOp
  simp only [ho, resolve, invoke, builtin, Sem.run_bind, Sem.run_pure, Result.andThen_ok, List.map_toArray, List.map_cons, List.map_nil, hs, hx, hrun]
  exact h v' w' h2 h3
theorem wpList_app {t e : TypeId} {z : Value} {bytes : Nat} (E : Elt P t e z bytes) {ops : Array Oper} {rest : List Oper} {o : Oper} {a : Act} {Q : Exit → Act → World → Prop} (hgd : o.guard = none) (s x : Operand)
    (ho : o.op = .call { callee := .builtin .append, args := #[s, x], argTypes := #[t, t] })
    (B : Nat) (v : Value) (xs : List Value) (hs : a.eval s = v) (hown : Own w B e v xs)
    (A : Option Addr) (m c : Nat) (news : List Value) (hx : a.eval x = .slice A m c) (hr : Rd w A news) (hm : news.length = m) (h1 : ∀ u ∈ news, u.oneCell' = true)
    (hbytes : (xs.length + m) * bytes ≤ 140737488355328) (hB : B ≤ w.heap.size)
    (h : ∀ v' w', Own w' B e v' (xs ++ news) → Moved w w' v v' → wpList P ops Q rest (a.put o.dst v') w') : wpList P ops Q (o :: rest) a w :=
  wpList_plain hgd fun _ hK => wp_app w E s x ho B v xs hs hown A m c news hx hr hm h1 hbytes hB fun v' w' h2 h3 => hK _ _ (h v' w' h2 h3)
theorem step_app {t e : TypeId} {z : Value} {bytes : Nat} (E : Elt P t e z bytes) {ops : Array Oper} {o : Oper} {a : Act} {K : Act → World → Prop} {Q : Exit → Act → World → Prop} {F : Prop} (hgd : o.guard = none) (s x : Operand)
    (ho : o.op = .call { callee := .builtin .append, args := #[s, x], argTypes := #[t, t] })
    (B : Nat) (v : Value) (xs : List Value) (hs : a.eval s = v) (hown : Own w B e v xs)
    (A : Option Addr) (m c : Nat) (news : List Value) (hx : a.eval x = .slice A m c) (hr : Rd w A news) (hm : news.length = m) (h1 : ∀ u ∈ news, u.oneCell' = true)
    (hbytes : (xs.length + m) * bytes ≤ 140737488355328) (hB : B ≤ w.heap.size)
    (h : ∀ v' w', Own w' B e v' (xs ++ news) → Moved w w' v v' → K (a.put o.dst v') w') :
    if Region.wanted o (yielded ops a.tmps) = true then Oper.wp P o a w K Q else F := by
  have hw : Region.wanted o (yielded ops a.tmps) = true := by simp [Region.wanted, hgd]
  rw [if_pos hw]
  exact wp_app w E s x ho B v xs hs hown A m c news hx hr hm h1 hbytes hB h
/-- One element, out of the block that was just made for it. -/
theorem rd_new (u : Value) (T : TypeId) : Rd (w.alloc (.cells #[u] T)) (some ⟨w.heap.size, 0, none⟩) [u] := fun _ => ⟨_, rfl, cell_one_new w u T⟩
theorem wpList_push {t e : TypeId} {z : Value} {bytes : Nat} (E : Elt P t e z bytes) {ops : Array Oper} {rest : List Oper} {o : Oper} {a : Act} {Q : Exit → Act → World → Prop} (hgd : o.guard = none) (s x : Operand)
    (ho : o.op = .call { callee := .builtin .append, args := #[s, x], argTypes := #[t, t] })
    (B : Nat) (v : Value) (xs : List Value) (hs : a.eval s = v) (hown : Own w B e v xs) (u : Value) (hx : a.eval x = .slice (some ⟨w.heap.size, 0, none⟩) 1 1) (h1 : u.oneCell' = true)
    (hbytes : (xs.length + 1) * bytes ≤ 140737488355328) (hB : B ≤ w.heap.size)
    (h : ∀ v' w', Own w' B e v' (xs ++ [u]) → Moved (w.alloc (.cells #[u] e)) w' v v' → Below B w w' → w.heap.size < w'.heap.size → wpList P ops Q rest (a.put o.dst v') w') :
    wpList P ops Q (o :: rest) a (w.alloc (.cells #[u] e)) := by
  refine wpList_app (w.alloc (.cells #[u] e)) E hgd s x ho B v xs hs (hown.alloc _) _ 1 1 [u] hx (rd_new w u e) rfl (by simpa using h1) hbytes (by simp; omega) fun v' w' h2 h3 => h v' w' h2 h3 ?_ ?_
  · exact ((Below.refl _ _).alloc hB _).trans (h3.below (by simp; omega) fun g hg => (hown.lt g hg).1)
  · have := h3.grown.size
    simp at this
    omega
theorem step_push {t e : TypeId} {z : Value} {bytes : Nat} (E : Elt P t e z bytes) {ops : Array Oper} {o : Oper} {a : Act} {K : Act → World → Prop} {Q : Exit → Act → World → Prop} {F : Prop} (hgd : o.guard = none) (s x : Operand)
    (ho : o.op = .call { callee := .builtin .append, args := #[s, x], argTypes := #[t, t] })
    (B : Nat) (v : Value) (xs : List Value) (hs : a.eval s = v) (hown : Own w B e v xs) (u : Value) (hx : a.eval x = .slice (some ⟨w.heap.size, 0, none⟩) 1 1) (h1 : u.oneCell' = true)
    (hbytes : (xs.length + 1) * bytes ≤ 140737488355328) (hB : B ≤ w.heap.size)
    (h : ∀ v' w', Own w' B e v' (xs ++ [u]) → Moved (w.alloc (.cells #[u] e)) w' v v' → Below B w w' → w.heap.size < w'.heap.size → K (a.put o.dst v') w') :
    if Region.wanted o (yielded ops a.tmps) = true then Oper.wp P o a (w.alloc (.cells #[u] e)) K Q else F := by
  refine step_app (w.alloc (.cells #[u] e)) E hgd s x ho B v xs hs (hown.alloc _) _ 1 1 [u] hx (rd_new w u e) rfl (by simpa using h1) hbytes (by simp; omega) fun v' w' h2 h3 => h v' w' h2 h3 ?_ ?_
  · exact ((Below.refl _ _).alloc hB _).trans (h3.below (by simp; omega) fun g hg => (hown.lt g hg).1)
  · have := h3.grown.size
    simp at this
    omega
theorem run_make_elt {t e : TypeId} {z : Value} {bytes : Nat} (E : Elt P t e z bytes) (kl kc : IntKind) (n : Nat) (hb : bytes * n ≤ 281474976710656) (w : World) :
    (Instr.makeSlice t (.int kl (n : Int)) (.int kc (n : Int))).run P w = .ok (.slice (some ⟨w.heap.size, 0, none⟩) n n) (w.alloc (.cells (zrow z n) e)) := by
  obtain ⟨i, hi, hz, hs, hby⟩ := E.info
  have : n ≤ bytes * n := Nat.le_mul_of_pos_left _ E.pos
  exact run_make_z t e i z E.ty hi hz hs E.cells bytes hby kl kc n hb (by omega) w

/-- copy into the beginning of a block of the call's own. -/
theorem wpList_copy0 {t e : TypeId} {z : Value} {bytes : Nat} (E : Elt P t e z bytes) {ops : Array Oper} {rest : List Oper} {o : Oper} {a : Act} {Q : Exit → Act → World → Prop} (hgd : o.guard = none) (d s : Operand)
    (ho : o.op = .call { callee := .builtin .copy, args := #[d, s], argTypes := #[t, t] })
    (g N cap : Nat) (T : TypeId) (cs : Array Value) (hb : Blk w g T cs) (hd : a.eval d = .slice (some ⟨g, 0, none⟩) N cap)
    (A : Option Addr) (n c : Nat) (news : List Value) (hs : a.eval s = .slice A n c) (hr : Rd w A news) (hn : news.length = n) (hle : n ≤ N) (hsz : N ≤ cs.size) (h1 : ∀ u ∈ news, u.oneCell' = true)
    (B : Nat) (w0 : World) (hbel : Below B w0 w) (hBg : B ≤ g)
    (h : ∀ w' cs', Blk w' g T cs' → Hid (cs'.toList = news ++ cs.toList.drop n) → Below B w0 w' → wpList P ops Q rest (a.put o.dst (goInt n)) w') : wpList P ops Q (o :: rest) a w := by
  obtain ⟨i, hi, _, hs1, _⟩ := E.info
  subst hn
  have hmin : news.length = Nat.min news.length N := (Nat.min_eq_left hle).symm
  refine wpList_copy_splice hgd d s t t ho e E.ty (by rw [hi, Option.map_some, hs1]) (some ⟨g, 0, none⟩) A N cap news.length c hd hs g 0 cs.toList T (by simpa [Blk] using hb) news hmin ?_ (by simpa using by omega) h1 B w0 hbel hBg ?_
  · intro hp
    obtain ⟨ad, hA, hc⟩ := hr hp
    exact ⟨rfl, ad, hA, hc⟩
  · intro w' hw' hb'
    exact h w' _ hw'.out (by simp [splice, Hid]) hb'
end
end Go.Proofs.Ytemnlcfabaocbaa
