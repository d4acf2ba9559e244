/-
  The walk of the laws' own helper ask of chapter 2: what each question answers, in new memory, no two of the lists in one block.
-/
import Derived.Test.YtemnlcfabaocbaaRowsL
import Derived.Test.YtemnlcfabaocbaaPoly8
import Derived.Test.YtemnlcfabaocbaaPoly7
import Derived.Test.YtemnlcfabaocbaaLaw2
namespace Go.Proofs.Ytemnlcfabaocbaa
open Go.RowKit Gf
set_option maxRecDepth 20000
set_option linter.unusedVariables false

/-- What question i answers. -/
def Ans (i : Nat) (p q : List E) (c : E) (below : Int) (rs : List (List E)) : Prop :=
  match i with
  | 0 => rs = [trim p]
  | 1 => rs = [plusL p q]
  | 2 => rs = [scaleL p c]
  | 3 => rs = [timesL p q]
  | 4 => ∃ s r k, DivAny p q s r k ∧ rs = [s, r]
  | 5 => rs = [deriveL p]
  | 6 => rs = [vanishL p]
  | 7 => ∃ t k, ThAny p q t k ∧ rs = [t]
  | 8 => rs = [rootsL p]
  | 9 => (below < 0 ∧ rs = [[], [], []]) ∨ ∃ k : Nat, below = k ∧ ∃ r, PartRes p q k r ∧ rs = [r.g, r.u, r.v]
  | 10 => rs = [[E.of (dg p % 256), E.of (dg p / 256 % 256)]]
  | 11 => rs = [[evL p c]]
  | 12 => rs = [plusL p []]
  | 13 => rs = [plusL [] p]
  | 14 => rs = [scaleL p 1]
  | _ => rs = [timesL p [1]]
theorem Ans.uniq {i : Nat} {p q : List E} {c : E} {b : Int} {rs rs' : List (List E)} (h : Ans i p q c b rs) (h' : Ans i p q c b rs') : rs = rs' := by
  unfold Ans at h h'
  split at h
  case h_5 =>
    obtain ⟨s, r, k, h1, rfl⟩ := h
    obtain ⟨s', r', k', h1', rfl⟩ := h'
    obtain ⟨rfl, rfl, _⟩ := h1.uniq h1'
    rfl
  case h_8 =>
    obtain ⟨t, k, h1, rfl⟩ := h
    obtain ⟨t', k', h1', rfl⟩ := h'
    rw [(h1.uniq h1').1]
  case h_10 =>
    rcases h with ⟨h0, rfl⟩ | ⟨k, rfl, r, h1, rfl⟩ <;> rcases h' with ⟨h0', rfl⟩ | ⟨k', h2, r', h1', rfl⟩
    · rfl
    · omega
    · omega
    · obtain rfl : k = k' := by omega
      rw [h1.uniq h1']
  all_goals (simp only at h'; rw [h, h'])
/-- What ask leaves. -/
def Asked (i : Nat) (p q : List E) (c : E) (b : Int) (w : World) (e : Ending) (w' : World) : Prop :=
  ∃ G cap V rs, e = .returned (.slice (some ⟨G, 0, none⟩) rs.length cap) ∧ Ans i p q c b rs ∧ OwnList w' w.heap.size G cap V rs ∧ Ext w w' ∧ (∀ r ∈ rs, r.length ≤ 100000000000000) ∧ 0 < rs.length ∧ rs.length ≤ 3
theorem rowsOne {w : World} {B : Nat} {v : Value} {r : List E} (h : Own w B 34 v (bs r)) (hB : B ≤ w.heap.size) : OwnList (w.alloc (.cells #[v] 26)) B w.heap.size 1 [v] [r] := by
  refine ⟨(Blk.new w 26 #[v]).own hB (Nat.le_refl _) (by decide) rfl, rfl, fun i u hi => ?_, fun i j vi vj hi hj hne => ?_⟩
  · match i with
    | 0 => simp at hi; subst hi; exact h.alloc _
    | i + 1 => simp at hi
  · match i, j with
    | 0, 0 => exact absurd rfl hne
    | i + 1, _ => simp at hi
    | 0, j + 1 => simp at hj
theorem rowsTwo {w : World} {B : Nat} {u v : Value} {r s : List E} (h : Own w B 34 u (bs r)) (k : Own w B 34 v (bs s)) (hf : ∀ g, u.ownBlock = some g → v.ownBlock ≠ some g) (hB : B ≤ w.heap.size) :
    OwnList (w.alloc (.cells #[u, v] 26)) B w.heap.size 2 [u, v] [r, s] := by
  refine ⟨(Blk.new w 26 #[u, v]).own hB (Nat.le_refl _) (by decide) rfl, rfl, fun i x hi => ?_, ?_⟩
  · match i with
    | 0 => simp at hi; subst hi; exact h.alloc _
    | 1 => simp at hi; subst hi; exact k.alloc _
    | i + 2 => simp at hi
  · have : FarApart ([u] ++ [v]) := FarApart.snoc (fun i j vi vj hi hj hne => by
      match i, j with
      | 0, 0 => exact absurd rfl hne
      | i + 1, _ => simp at hi
      | 0, j + 1 => simp at hj) fun i x hi => by
        match i with
        | 0 =>
          simp at hi; subst hi
          constructor
          · cases e : u.ownBlock with
            | none => exact .inl rfl
            | some g => exact .inr fun e' => hf g e e'.symm
          · cases e : v.ownBlock with
            | none => exact .inl rfl
            | some g => exact .inr fun e' => hf g e'.symm e
        | i + 1 => simp at hi
    exact this
theorem rowsThree {w : World} {B n1 n2 : Nat} {u v x : Value} {r s t : List E} (h : Own w B 34 u (bs r)) (k : Own w B 34 v (bs s)) (l : Own w B 34 x (bs t)) (hle : n1 ≤ n2)
    (h1 : ∀ g, u.ownBlock = some g → g < n1) (h2 : ∀ g, v.ownBlock = some g → n1 ≤ g ∧ g < n2) (h3 : ∀ g, x.ownBlock = some g → n2 ≤ g) (hB : B ≤ w.heap.size) :
    OwnList (w.alloc (.cells #[u, v, x] 26)) B w.heap.size 3 [u, v, x] [r, s, t] := by
  refine ⟨(Blk.new w 26 #[u, v, x]).own hB (Nat.le_refl _) (by decide) rfl, rfl, fun i y hi => ?_, ?_⟩
  · match i with
    | 0 => simp at hi; subst hi; exact h.alloc _
    | 1 => simp at hi; subst hi; exact k.alloc _
    | 2 => simp at hi; subst hi; exact l.alloc _
    | i + 3 => simp at hi
  · have two : FarApart ([u] ++ [v]) := FarApart.snoc (fun i j vi vj hi hj hne => by
      match i, j with
      | 0, 0 => exact absurd rfl hne
      | i + 1, _ => simp at hi
      | 0, j + 1 => simp at hj) fun i y hi => by
        match i with
        | 0 =>
          simp at hi; subst hi
          constructor
          · cases e : u.ownBlock with
            | none => exact .inl rfl
            | some g => exact .inr fun e' => by have := h1 g e; have := h2 g e'.symm; omega
          · cases e : v.ownBlock with
            | none => exact .inl rfl
            | some g => exact .inr fun e' => by have := h1 g e'.symm; have := h2 g e; omega
        | i + 1 => simp at hi
    have three : FarApart (([u] ++ [v]) ++ [x]) := FarApart.snoc two fun i y hi => by
      match i with
      | 0 =>
        simp at hi; subst hi
        constructor
        · cases e : u.ownBlock with
          | none => exact .inl rfl
          | some g => exact .inr fun e' => by have := h1 g e; have := h3 g e'.symm; omega
        · cases e : x.ownBlock with
          | none => exact .inl rfl
          | some g => exact .inr fun e' => by have := h1 g e'.symm; have := h3 g e; omega
      | 1 =>
        simp at hi; subst hi
        constructor
        · cases e : v.ownBlock with
          | none => exact .inl rfl
          | some g => exact .inr fun e' => by have := h2 g e; have := h3 g e'.symm; omega
        · cases e : x.ownBlock with
          | none => exact .inl rfl
          | some g => exact .inr fun e' => by have := h2 g e'.symm; have := h3 g e; omega
      | i + 2 => simp at hi
    exact three
theorem asked1 {i : Nat} {p q : List E} {c : E} {b : Int} {w w1 : World} {v : Value} {r : List E} (ha : Ans i p q c b [r]) (hx : Ext w w1) (ho : Own w1 w.heap.size 34 v (bs r)) (hl : r.length ≤ 100000000000000) :
    Asked i p q c b w (.returned (.slice (some ⟨w1.heap.size, 0, none⟩) 1 1)) (w1.alloc (.cells #[v] 26)) :=
  ⟨w1.heap.size, 1, [v], [r], rfl, ha, rowsOne ho hx.le, hx.alloc _, fun x hx => by simp at hx; subst hx; exact hl, by simp, by simp⟩
theorem asked2 {i : Nat} {p q : List E} {c : E} {b : Int} {w w1 : World} {u v : Value} {r s : List E} (ha : Ans i p q c b [r, s]) (hx : Ext w w1) (ho : Own w1 w.heap.size 34 u (bs r)) (hk : Own w1 w.heap.size 34 v (bs s))
    (hf : ∀ g, u.ownBlock = some g → v.ownBlock ≠ some g) (hl : r.length ≤ 100000000000000) (hl2 : s.length ≤ 100000000000000) :
    Asked i p q c b w (.returned (.slice (some ⟨w1.heap.size, 0, none⟩) 2 2)) (w1.alloc (.cells #[u, v] 26)) :=
  ⟨w1.heap.size, 2, [u, v], [r, s], rfl, ha, rowsTwo ho hk hf hx.le, hx.alloc _, fun x hx => by simp at hx; rcases hx with rfl | rfl <;> assumption, by simp, by simp⟩
theorem asked3 {i : Nat} {p q : List E} {c : E} {b : Int} {w w1 : World} {n1 n2 : Nat} {u v y : Value} {r s t : List E} (ha : Ans i p q c b [r, s, t]) (hx : Ext w w1) (ho : Own w1 w.heap.size 34 u (bs r)) (hk : Own w1 w.heap.size 34 v (bs s)) (hm : Own w1 w.heap.size 34 y (bs t))
    (hle : n1 ≤ n2) (h1 : ∀ g, u.ownBlock = some g → g < n1) (h2 : ∀ g, v.ownBlock = some g → n1 ≤ g ∧ g < n2) (h3 : ∀ g, y.ownBlock = some g → n2 ≤ g) (hl : r.length ≤ 100000000000000) (hl2 : s.length ≤ 100000000000000) (hl3 : t.length ≤ 100000000000000) :
    Asked i p q c b w (.returned (.slice (some ⟨w1.heap.size, 0, none⟩) 3 3)) (w1.alloc (.cells #[u, v, y] 26)) :=
  ⟨w1.heap.size, 3, [u, v, y], [r, s, t], rfl, ha, rowsThree ho hk hm hle h1 h2 h3 hx.le, hx.alloc _, fun x hx => by simp at hx; rcases hx with rfl | rfl | rfl <;> assumption, by simp, by simp⟩
theorem deriveL_le (p : List E) : (deriveL p).length ≤ p.length := by
  have := trim_le (ofS (p.length - 1) (deriveS (ser p)))
  rw [ofS_length] at this
  unfold deriveL
  omega
set_option maxHeartbeats 2000000 in
theorem ask_0 (A C : Option Addr) (n m ca cb : Nat) (p q : List E) (c : E) (b : Int) (w : World) (hn : p.length = n) (hm : q.length = m) (hr : Rd w A (bs p)) (hs : Rd w C (bs q)) (hca : n ≤ ca) (hcb : m ≤ cb) (hla : n ≤ 2000000) (hlb : m ≤ 2000000) (hma : ca ≤ maxLen) (hb : (Lit.int .i64 b).wf = true) :
    Calls Try.prog 98 #[.int .i64 0, .slice A n ca, .slice C m cb, .int .u8 (c.val : Int), .int .i64 b] w (Asked 0 p q c b w) := by
  have hcl := c.lt
  go_enter Try.func98, Try.ntmps98
  go_wp2_with fail
  refine (trim_n A n p ca _ hn hr (by omega) hca).mono ?_
  rintro e w1 ⟨v, rfl, ho, hx⟩
  obtain ⟨A1, n1, c1, rfl⟩ : ∃ A n c, v = Value.slice A n c := by obtain ⟨A, c, h⟩ := ho.anySlice; exact ⟨_, _, _, h⟩
  go_wp2
  go_ret
  exact asked1 rfl hx ho (by have := trim_le p; omega)
set_option maxHeartbeats 2000000 in
theorem ask_1 (A C : Option Addr) (n m ca cb : Nat) (p q : List E) (c : E) (b : Int) (w : World) (hn : p.length = n) (hm : q.length = m) (hr : Rd w A (bs p)) (hs : Rd w C (bs q)) (hca : n ≤ ca) (hcb : m ≤ cb) (hla : n ≤ 2000000) (hlb : m ≤ 2000000) (hma : ca ≤ maxLen) (hb : (Lit.int .i64 b).wf = true) :
    Calls Try.prog 98 #[.int .i64 1, .slice A n ca, .slice C m cb, .int .u8 (c.val : Int), .int .i64 b] w (Asked 1 p q c b w) := by
  have hcl := c.lt
  go_enter Try.func98, Try.ntmps98
  go_wp2_with fail
  refine (polyPlus_n A C n m ca cb p q _ hn hm hr hs (by omega) (by omega)).mono ?_
  rintro e w1 ⟨v, rfl, ho, hx⟩
  obtain ⟨A1, n1, c1, rfl⟩ : ∃ A n c, v = Value.slice A n c := by obtain ⟨A, c, h⟩ := ho.anySlice; exact ⟨_, _, _, h⟩
  go_wp2
  go_ret
  exact asked1 rfl hx ho (by have := plusL_le p q; omega)
set_option maxHeartbeats 2000000 in
theorem ask_2 (A C : Option Addr) (n m ca cb : Nat) (p q : List E) (c : E) (b : Int) (w : World) (hn : p.length = n) (hm : q.length = m) (hr : Rd w A (bs p)) (hs : Rd w C (bs q)) (hca : n ≤ ca) (hcb : m ≤ cb) (hla : n ≤ 2000000) (hlb : m ≤ 2000000) (hma : ca ≤ maxLen) (hb : (Lit.int .i64 b).wf = true) :
    Calls Try.prog 98 #[.int .i64 2, .slice A n ca, .slice C m cb, .int .u8 (c.val : Int), .int .i64 b] w (Asked 2 p q c b w) := by
  have hcl := c.lt
  go_enter Try.func98, Try.ntmps98
  go_wp2_with fail
  refine (polyScale_n A n ca p c _ hn hr (by omega)).mono ?_
  rintro e w1 ⟨v, rfl, ho, hx⟩
  obtain ⟨A1, n1, c1, rfl⟩ : ∃ A n c, v = Value.slice A n c := by obtain ⟨A, c, h⟩ := ho.anySlice; exact ⟨_, _, _, h⟩
  go_wp2
  go_ret
  exact asked1 rfl hx ho (by have := scaleL_le p c; omega)
set_option maxHeartbeats 2000000 in
theorem ask_3 (A C : Option Addr) (n m ca cb : Nat) (p q : List E) (c : E) (b : Int) (w : World) (hn : p.length = n) (hm : q.length = m) (hr : Rd w A (bs p)) (hs : Rd w C (bs q)) (hca : n ≤ ca) (hcb : m ≤ cb) (hla : n ≤ 2000000) (hlb : m ≤ 2000000) (hma : ca ≤ maxLen) (hb : (Lit.int .i64 b).wf = true) :
    Calls Try.prog 98 #[.int .i64 3, .slice A n ca, .slice C m cb, .int .u8 (c.val : Int), .int .i64 b] w (Asked 3 p q c b w) := by
  have hcl := c.lt
  go_enter Try.func98, Try.ntmps98
  go_wp2_with fail
  refine (polyTimes_n A C n m ca cb p q _ hn hm hr hs (by omega)).mono ?_
  rintro e w1 ⟨v, rfl, ho, hx⟩
  obtain ⟨A1, n1, c1, rfl⟩ : ∃ A n c, v = Value.slice A n c := by obtain ⟨A, c, h⟩ := ho.anySlice; exact ⟨_, _, _, h⟩
  go_wp2
  go_ret
  exact asked1 rfl hx ho (by have := timesL_le p q; omega)
set_option maxHeartbeats 2000000 in
theorem ask_4 (A C : Option Addr) (n m ca cb : Nat) (p q : List E) (c : E) (b : Int) (w : World) (hn : p.length = n) (hm : q.length = m) (hr : Rd w A (bs p)) (hs : Rd w C (bs q)) (hca : n ≤ ca) (hcb : m ≤ cb) (hla : n ≤ 2000000) (hlb : m ≤ 2000000) (hma : ca ≤ maxLen) (hb : (Lit.int .i64 b).wf = true) :
    Calls Try.prog 98 #[.int .i64 4, .slice A n ca, .slice C m cb, .int .u8 (c.val : Int), .int .i64 b] w (Asked 4 p q c b w) := by
  have hcl := c.lt
  go_enter Try.func98, Try.ntmps98
  go_wp2_with fail
  refine (polyDivide_all A C n m ca cb p q _ hn hm hr hs (by omega) (by omega) hca hcb).mono ?_
  rintro e w1 ⟨vs, vr, s, r, k, rfl, hd, hos, hor, hf, hx⟩
  have hls := hd.ls
  have hlr := hd.lr
  obtain ⟨A1, n1, c1, rfl⟩ : ∃ A n c, vs = Value.slice A n c := by obtain ⟨A, c, h⟩ := hos.anySlice; exact ⟨_, _, _, h⟩
  obtain ⟨A2, n2, c2, rfl⟩ : ∃ A n c, vr = Value.slice A n c := by obtain ⟨A, c, h⟩ := hor.anySlice; exact ⟨_, _, _, h⟩
  have HD := Lib.hid hd
  have HF := Lib.hid hf
  clear hd hf
  go_wp2
  go_ret
  exact asked2 ⟨s, r, k, HD.out, rfl⟩ hx hos hor HF.out (by omega) (by omega)
set_option maxHeartbeats 2000000 in
theorem ask_5 (A C : Option Addr) (n m ca cb : Nat) (p q : List E) (c : E) (b : Int) (w : World) (hn : p.length = n) (hm : q.length = m) (hr : Rd w A (bs p)) (hs : Rd w C (bs q)) (hca : n ≤ ca) (hcb : m ≤ cb) (hla : n ≤ 2000000) (hlb : m ≤ 2000000) (hma : ca ≤ maxLen) (hb : (Lit.int .i64 b).wf = true) :
    Calls Try.prog 98 #[.int .i64 5, .slice A n ca, .slice C m cb, .int .u8 (c.val : Int), .int .i64 b] w (Asked 5 p q c b w) := by
  have hcl := c.lt
  go_enter Try.func98, Try.ntmps98
  go_wp2_with fail
  refine (polyDerive_n A n ca p _ hn hr hca (by omega) hma).mono ?_
  rintro e w1 ⟨v, rfl, ho, hx⟩
  obtain ⟨A1, n1, c1, rfl⟩ : ∃ A n c, v = Value.slice A n c := by obtain ⟨A, c, h⟩ := ho.anySlice; exact ⟨_, _, _, h⟩
  go_wp2
  go_ret
  exact asked1 rfl hx ho (by have := deriveL_le p; omega)
set_option maxHeartbeats 2000000 in
theorem ask_6 (A C : Option Addr) (n m ca cb : Nat) (p q : List E) (c : E) (b : Int) (w : World) (hn : p.length = n) (hm : q.length = m) (hr : Rd w A (bs p)) (hs : Rd w C (bs q)) (hca : n ≤ ca) (hcb : m ≤ cb) (hla : n ≤ 2000000) (hlb : m ≤ 2000000) (hma : ca ≤ maxLen) (hb : (Lit.int .i64 b).wf = true) :
    Calls Try.prog 98 #[.int .i64 6, .slice A n ca, .slice C m cb, .int .u8 (c.val : Int), .int .i64 b] w (Asked 6 p q c b w) := by
  have hcl := c.lt
  go_enter Try.func98, Try.ntmps98
  go_wp2_with fail
  refine (polyVanish_n A n ca p _ hn hr (by omega)).mono ?_
  rintro e w1 ⟨v, rfl, ho, hx⟩
  obtain ⟨A1, n1, c1, rfl⟩ : ∃ A n c, v = Value.slice A n c := by obtain ⟨A, c, h⟩ := ho.anySlice; exact ⟨_, _, _, h⟩
  go_wp2
  go_ret
  exact asked1 rfl hx ho (by have := vanish_length p; omega)
set_option maxHeartbeats 2000000 in
theorem ask_7 (A C : Option Addr) (n m ca cb : Nat) (p q : List E) (c : E) (b : Int) (w : World) (hn : p.length = n) (hm : q.length = m) (hr : Rd w A (bs p)) (hs : Rd w C (bs q)) (hca : n ≤ ca) (hcb : m ≤ cb) (hla : n ≤ 2000000) (hlb : m ≤ 2000000) (hma : ca ≤ maxLen) (hb : (Lit.int .i64 b).wf = true) :
    Calls Try.prog 98 #[.int .i64 7, .slice A n ca, .slice C m cb, .int .u8 (c.val : Int), .int .i64 b] w (Asked 7 p q c b w) := by
  have hcl := c.lt
  go_enter Try.func98, Try.ntmps98
  go_wp2_with fail
  refine (polyThrough_all A C n m ca cb p q _ hn hm hr hs (by omega)).mono ?_
  rintro e w1 ⟨v, t, k, rfl, ht, ho, hx⟩
  have hl := ht.len
  have HT := Lib.hid ht
  clear ht
  obtain ⟨A1, n1, c1, rfl⟩ : ∃ A n c, v = Value.slice A n c := by obtain ⟨A, c, h⟩ := ho.anySlice; exact ⟨_, _, _, h⟩
  go_wp2
  go_ret
  exact asked1 ⟨t, k, HT.out, rfl⟩ hx ho (by omega)
set_option maxHeartbeats 2000000 in
theorem ask_8 (A C : Option Addr) (n m ca cb : Nat) (p q : List E) (c : E) (b : Int) (w : World) (hn : p.length = n) (hm : q.length = m) (hr : Rd w A (bs p)) (hs : Rd w C (bs q)) (hca : n ≤ ca) (hcb : m ≤ cb) (hla : n ≤ 2000000) (hlb : m ≤ 2000000) (hma : ca ≤ maxLen) (hb : (Lit.int .i64 b).wf = true) :
    Calls Try.prog 98 #[.int .i64 8, .slice A n ca, .slice C m cb, .int .u8 (c.val : Int), .int .i64 b] w (Asked 8 p q c b w) := by
  have hcl := c.lt
  go_enter Try.func98, Try.ntmps98
  go_wp2_with fail
  refine (polyRoots_n A n p ca _ hn hr (by omega)).mono ?_
  rintro e w1 ⟨v, rfl, ho, hx⟩
  obtain ⟨A1, n1, c1, rfl⟩ : ∃ A n c, v = Value.slice A n c := by obtain ⟨A, c, h⟩ := ho.anySlice; exact ⟨_, _, _, h⟩
  go_wp2
  go_ret
  exact asked1 rfl hx ho (by have := rootsTo_le p 256; show (rootsTo p 256).length ≤ _; omega)
set_option maxHeartbeats 2000000 in
theorem ask_9 (A C : Option Addr) (n m ca cb : Nat) (p q : List E) (c : E) (b : Int) (w : World) (hn : p.length = n) (hm : q.length = m) (hr : Rd w A (bs p)) (hs : Rd w C (bs q)) (hca : n ≤ ca) (hcb : m ≤ cb) (hla : n ≤ 2000000) (hlb : m ≤ 2000000) (hma : ca ≤ maxLen) (hb : (Lit.int .i64 b).wf = true) :
    Calls Try.prog 98 #[.int .i64 9, .slice A n ca, .slice C m cb, .int .u8 (c.val : Int), .int .i64 b] w (Asked 9 p q c b w) := by
  have hcl := c.lt
  rcases (show b < 0 ∨ 0 ≤ b by omega) with hneg | hge
  · go_enter Try.func98, Try.ntmps98
    go_wp2_with fail
    refine (polyPartial_neg A C n m ca cb b hneg _).mono ?_
    rintro e w1 ⟨rfl, rfl⟩
    go_wp2
    go_ret
    exact asked3 (n1 := 0) (n2 := 0) (.inl ⟨hneg, rfl⟩) (Ext.refl _) (Own.nil _ _ _) (Own.nil _ _ _) (Own.nil _ _ _) (Nat.le_refl _) (fun g h => by cases h) (fun g h => by cases h) (fun g h => by cases h) (by simp) (by simp) (by simp)
  · obtain ⟨k, rfl⟩ := Int.eq_ofNat_of_zero_le hge
    go_enter Try.func98, Try.ntmps98
    go_wp2_with fail
    refine (polyPartial_far A C n m ca cb p q k _ hn hm hr hs (by omega) (by omega) hca hcb hb).mono ?_
    rintro e w1 ⟨vg, vu, vv, r, rfl, hp, hog, hou, hov, hx, hl1, hl2, hl3, hex⟩
    have HP := Lib.hid hp
    have HEX := Lib.hid hex
    clear hp hex
    obtain ⟨A1, n1, c1, rfl⟩ : ∃ A n c, vg = Value.slice A n c := by obtain ⟨A, c, h⟩ := hog.anySlice; exact ⟨_, _, _, h⟩
    obtain ⟨A2, n2, c2, rfl⟩ : ∃ A n c, vu = Value.slice A n c := by obtain ⟨A, c, h⟩ := hou.anySlice; exact ⟨_, _, _, h⟩
    obtain ⟨A3, n3, c3, rfl⟩ : ∃ A n c, vv = Value.slice A n c := by obtain ⟨A, c, h⟩ := hov.anySlice; exact ⟨_, _, _, h⟩
    go_wp2
    go_ret
    obtain ⟨z1, z2, e1, e2, e3, e4⟩ := HEX.out
    exact asked3 (.inr ⟨k, rfl, r, HP.out, rfl⟩) hx hog hou hov e1 e2 e3 e4 (by omega) (by omega) (by omega)
set_option maxHeartbeats 2000000 in
theorem ask_10 (A C : Option Addr) (n m ca cb : Nat) (p q : List E) (c : E) (b : Int) (w : World) (hn : p.length = n) (hm : q.length = m) (hr : Rd w A (bs p)) (hs : Rd w C (bs q)) (hca : n ≤ ca) (hcb : m ≤ cb) (hla : n ≤ 2000000) (hlb : m ≤ 2000000) (hma : ca ≤ maxLen) (hb : (Lit.int .i64 b).wf = true) :
    Calls Try.prog 98 #[.int .i64 10, .slice A n ca, .slice C m cb, .int .u8 (c.val : Int), .int .i64 b] w (Asked 10 p q c b w) := by
  have hcl := c.lt
  have hdg := dg_le p
  obtain ⟨d, hd⟩ : ∃ d, dg p = d := ⟨_, rfl⟩
  have HD := Lib.hid hd
  have hw1 : wrap64 (((d : Nat) : Int) - 1 + 1) = (d : Int) := by rw [IntWalk.wrap64_in _ (by omega)]; omega
  have hd0 : d ≤ 2000000 := by omega
  have HB := Lib.hid (show #[Value.int .u8 ((d : Int) % 256), Value.int .u8 ((d : Int) / 256 % 256)] = (bs [E.of (d % 256), E.of (d / 256 % 256)]).toArray by
    simp only [bs, List.map_cons, List.map_nil, bv, E.val_of (show d % 256 < 256 by omega), E.val_of (show d / 256 % 256 < 256 by omega)]
    norm_cast)
  clear hd hdg
  go_enter Try.func98, Try.ntmps98
  go_wp2_with fail
  refine (degree_n A n p ca _ hn hr (by omega)).mono ?_
  rintro e w' ⟨rfl, rfl⟩
  rw [HD.out]
  go_wp2
  rw [HB.out]
  go_ret
  have h1 := own_lit w 34 [E.of (d % 256), E.of (d / 256 % 256)] (by simp)
  have h2 : Ans 10 p q c b [[E.of (d % 256), E.of (d / 256 % 256)]] := by show _ = _; rw [HD.out]
  have h3 := asked1 (w := w) h2 ((Ext.refl w).alloc _) h1 (by simp)
  rw [World.size_alloc] at h3
  exact h3
set_option maxHeartbeats 2000000 in
theorem ask_11 (A C : Option Addr) (n m ca cb : Nat) (p q : List E) (c : E) (b : Int) (w : World) (hn : p.length = n) (hm : q.length = m) (hr : Rd w A (bs p)) (hs : Rd w C (bs q)) (hca : n ≤ ca) (hcb : m ≤ cb) (hla : n ≤ 2000000) (hlb : m ≤ 2000000) (hma : ca ≤ maxLen) (hb : (Lit.int .i64 b).wf = true) :
    Calls Try.prog 98 #[.int .i64 11, .slice A n ca, .slice C m cb, .int .u8 (c.val : Int), .int .i64 b] w (Asked 11 p q c b w) := by
  have hcl := c.lt
  go_enter Try.func98, Try.ntmps98
  go_wp2_with fail
  refine (polyAt_n A n ca p c _ hn hr (by simp only [maxLen]; omega)).mono ?_
  rintro e w1 ⟨rfl, hx⟩
  go_wp2
  go_ret
  have h3 := asked1 (show Ans 11 p q c b [[evL p c]] from rfl) (hx.alloc _) ((own_lit w1 34 [evL p c] (by simp)).mono hx.le) (by simp)
  rw [World.size_alloc] at h3
  exact h3
set_option maxHeartbeats 2000000 in
theorem ask_12 (A C : Option Addr) (n m ca cb : Nat) (p q : List E) (c : E) (b : Int) (w : World) (hn : p.length = n) (hm : q.length = m) (hr : Rd w A (bs p)) (hs : Rd w C (bs q)) (hca : n ≤ ca) (hcb : m ≤ cb) (hla : n ≤ 2000000) (hlb : m ≤ 2000000) (hma : ca ≤ maxLen) (hb : (Lit.int .i64 b).wf = true) :
    Calls Try.prog 98 #[.int .i64 12, .slice A n ca, .slice C m cb, .int .u8 (c.val : Int), .int .i64 b] w (Asked 12 p q c b w) := by
  have hcl := c.lt
  go_enter Try.func98, Try.ntmps98
  go_wp2_with fail
  refine (polyPlus_n A none n 0 ca 0 p [] _ hn rfl hr (Rd.nil _ _) (by omega) (by omega)).mono ?_
  rintro e w1 ⟨v, rfl, ho, hx⟩
  obtain ⟨A1, n1, c1, rfl⟩ : ∃ A n c, v = Value.slice A n c := by obtain ⟨A, c, h⟩ := ho.anySlice; exact ⟨_, _, _, h⟩
  go_wp2
  go_ret
  exact asked1 rfl hx ho (by have := plusL_le p []; simp at this; omega)
set_option maxHeartbeats 2000000 in
theorem ask_13 (A C : Option Addr) (n m ca cb : Nat) (p q : List E) (c : E) (b : Int) (w : World) (hn : p.length = n) (hm : q.length = m) (hr : Rd w A (bs p)) (hs : Rd w C (bs q)) (hca : n ≤ ca) (hcb : m ≤ cb) (hla : n ≤ 2000000) (hlb : m ≤ 2000000) (hma : ca ≤ maxLen) (hb : (Lit.int .i64 b).wf = true) :
    Calls Try.prog 98 #[.int .i64 13, .slice A n ca, .slice C m cb, .int .u8 (c.val : Int), .int .i64 b] w (Asked 13 p q c b w) := by
  have hcl := c.lt
  go_enter Try.func98, Try.ntmps98
  go_wp2_with fail
  refine (polyPlus_n none A 0 n 0 ca [] p _ rfl hn (Rd.nil _ _) hr (by omega) (by omega)).mono ?_
  rintro e w1 ⟨v, rfl, ho, hx⟩
  obtain ⟨A1, n1, c1, rfl⟩ : ∃ A n c, v = Value.slice A n c := by obtain ⟨A, c, h⟩ := ho.anySlice; exact ⟨_, _, _, h⟩
  go_wp2
  go_ret
  exact asked1 rfl hx ho (by have := plusL_le [] p; simp at this; omega)
set_option maxHeartbeats 2000000 in
theorem ask_14 (A C : Option Addr) (n m ca cb : Nat) (p q : List E) (c : E) (b : Int) (w : World) (hn : p.length = n) (hm : q.length = m) (hr : Rd w A (bs p)) (hs : Rd w C (bs q)) (hca : n ≤ ca) (hcb : m ≤ cb) (hla : n ≤ 2000000) (hlb : m ≤ 2000000) (hma : ca ≤ maxLen) (hb : (Lit.int .i64 b).wf = true) :
    Calls Try.prog 98 #[.int .i64 14, .slice A n ca, .slice C m cb, .int .u8 (c.val : Int), .int .i64 b] w (Asked 14 p q c b w) := by
  have hcl := c.lt
  go_enter Try.func98, Try.ntmps98
  go_wp2_with fail
  refine (polyScale_n A n ca p 1 _ hn hr (by omega)).mono ?_
  rintro e w1 ⟨v, rfl, ho, hx⟩
  obtain ⟨A1, n1, c1, rfl⟩ : ∃ A n c, v = Value.slice A n c := by obtain ⟨A, c, h⟩ := ho.anySlice; exact ⟨_, _, _, h⟩
  go_wp2
  go_ret
  exact asked1 rfl hx ho (by have := scaleL_le p 1; omega)
set_option maxHeartbeats 2000000 in
theorem ask_15 (A C : Option Addr) (n m ca cb : Nat) (p q : List E) (c : E) (b : Int) (w : World) (hn : p.length = n) (hm : q.length = m) (hr : Rd w A (bs p)) (hs : Rd w C (bs q)) (hca : n ≤ ca) (hcb : m ≤ cb) (hla : n ≤ 2000000) (hlb : m ≤ 2000000) (hma : ca ≤ maxLen) (hb : (Lit.int .i64 b).wf = true) :
    Calls Try.prog 98 #[.int .i64 15, .slice A n ca, .slice C m cb, .int .u8 (c.val : Int), .int .i64 b] w (Asked 15 p q c b w) := by
  have hcl := c.lt
  have hk0 := own_lit w 34 [1] (by simp)
  have hk := Lib.hid hk0.rd
  clear hk0
  go_enter Try.func98, Try.ntmps98
  go_wp2_with fail
  refine (polyTimes_n A (some ⟨w.heap.size, 0, none⟩) n 1 ca 1 p [1] _ hn rfl (hr.alloc _) hk.out (by omega)).mono ?_
  rintro e w1 ⟨v, rfl, ho, hx⟩
  obtain ⟨A1, n1, c1, rfl⟩ : ∃ A n c, v = Value.slice A n c := by obtain ⟨A, c, h⟩ := ho.anySlice; exact ⟨_, _, _, h⟩
  go_wp2
  go_ret
  exact asked1 rfl (((Ext.refl w).alloc _).trans hx) (ho.mono (by simp)) (by have := timesL_le p [1]; simp at this; omega)
theorem ask_n (i : Nat) (hi : i < 16) (A C : Option Addr) (n m ca cb : Nat) (p q : List E) (c : E) (b : Int) (w : World) (hn : p.length = n) (hm : q.length = m) (hr : Rd w A (bs p)) (hs : Rd w C (bs q)) (hca : n ≤ ca) (hcb : m ≤ cb) (hla : n ≤ 2000000) (hlb : m ≤ 2000000) (hma : ca ≤ maxLen) (hb : (Lit.int .i64 b).wf = true) :
    Calls Try.prog 98 #[.int .i64 (i : Int), .slice A n ca, .slice C m cb, .int .u8 (c.val : Int), .int .i64 b] w (Asked i p q c b w) := by
  match i, hi with
  | 0, _ => exact ask_0 A C n m ca cb p q c b w hn hm hr hs hca hcb hla hlb hma hb
  | 1, _ => exact ask_1 A C n m ca cb p q c b w hn hm hr hs hca hcb hla hlb hma hb
  | 2, _ => exact ask_2 A C n m ca cb p q c b w hn hm hr hs hca hcb hla hlb hma hb
  | 3, _ => exact ask_3 A C n m ca cb p q c b w hn hm hr hs hca hcb hla hlb hma hb
  | 4, _ => exact ask_4 A C n m ca cb p q c b w hn hm hr hs hca hcb hla hlb hma hb
  | 5, _ => exact ask_5 A C n m ca cb p q c b w hn hm hr hs hca hcb hla hlb hma hb
  | 6, _ => exact ask_6 A C n m ca cb p q c b w hn hm hr hs hca hcb hla hlb hma hb
  | 7, _ => exact ask_7 A C n m ca cb p q c b w hn hm hr hs hca hcb hla hlb hma hb
  | 8, _ => exact ask_8 A C n m ca cb p q c b w hn hm hr hs hca hcb hla hlb hma hb
  | 9, _ => exact ask_9 A C n m ca cb p q c b w hn hm hr hs hca hcb hla hlb hma hb
  | 10, _ => exact ask_10 A C n m ca cb p q c b w hn hm hr hs hca hcb hla hlb hma hb
  | 11, _ => exact ask_11 A C n m ca cb p q c b w hn hm hr hs hca hcb hla hlb hma hb
  | 12, _ => exact ask_12 A C n m ca cb p q c b w hn hm hr hs hca hcb hla hlb hma hb
  | 13, _ => exact ask_13 A C n m ca cb p q c b w hn hm hr hs hca hcb hla hlb hma hb
  | 14, _ => exact ask_14 A C n m ca cb p q c b w hn hm hr hs hca hcb hla hlb hma hb
  | 15, _ => exact ask_15 A C n m ca cb p q c b w hn hm hr hs hca hcb hla hlb hma hb
  | k + 16, h => omega
end Go.Proofs.Ytemnlcfabaocbaa
