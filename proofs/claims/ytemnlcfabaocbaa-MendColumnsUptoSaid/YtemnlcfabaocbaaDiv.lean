/-
  What the division's rounds come to, in plain terms.
-/
import Derived.Test.YtemnlcfabaocbaaBack
import Derived.Test.YtemnlcfabaocbaaPoly3
namespace Go.Proofs.Ytemnlcfabaocbaa
open Gf

theorem Back.split {len : Nat} {ok : Nat → E → Prop} {k : Nat} {ys : List (Nat × E)} (h : Back len ok (k + 1) ys) : ∃ z ys', ys = ys' ++ [(len - 1 - k, z)] ∧ Back len ok k ys' ∧ ok (len - 1 - k) z := by
  obtain ⟨z, hz, ho⟩ := h.2 k (by omega)
  have hl := h.1
  have h2 : k < ys.length := by omega
  have h3 := List.take_succ_eq_append_getElem h2
  rw [List.take_of_length_le (by omega)] at h3
  have h4 : ys[k] = (len - 1 - k, z) := by
    rw [List.getElem?_eq_getElem h2] at hz
    exact Option.some.inj hz
  rw [h4] at h3
  refine ⟨z, ys.take k, h3, ⟨by rw [List.length_take]; omega, fun j hj => ?_⟩, ho⟩
  obtain ⟨z', hz', ho'⟩ := h.2 j (by omega)
  exact ⟨z', by rw [List.getElem?_take_of_lt hj]; exact hz', ho'⟩

/-- f with the first i coefficients of c q added from a on. -/
def divT (f : S) (q : List E) (c : E) (a i : Nat) : S := fun t => f t + (if a ≤ t ∧ t < a + i then c * ser q (t - a) else 0)
theorem divT_zero (f : S) (q : List E) (c : E) (a : Nat) : divT f q c a 0 = f := funext fun t => by
  rw [divT, if_neg (by omega), E.add_zero]
theorem divT_step (f : S) (q : List E) (c : E) (a i : Nat) : upd (divT f q c a i) (a + i) (divT f q c a i (a + i) + c * ser q i) = divT f q c a (i + 1) := funext fun t => by
  rw [upd]
  by_cases h : t = a + i
  · subst h
    rw [if_pos rfl, divT, if_neg (by omega), E.add_zero, divT, if_pos (by omega), show a + i - a = i by omega]
  · rw [if_neg h, divT, divT]
    congr 1
    by_cases h1 : a ≤ t ∧ t < a + i
    · rw [if_pos h1, if_pos (by omega)]
    · rw [if_neg h1, if_neg (by omega)]
theorem divT_all {q : List E} {d : Nat} (hq : S.Dlt (ser q) (d + 1)) (f : S) (c : E) (a : Nat) : divT f q c a (d + 1) = S.add f (S.smul c (S.shN a (ser q))) := funext fun t => by
  simp only [divT, S.add, S.smul, S.shN]
  congr 1
  by_cases h : a ≤ t
  · by_cases h2 : t < a + (d + 1)
    · rw [if_pos ⟨h, h2⟩, if_neg (by omega)]
    · rw [if_neg (by omega), if_neg (by omega), hq (t - a) (by omega), E.mul_zero]
  · rw [if_neg (by omega), if_pos (by omega), E.mul_zero]
def dstep (q : List E) (d : Nat) (lead : E) (st : S × S) (a : Nat) : S × S := (divT st.1 q (st.1 (a + d) * lead) a (d + 1), upd st.2 a (st.1 (a + d) * lead))
def dfold (q : List E) (d : Nat) (lead : E) (st : S × S) (ys : List (Nat × E)) : S × S := ys.foldl (fun st y => dstep q d lead st y.1) st
theorem dfold_snoc (q : List E) (d : Nat) (lead : E) (st : S × S) (ys : List (Nat × E)) (y : Nat × E) : dfold q d lead st (ys ++ [y]) = dstep q d lead (dfold q d lead st ys) y.1 := by simp [dfold]
theorem upd_mono (f : S) (a : Nat) (c : E) (h : f a = 0) : upd f a c = S.add f (S.mono c a) := funext fun t => by
  simp only [upd, S.add, S.mono]
  by_cases e : t = a
  · subst e; rw [if_pos rfl, if_pos rfl, h, E.zero_add]
  · rw [if_neg e, if_neg e, E.add_zero]
theorem dfold_ok {ns d : Nat} {ok : Nat → E → Prop} {q : List E} {lead : E} {f0 : S} (hq : S.Dlt (ser q) (d + 1)) (hl : lead * ser q d = 1) (hf : S.Dlt f0 (d + ns)) :
    ∀ (k : Nat) (ys : List (Nat × E)), k ≤ ns → Back ns ok k ys →
      S.add (dfold q d lead (f0, S.zero) ys).1 (S.mul (dfold q d lead (f0, S.zero) ys).2 (ser q)) = f0 ∧ S.Dlt (dfold q d lead (f0, S.zero) ys).1 (d + (ns - k)) ∧
      (∀ i, i < ns - k → (dfold q d lead (f0, S.zero) ys).2 i = 0) ∧ S.Dlt (dfold q d lead (f0, S.zero) ys).2 ns
  | 0, ys, _, h => by
    obtain rfl : ys = [] := List.length_eq_zero_iff.1 h.1
    exact ⟨by show S.add f0 (S.mul S.zero (ser q)) = f0; rw [S.zero_mul, S.add_zero], hf, fun _ _ => rfl, S.dlt_zero _⟩
  | k + 1, ys, hk, h => by
    obtain ⟨z, ys', rfl, hb, _⟩ := h.split
    obtain ⟨h1, h2, h3, h4⟩ := dfold_ok hq hl hf k ys' (by omega) hb
    rw [dfold_snoc]
    generalize dfold q d lead (f0, S.zero) ys' = st at *
    obtain ⟨a, ha⟩ : ∃ a, a = ns - 1 - k := ⟨_, rfl⟩
    have ha1 : a < ns - k := by omega
    have hz := h3 a ha1
    show S.add (dstep q d lead st (ns - 1 - k)).1 _ = _ ∧ _
    rw [← ha]
    simp only [dstep]
    generalize hc : st.1 (a + d) * lead = c
    rw [divT_all hq, upd_mono _ _ _ hz]
    refine ⟨?_, ?_, ?_, ?_⟩
    · rw [S.add_mul, S.mono_mul, S.add_assoc, S.add_comm (S.mul st.2 (ser q)), ← S.add_assoc (S.smul c (S.shN a (ser q))), S.add_self, S.zero_add, h1]
    · intro t ht
      simp only [S.add, S.smul, S.shN]
      by_cases e : t = a + d
      · subst e
        rw [if_neg (by omega), show a + d - a = d by omega, ← hc, E.mul_assoc, hl, E.mul_one, E.add_self]
      · rw [h2 t (by omega), if_neg (by omega), hq (t - a) (by omega), E.mul_zero, E.add_zero]
    · intro i hi
      simp only [S.add, S.mono]
      rw [h3 i (by omega), if_neg (by omega), E.add_zero]
    · intro i hi
      simp only [S.add, S.mono]
      rw [h4 i hi, if_neg (by omega), E.add_zero]
end Go.Proofs.Ytemnlcfabaocbaa
