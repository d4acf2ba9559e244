/-
  The arguments of a law opened: bytes that came in, and how large they can be.
-/
import Derived.Test.YtemnlcfabaocbaaBits
import Derived.Test.YtemnlcfabaocbaaMem
import Derived.Test.YtemnlcfabaocbaaPost
import Derived.SizedLaws
import Derived.ChangeSlices
import Derived.OpenShut
namespace Go.Proofs.Ytemnlcfabaocbaa
open Go.ChangeShapes Go.WideShapes Go.ChangeAt Go.RowKit Gf

section
variable {H : Type} {enc : TypeId × Value → H} {P : Program} {w : World}
theorem weights_at {ts : List TypeId} {ds : List (DataW H)} (h : (DataW.weightsEach P ts ds).all (· ≤ reachBytes) = true) (j : Nat) {t : TypeId} {d : DataW H} (ht : ts[j]? = some t) (hd : ds[j]? = some d) :
    ∀ n ∈ d.weights P t, n ≤ reachBytes := fun n hn => by
  have := List.all_eq_true.1 h _ (DataW.weights_mem_each ht hd n hn)
  simpa using this
theorem lits_length (k : IntKind) (l : List Int) : (lits (H := H) k l).length = l.length := by simp [lits]
/-- A row of bytes that came in. -/
theorem open_bytes {base : Nat} {held : Bool} {t e : TypeId} {fuel : Nat} {v : Value} {d : DataW H} {p : List MemPlace} (ht : P.underlying t = some (.slice e)) (he : P.underlying e = some (.int .u8)) (hc : P.cellsOf e = 1) (hb : P.bytesOf e = 1)
    (hv : ∃ A n c, v = .slice A n c) (h : DataW.trod enc P w base (fun _ => true) held fuel t v.cells.toList = some (d, p)) (hw : ∀ n ∈ d.weights P t, n ≤ reachBytes) :
    ∃ (A : Option Addr) (cap : Nat) (xs : List E), v = .slice A xs.length cap ∧ Rd w A (bs xs) ∧ xs.length ≤ cap ∧ cap ≤ 140737488351232 := by
  obtain ⟨A, n, c, rfl⟩ := hv
  rcases open_ints ht he hc h with ⟨hcs, _⟩ | ⟨x, l, c', zs, hcs, _, hl, hm, hz, hx, hcell, hwz⟩
  · simp [Value.cells] at hcs
    obtain ⟨rfl, rfl, rfl⟩ := hcs
    exact ⟨none, 0, [], rfl, Rd.nil _ _, Nat.le_refl _, by omega⟩
  · simp [Value.cells] at hcs
    obtain ⟨rfl, rfl, rfl⟩ := hcs
    simp only [if_true] at hz
    have hd : d = .slice (lits .u8 (zs.take n)) (lits .u8 (zs.drop n)) := (Prod.mk.inj hx).1
    have hsz := hw ((zs.take n).length + (zs.drop n).length) (by rw [hd]; simp [DataW.weights, ht, hb, lits_length])
    have hcap : c ≤ 140737488351232 := by
      have e : reachBytes = 140737488351232 := by decide
      rw [e] at hsz
      simp only [List.length_take, List.length_drop] at hsz
      omega
    have hE : ∀ i, i < zs.length → ∃ x : E, zs.getD i 0 = (x.val : Int) := fun i hi => by
      have : zs.getD i 0 ∈ zs := by
        rw [List.getD_eq_getElem?_getD, List.getElem?_eq_getElem hi]
        exact List.getElem_mem hi
      exact toE (hwz _ this)
    let f : Nat → E := fun i => ⟨(zs.getD i 0).toNat % 256, Nat.mod_lt _ (by decide)⟩
    have hf : ∀ i, i < zs.length → zs.getD i 0 = ((f i).val : Int) := fun i hi => by
      obtain ⟨x, hx⟩ := hE i hi
      have hlt := x.lt
      show zs.getD i 0 = (((zs.getD i 0).toNat % 256 : Nat) : Int)
      rw [hx]
      omega
    refine ⟨some x, c, (List.range n).map f, by simp, fun _ => ⟨x, rfl, fun j u hu => ?_⟩, by simpa using hl, hcap⟩
    have hj : j < n := by
      have := (List.getElem?_eq_some_iff.1 hu).1
      simpa [bs] using this
    rw [hcell j (by omega), hf j (by omega)]
    rw [bs, List.getElem?_map, List.getElem?_map, List.getElem?_range hj] at hu
    simpa [bv] using hu
end
end Go.Proofs.Ytemnlcfabaocbaa
