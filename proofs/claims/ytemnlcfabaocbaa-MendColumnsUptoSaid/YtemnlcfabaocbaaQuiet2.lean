/-
  A region that draws its order, whose operations only lay new memory: one walk of the lexical order, where each value is the same in every world beyond.
-/
import Derived.Test.YtemnlcfabaocbaaQuiet
import Derived.Test.YtemnlcfabaocbaaMem
namespace Go.Proofs.Ytemnlcfabaocbaa
open Go
set_option linter.unusedVariables false

/-- The worlds beyond. -/
def Beyond (W : World) := {w' : World // Ext W w'}
instance beyondSome (W : World) : Nonempty (Beyond W) := ⟨⟨W, Ext.refl W⟩⟩
section
variable {F : Fence} {n : Nat} {P : Program}
theorem region_beyond {id : Nat} {Q : Exit → Act → World → Prop} {a : Act} {w : World} {l : List Oper} (hm : P.follows .mixedOrders = true) (hB : Region.lexB .any l.toArray = true) (hnd : noDefer l.toArray = true)
    (h : wpQuietIn F n P l.toArray (fun w' => ∃ u : Beyond w, w' = u.1) (fun a' => ∀ w', (∃ u : Beyond w, w' = u.1) → Q .normal a' w') l a) : (Code.region id l.toArray true).wpIn F n P Q a w := by
  simp only [Region.lexB, Bool.and_eq_true] at hB
  refine wpIn_region_any hm (loudAny (C := fun w' => ∃ u : Beyond w, w' = u.1) (Q := fun a' => ∀ w', (∃ u : Beyond w, w' = u.1) → Q .normal a' w') hnd (fun _ w' hw' h => h w' hw') _ _ _ _ ⟨⟨w.drew, (Ext.refl w).drewN 1⟩, rfl⟩ ?_)
  exact wpAnyQIn_lex (md := .any) hB.1 l 0 (Array.replicate l.toArray.size false) a (by simp) (by simpa using hB.2) h
theorem region_beyond_plain {id : Nat} {Q : Exit → Act → World → Prop} {a : Act} {w : World} {l : List Oper} (hm : P.follows .mixedOrders = true) (hB : Region.lexB .any l.toArray = true) (hnd : noDefer l.toArray = true)
    (h : wpQuietIn Fence.wide 0 P l.toArray (fun w' => ∃ u : Beyond w, w' = u.1) (fun a' => ∀ w', (∃ u : Beyond w, w' = u.1) → Q .normal a' w') l a) : (Code.region id l.toArray true).wp P Q a w :=
  (wpIn_wide (n := 0)).1 (region_beyond hm hB hnd h)
/-- A call whose value is the same beyond. -/
theorem call_beyond {w : World} {u : Beyond w} {f : FuncId} {args : Array Value} {v : Value} (h : Calls P f args u.1 fun e w' => e = .returned v ∧ Ext u.1 w') :
    CallsIn Fence.wide n P f args u.1 fun e w'' => e = .returned v ∧ ∃ u' : Beyond w, w'' = u'.1 :=
  callsIn_wide.2 (h.mono fun e w' ⟨he, hx⟩ => ⟨he, ⟨⟨w', u.2.trans hx⟩, rfl⟩⟩)
theorem call_beyond0 {w : World} {u : Beyond w} {f : FuncId} {args : Array Value} {v : Value} (h : Calls P f args u.1 fun e w' => e = .returned v ∧ u.1 = w') :
    CallsIn Fence.wide n P f args u.1 fun e w'' => e = .returned v ∧ ∃ u' : Beyond w, w'' = u'.1 :=
  callsIn_wide.2 (h.mono fun e w' ⟨he, hx⟩ => ⟨he, ⟨u, hx.symm⟩⟩)
end
end Go.Proofs.Ytemnlcfabaocbaa
