/-
  No cell of these rows narrows 'for every input' (looked for: loops, veiled, ifaces, maps, wideKeys, modest, calm, conditions, laid).
  DERIVED. THE GIVEN ROWS OF THIS SEAT. 10 by the template 'for every input the law returns true; each argument reads behind the call as it read before'; 0 by the template 'total and deterministic' (their statements: YtdimanoodfepiaaTotals.lean).
  GIVEN WITH THE SEED: the statements are not yours to turn. If you find one false, say at which input.
  Laid BY PROGRAM, IN A SANDBOX (cutbox-rows.mjs): the forced cells as the released guide's own fill.sh prints them over the translation 2d55d7cdd5f03fef… (all of the seat's roots in one cut). By AI agents, Wed Nov 11 2026. No macro, syntax, notation, axiom, sorry.
-/
import Derived.Test.YtdimanoodfepiaaChecked
import GoSem.Claim
import GoSem.ClaimJoined
import GoSem.ClaimMapViews
import Derived.JoinedTies
import Derived.KernelRfl
namespace Go.Proofs.Ytdimanoodfepiaa
/- THE CELL 'sum', in the pinned program and in every row, IS THE sha256 OF THE DUMP (.gsa) THAT YtdimanoodfepiaaProg.lean LOADS. Nothing in Lean hashes anything: it is a label: what it is worth is what the hold of that sum in a sandbox is worth. -/
noncomputable def Try.pinned : Pinned := { name := "ytdimanoodfepiaa", sum := "2d55d7cdd5f03feffa45492acadd88e3ed5b164c754f8423206306f842fbf7f9", checked := Try.checked }
namespace Rows
def none {H : Type} : Left H := { results := [], args := [] }

/-- 'cairnlaw01.FieldNames': WHATEVER THE INPUT: true; the input reads as it did. -/
def fieldNamesSpec : ChangeSpec := { name := "fieldNames", fn := fun _ => fun
  | [] => { results := [.lit (.bool true)], args := [] }
  | _ => none }
def fieldNamesRow : OpenClaim := { program := "ytdimanoodfepiaa", sum := "2d55d7cdd5f03feffa45492acadd88e3ed5b164c754f8423206306f842fbf7f9", func := "cairn/cairnlaw01.FieldNames", spec := "fieldNames", apart := false }
def FieldNamesSaid : Prop := fieldNamesRow.holds Try.pinned (OpenSpec.ofChange fieldNamesSpec)

/-- ITS FALSE NEIGHBOUR: 'it returns false'. Refute it at one input. -/
def fieldNamesWrong : ChangeSpec := { name := "fieldNames", fn := fun _ => fun
  | [] => { results := [.lit (.bool false)], args := [] }
  | _ => none }
def FieldNamesWrongFalsely : Prop := fieldNamesRow.holds Try.pinned (OpenSpec.ofChange fieldNamesWrong)

/-- 'cairnlaw01.FieldBits': WHATEVER THE INPUT: true; the input reads as it did. -/
def fieldBitsSpec : ChangeSpec := { name := "fieldBits", fn := fun _ => fun
  | [d1, d2, d3] => { results := [.lit (.bool true)], args := [d1, d2, d3] }
  | _ => none }
def fieldBitsRow : OpenClaim := { program := "ytdimanoodfepiaa", sum := "2d55d7cdd5f03feffa45492acadd88e3ed5b164c754f8423206306f842fbf7f9", func := "cairn/cairnlaw01.FieldBits", spec := "fieldBits", apart := false }
def FieldBitsSaid : Prop := fieldBitsRow.holds Try.pinned (OpenSpec.ofChange fieldBitsSpec)

/-- ITS FALSE NEIGHBOUR: 'it returns false'. Refute it at one input. -/
def fieldBitsWrong : ChangeSpec := { name := "fieldBits", fn := fun _ => fun
  | [d1, d2, d3] => { results := [.lit (.bool false)], args := [d1, d2, d3] }
  | _ => none }
def FieldBitsWrongFalsely : Prop := fieldBitsRow.holds Try.pinned (OpenSpec.ofChange fieldBitsWrong)

/-- 'cairnlaw01.FieldMemory': WHATEVER THE INPUT: true; the input reads as it did. -/
def fieldMemorySpec : ChangeSpec := { name := "fieldMemory", fn := fun _ => fun
  | [d1, d2, d3, d4] => { results := [.lit (.bool true)], args := [d1, d2, d3, d4] }
  | _ => none }
def fieldMemoryRow : OpenClaim := { program := "ytdimanoodfepiaa", sum := "2d55d7cdd5f03feffa45492acadd88e3ed5b164c754f8423206306f842fbf7f9", func := "cairn/cairnlaw01.FieldMemory", spec := "fieldMemory", apart := false }
def FieldMemorySaid : Prop := fieldMemoryRow.holds Try.pinned (OpenSpec.ofChange fieldMemorySpec)

/-- ITS FALSE NEIGHBOUR: 'it returns false'. Refute it at one input. -/
def fieldMemoryWrong : ChangeSpec := { name := "fieldMemory", fn := fun _ => fun
  | [d1, d2, d3, d4] => { results := [.lit (.bool false)], args := [d1, d2, d3, d4] }
  | _ => none }
def FieldMemoryWrongFalsely : Prop := fieldMemoryRow.holds Try.pinned (OpenSpec.ofChange fieldMemoryWrong)

/-- 'cairnlaw01.FieldRows': WHATEVER THE INPUT: true; the input reads as it did. -/
def fieldRowsSpec : ChangeSpec := { name := "fieldRows", fn := fun _ => fun
  | [d1, d2, d3] => { results := [.lit (.bool true)], args := [d1, d2, d3] }
  | _ => none }
def fieldRowsRow : OpenClaim := { program := "ytdimanoodfepiaa", sum := "2d55d7cdd5f03feffa45492acadd88e3ed5b164c754f8423206306f842fbf7f9", func := "cairn/cairnlaw01.FieldRows", spec := "fieldRows", apart := false }
def FieldRowsSaid : Prop := fieldRowsRow.holds Try.pinned (OpenSpec.ofChange fieldRowsSpec)

/-- ITS FALSE NEIGHBOUR: 'it returns false'. Refute it at one input. -/
def fieldRowsWrong : ChangeSpec := { name := "fieldRows", fn := fun _ => fun
  | [d1, d2, d3] => { results := [.lit (.bool false)], args := [d1, d2, d3] }
  | _ => none }
def FieldRowsWrongFalsely : Prop := fieldRowsRow.holds Try.pinned (OpenSpec.ofChange fieldRowsWrong)

/-- 'cairnlaw01.FieldSquares': WHATEVER THE INPUT: true; the input reads as it did. -/
def fieldSquaresSpec : ChangeSpec := { name := "fieldSquares", fn := fun _ => fun
  | [d1, d2] => { results := [.lit (.bool true)], args := [d1, d2] }
  | _ => none }
def fieldSquaresRow : OpenClaim := { program := "ytdimanoodfepiaa", sum := "2d55d7cdd5f03feffa45492acadd88e3ed5b164c754f8423206306f842fbf7f9", func := "cairn/cairnlaw01.FieldSquares", spec := "fieldSquares", apart := false }
def FieldSquaresSaid : Prop := fieldSquaresRow.holds Try.pinned (OpenSpec.ofChange fieldSquaresSpec)

/-- ITS FALSE NEIGHBOUR: 'it returns false'. Refute it at one input. -/
def fieldSquaresWrong : ChangeSpec := { name := "fieldSquares", fn := fun _ => fun
  | [d1, d2] => { results := [.lit (.bool false)], args := [d1, d2] }
  | _ => none }
def FieldSquaresWrongFalsely : Prop := fieldSquaresRow.holds Try.pinned (OpenSpec.ofChange fieldSquaresWrong)

/-- 'cairnlaw01.FieldPairs': WHATEVER THE INPUT: true; the input reads as it did. -/
def fieldPairsSpec : ChangeSpec := { name := "fieldPairs", fn := fun _ => fun
  | [d1, d2] => { results := [.lit (.bool true)], args := [d1, d2] }
  | _ => none }
def fieldPairsRow : OpenClaim := { program := "ytdimanoodfepiaa", sum := "2d55d7cdd5f03feffa45492acadd88e3ed5b164c754f8423206306f842fbf7f9", func := "cairn/cairnlaw01.FieldPairs", spec := "fieldPairs", apart := false }
def FieldPairsSaid : Prop := fieldPairsRow.holds Try.pinned (OpenSpec.ofChange fieldPairsSpec)

/-- ITS FALSE NEIGHBOUR: 'it returns false'. Refute it at one input. -/
def fieldPairsWrong : ChangeSpec := { name := "fieldPairs", fn := fun _ => fun
  | [d1, d2] => { results := [.lit (.bool false)], args := [d1, d2] }
  | _ => none }
def FieldPairsWrongFalsely : Prop := fieldPairsRow.holds Try.pinned (OpenSpec.ofChange fieldPairsWrong)

/-- 'cairnlaw01.FieldLaws': WHATEVER THE INPUT: true; the input reads as it did. -/
def fieldLawsSpec : ChangeSpec := { name := "fieldLaws", fn := fun _ => fun
  | [d1, d2, d3] => { results := [.lit (.bool true)], args := [d1, d2, d3] }
  | _ => none }
def fieldLawsRow : OpenClaim := { program := "ytdimanoodfepiaa", sum := "2d55d7cdd5f03feffa45492acadd88e3ed5b164c754f8423206306f842fbf7f9", func := "cairn/cairnlaw01.FieldLaws", spec := "fieldLaws", apart := false }
def FieldLawsSaid : Prop := fieldLawsRow.holds Try.pinned (OpenSpec.ofChange fieldLawsSpec)

/-- ITS FALSE NEIGHBOUR: 'it returns false'. Refute it at one input. -/
def fieldLawsWrong : ChangeSpec := { name := "fieldLaws", fn := fun _ => fun
  | [d1, d2, d3] => { results := [.lit (.bool false)], args := [d1, d2, d3] }
  | _ => none }
def FieldLawsWrongFalsely : Prop := fieldLawsRow.holds Try.pinned (OpenSpec.ofChange fieldLawsWrong)

/-- 'cairnlaw01.FieldPowers': WHATEVER THE INPUT: true; the input reads as it did. -/
def fieldPowersSpec : ChangeSpec := { name := "fieldPowers", fn := fun _ => fun
  | [d1, d2] => { results := [.lit (.bool true)], args := [d1, d2] }
  | _ => none }
def fieldPowersRow : OpenClaim := { program := "ytdimanoodfepiaa", sum := "2d55d7cdd5f03feffa45492acadd88e3ed5b164c754f8423206306f842fbf7f9", func := "cairn/cairnlaw01.FieldPowers", spec := "fieldPowers", apart := false }
def FieldPowersSaid : Prop := fieldPowersRow.holds Try.pinned (OpenSpec.ofChange fieldPowersSpec)

/-- ITS FALSE NEIGHBOUR: 'it returns false'. Refute it at one input. -/
def fieldPowersWrong : ChangeSpec := { name := "fieldPowers", fn := fun _ => fun
  | [d1, d2] => { results := [.lit (.bool false)], args := [d1, d2] }
  | _ => none }
def FieldPowersWrongFalsely : Prop := fieldPowersRow.holds Try.pinned (OpenSpec.ofChange fieldPowersWrong)

/-- 'cairnlaw01.FieldCycle': WHATEVER THE INPUT: true; the input reads as it did. -/
def fieldCycleSpec : ChangeSpec := { name := "fieldCycle", fn := fun _ => fun
  | [d1, d2, d3] => { results := [.lit (.bool true)], args := [d1, d2, d3] }
  | _ => none }
def fieldCycleRow : OpenClaim := { program := "ytdimanoodfepiaa", sum := "2d55d7cdd5f03feffa45492acadd88e3ed5b164c754f8423206306f842fbf7f9", func := "cairn/cairnlaw01.FieldCycle", spec := "fieldCycle", apart := false }
def FieldCycleSaid : Prop := fieldCycleRow.holds Try.pinned (OpenSpec.ofChange fieldCycleSpec)

/-- ITS FALSE NEIGHBOUR: 'it returns false'. Refute it at one input. -/
def fieldCycleWrong : ChangeSpec := { name := "fieldCycle", fn := fun _ => fun
  | [d1, d2, d3] => { results := [.lit (.bool false)], args := [d1, d2, d3] }
  | _ => none }
def FieldCycleWrongFalsely : Prop := fieldCycleRow.holds Try.pinned (OpenSpec.ofChange fieldCycleWrong)

/-- 'cairnlaw01.FieldLinear': WHATEVER THE INPUT: true; the input reads as it did. -/
def fieldLinearSpec : ChangeSpec := { name := "fieldLinear", fn := fun _ => fun
  | [d1, d2, d3, d4] => { results := [.lit (.bool true)], args := [d1, d2, d3, d4] }
  | _ => none }
def fieldLinearRow : OpenClaim := { program := "ytdimanoodfepiaa", sum := "2d55d7cdd5f03feffa45492acadd88e3ed5b164c754f8423206306f842fbf7f9", func := "cairn/cairnlaw01.FieldLinear", spec := "fieldLinear", apart := false }
def FieldLinearSaid : Prop := fieldLinearRow.holds Try.pinned (OpenSpec.ofChange fieldLinearSpec)

/-- ITS FALSE NEIGHBOUR: 'it returns false'. Refute it at one input. -/
def fieldLinearWrong : ChangeSpec := { name := "fieldLinear", fn := fun _ => fun
  | [d1, d2, d3, d4] => { results := [.lit (.bool false)], args := [d1, d2, d3, d4] }
  | _ => none }
def FieldLinearWrongFalsely : Prop := fieldLinearRow.holds Try.pinned (OpenSpec.ofChange fieldLinearWrong)

/- THE SECOND FORM. 'bulk': how many values and letters a reading holds, each counted each time it is reached (what is shared counts as often as it is met; a slice's spare places count too). A statement '..UptoSaid' is the law's where the arguments, and the package variables that the reading takes, are together of bulk at most 1048576: NARROWER than '..Said'. Prove '..Said' where nothing that the law and all that it calls make is longer than what came in: it says more and counts as full. Else prove '..UptoSaid'. A law counts once. -/
mutual
def uptoBulk {H : Type} : DataW H → Nat
  | .lit (.string bytes) => bytes.length + 1
  | .lit _ => 1
  | .nil => 1
  | .ptr d => uptoBulk d + 1
  | .slice elems spare => uptoBulkAll elems + uptoBulkAll spare + 1
  | .agg parts => uptoBulkAll parts + 1
  | .iface _ d => uptoBulk d + 1
  | .map entries => uptoBulkEntries entries + 1
  | .held _ => 1
def uptoBulkAll {H : Type} : List (DataW H) → Nat
  | [] => 0
  | d :: r => uptoBulk d + uptoBulkAll r
def uptoBulkEntries {H : Type} : List (Lit × DataW H) → Nat
  | [] => 0
  | x :: r => uptoBulkEntry x + uptoBulkEntries r
def uptoBulkEntry {H : Type} : Lit × DataW H → Nat
  | (.string bytes, d) => bytes.length + uptoBulk d + 1
  | (_, d) => uptoBulk d + 1
 end
def uptoSmall : (H : Type) → List (DataW H) → Bool := fun _ ds => decide (uptoBulkAll ds ≤ 1048576)
def OpenSpec.upto (s : _root_.Go.ChangeSpec) : _root_.Go.OpenSpec := { _root_.Go.OpenSpec.ofChange s with cond := some uptoSmall }

/-- 'cairnlaw01.FieldNames', WHERE WHAT IT READS IS OF BULK AT MOST 1048576: true; the input reads as it did. -/
def fieldNamesUptoRow : OpenClaim := { program := "ytdimanoodfepiaa", sum := "2d55d7cdd5f03feffa45492acadd88e3ed5b164c754f8423206306f842fbf7f9", func := "cairn/cairnlaw01.FieldNames", spec := "fieldNames", apart := false, narrowed := true }
def FieldNamesUptoSaid : Prop := fieldNamesUptoRow.holds Try.pinned (OpenSpec.upto fieldNamesSpec)

/-- 'cairnlaw01.FieldBits', WHERE WHAT IT READS IS OF BULK AT MOST 1048576: true; the input reads as it did. -/
def fieldBitsUptoRow : OpenClaim := { program := "ytdimanoodfepiaa", sum := "2d55d7cdd5f03feffa45492acadd88e3ed5b164c754f8423206306f842fbf7f9", func := "cairn/cairnlaw01.FieldBits", spec := "fieldBits", apart := false, narrowed := true }
def FieldBitsUptoSaid : Prop := fieldBitsUptoRow.holds Try.pinned (OpenSpec.upto fieldBitsSpec)

/-- 'cairnlaw01.FieldMemory', WHERE WHAT IT READS IS OF BULK AT MOST 1048576: true; the input reads as it did. -/
def fieldMemoryUptoRow : OpenClaim := { program := "ytdimanoodfepiaa", sum := "2d55d7cdd5f03feffa45492acadd88e3ed5b164c754f8423206306f842fbf7f9", func := "cairn/cairnlaw01.FieldMemory", spec := "fieldMemory", apart := false, narrowed := true }
def FieldMemoryUptoSaid : Prop := fieldMemoryUptoRow.holds Try.pinned (OpenSpec.upto fieldMemorySpec)

/-- 'cairnlaw01.FieldRows', WHERE WHAT IT READS IS OF BULK AT MOST 1048576: true; the input reads as it did. -/
def fieldRowsUptoRow : OpenClaim := { program := "ytdimanoodfepiaa", sum := "2d55d7cdd5f03feffa45492acadd88e3ed5b164c754f8423206306f842fbf7f9", func := "cairn/cairnlaw01.FieldRows", spec := "fieldRows", apart := false, narrowed := true }
def FieldRowsUptoSaid : Prop := fieldRowsUptoRow.holds Try.pinned (OpenSpec.upto fieldRowsSpec)

/-- 'cairnlaw01.FieldSquares', WHERE WHAT IT READS IS OF BULK AT MOST 1048576: true; the input reads as it did. -/
def fieldSquaresUptoRow : OpenClaim := { program := "ytdimanoodfepiaa", sum := "2d55d7cdd5f03feffa45492acadd88e3ed5b164c754f8423206306f842fbf7f9", func := "cairn/cairnlaw01.FieldSquares", spec := "fieldSquares", apart := false, narrowed := true }
def FieldSquaresUptoSaid : Prop := fieldSquaresUptoRow.holds Try.pinned (OpenSpec.upto fieldSquaresSpec)

/-- 'cairnlaw01.FieldPairs', WHERE WHAT IT READS IS OF BULK AT MOST 1048576: true; the input reads as it did. -/
def fieldPairsUptoRow : OpenClaim := { program := "ytdimanoodfepiaa", sum := "2d55d7cdd5f03feffa45492acadd88e3ed5b164c754f8423206306f842fbf7f9", func := "cairn/cairnlaw01.FieldPairs", spec := "fieldPairs", apart := false, narrowed := true }
def FieldPairsUptoSaid : Prop := fieldPairsUptoRow.holds Try.pinned (OpenSpec.upto fieldPairsSpec)

/-- 'cairnlaw01.FieldLaws', WHERE WHAT IT READS IS OF BULK AT MOST 1048576: true; the input reads as it did. -/
def fieldLawsUptoRow : OpenClaim := { program := "ytdimanoodfepiaa", sum := "2d55d7cdd5f03feffa45492acadd88e3ed5b164c754f8423206306f842fbf7f9", func := "cairn/cairnlaw01.FieldLaws", spec := "fieldLaws", apart := false, narrowed := true }
def FieldLawsUptoSaid : Prop := fieldLawsUptoRow.holds Try.pinned (OpenSpec.upto fieldLawsSpec)

/-- 'cairnlaw01.FieldPowers', WHERE WHAT IT READS IS OF BULK AT MOST 1048576: true; the input reads as it did. -/
def fieldPowersUptoRow : OpenClaim := { program := "ytdimanoodfepiaa", sum := "2d55d7cdd5f03feffa45492acadd88e3ed5b164c754f8423206306f842fbf7f9", func := "cairn/cairnlaw01.FieldPowers", spec := "fieldPowers", apart := false, narrowed := true }
def FieldPowersUptoSaid : Prop := fieldPowersUptoRow.holds Try.pinned (OpenSpec.upto fieldPowersSpec)

/-- 'cairnlaw01.FieldCycle', WHERE WHAT IT READS IS OF BULK AT MOST 1048576: true; the input reads as it did. -/
def fieldCycleUptoRow : OpenClaim := { program := "ytdimanoodfepiaa", sum := "2d55d7cdd5f03feffa45492acadd88e3ed5b164c754f8423206306f842fbf7f9", func := "cairn/cairnlaw01.FieldCycle", spec := "fieldCycle", apart := false, narrowed := true }
def FieldCycleUptoSaid : Prop := fieldCycleUptoRow.holds Try.pinned (OpenSpec.upto fieldCycleSpec)

/-- 'cairnlaw01.FieldLinear', WHERE WHAT IT READS IS OF BULK AT MOST 1048576: true; the input reads as it did. -/
def fieldLinearUptoRow : OpenClaim := { program := "ytdimanoodfepiaa", sum := "2d55d7cdd5f03feffa45492acadd88e3ed5b164c754f8423206306f842fbf7f9", func := "cairn/cairnlaw01.FieldLinear", spec := "fieldLinear", apart := false, narrowed := true }
def FieldLinearUptoSaid : Prop := fieldLinearUptoRow.holds Try.pinned (OpenSpec.upto fieldLinearSpec)

end Rows
end Go.Proofs.Ytdimanoodfepiaa
