/-
  Texts of mine, merged: TopH.
-/
import Derived.Test.YtdoeelfcihdmbaaRows
import Derived.WalkKit
import Derived.ProofKit
import Derived.OpenShut
/-
  The law through the layers: what the kernel reckons of the whole program, one fact a declaration (together they outgrow the lid on memory).
-/
namespace Go.Proofs.Ytdoeelfcihdmbaa
open Go.ChangeShapes Go.WideShapes Go.ChangeAt Go.RowKit
theorem top_enter : Try.pinned.checked.prog.mayEnter = true := by kernel_rfl
theorem top_lifts : (Rows.topFilesUptoRow.lifted == Try.pinned.checked.prog.liftsFinal) = true := by kernel_rfl
theorem top_make : (Try.pinned.checked.prog.make == some Rows.topFilesUptoRow.make) = true := by kernel_rfl
theorem top_closed : joinedFacts Try.pinned.checked.prog 5 Try.f5 (Rows.OpenSpec.upto Rows.topFilesSpec).bare Rows.topFilesUptoRow = true := by
  unfold joinedFacts
  rw [top_enter, top_lifts, top_make]
  kernel_rfl
end Go.Proofs.Ytdoeelfcihdmbaa
