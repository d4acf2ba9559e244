/-
  No cell of these rows narrows 'for every input' (looked for: loops, veiled, ifaces, maps, wideKeys, modest, calm, conditions, laid).
  DERIVED. THE GIVEN ROWS OF THIS SEAT. 21 by the template 'for every input the law returns true; each argument reads behind the call as it read before'; 0 by the template 'total and deterministic' (their statements: YtdoeelfcihdmbaaTotals.lean).
  GIVEN WITH THE SEED: the statements are not yours to turn. If you find one false, say at which input.
  Laid BY PROGRAM, IN A SANDBOX (cutbox-rows.mjs): the forced cells as the released guide's own fill.sh prints them over the translation 6c22fc6d756f7f57… (all of the seat's roots in one cut). By AI agents, Wed Nov 11 2026. No macro, syntax, notation, axiom, sorry.
-/
import Derived.Test.YtdoeelfcihdmbaaChecked
import GoSem.Claim
import GoSem.ClaimJoined
import GoSem.ClaimMapViews
import Derived.JoinedTies
import Derived.KernelRfl
namespace Go.Proofs.Ytdoeelfcihdmbaa
/- THE CELL 'sum', in the pinned program and in every row, IS THE sha256 OF THE DUMP (.gsa) THAT YtdoeelfcihdmbaaProg.lean LOADS. Nothing in Lean hashes anything: it is a label: what it is worth is what the hold of that sum in a sandbox is worth. -/
noncomputable def Try.pinned : Pinned := { name := "ytdoeelfcihdmbaa", sum := "6c22fc6d756f7f577bf41ab8859dcf37048ff0444393a41fb32f6170802cf8f4", checked := Try.checked }
namespace Rows
def none {H : Type} : Left H := { results := [], args := [] }

/-- 'cairnlaw05.MendRadius': WHATEVER THE INPUT: true; the input reads as it did. -/
def mendRadiusSpec : ChangeSpec := { name := "mendRadius", fn := fun _ => fun
  | [d1, d2, d3] => { results := [.lit (.bool true)], args := [d1, d2, d3] }
  | _ => none }
def mendRadiusRow : OpenClaim := { program := "ytdoeelfcihdmbaa", sum := "6c22fc6d756f7f577bf41ab8859dcf37048ff0444393a41fb32f6170802cf8f4", func := "cairn/cairnlaw05.MendRadius", spec := "mendRadius", apart := false }
def MendRadiusSaid : Prop := mendRadiusRow.holds Try.pinned (OpenSpec.ofChange mendRadiusSpec)

/-- ITS FALSE NEIGHBOUR: 'it returns false'. Refute it at one input. -/
def mendRadiusWrong : ChangeSpec := { name := "mendRadius", fn := fun _ => fun
  | [d1, d2, d3] => { results := [.lit (.bool false)], args := [d1, d2, d3] }
  | _ => none }
def MendRadiusWrongFalsely : Prop := mendRadiusRow.holds Try.pinned (OpenSpec.ofChange mendRadiusWrong)

/-- 'cairnlaw02.PolyRoots': WHATEVER THE INPUT: true; the input reads as it did. -/
def polyRootsSpec : ChangeSpec := { name := "polyRoots", fn := fun _ => fun
  | [d] => { results := [.lit (.bool true)], args := [d] }
  | _ => none }
def polyRootsRow : OpenClaim := { program := "ytdoeelfcihdmbaa", sum := "6c22fc6d756f7f577bf41ab8859dcf37048ff0444393a41fb32f6170802cf8f4", func := "cairn/cairnlaw02.PolyRoots", spec := "polyRoots", unfollowed := true, recurses := true, apart := false }
def PolyRootsSaid : Prop := polyRootsRow.holds Try.pinned (OpenSpec.ofChange polyRootsSpec)

/-- ITS FALSE NEIGHBOUR: 'it returns false'. Refute it at one input. -/
def polyRootsWrong : ChangeSpec := { name := "polyRoots", fn := fun _ => fun
  | [d] => { results := [.lit (.bool false)], args := [d] }
  | _ => none }
def PolyRootsWrongFalsely : Prop := polyRootsRow.holds Try.pinned (OpenSpec.ofChange polyRootsWrong)

/-- 'cairntop.TopFiles': WHATEVER THE INPUT: true; the input reads as it did. -/
def topFilesSpec : ChangeSpec := { name := "topFiles", fn := fun _ => fun
  | [d] => { results := [.lit (.bool true)], args := [d] }
  | _ => none }
def topFilesRow : OpenClaim := { program := "ytdoeelfcihdmbaa", sum := "6c22fc6d756f7f577bf41ab8859dcf37048ff0444393a41fb32f6170802cf8f4", func := "cairn/cairntop.TopFiles", spec := "topFiles", inPlace := ["internal/bytealg.MakeNoZero"], unfollowed := true, recurses := true, apart := false }
def TopFilesSaid : Prop := topFilesRow.holds Try.pinned (OpenSpec.ofChange topFilesSpec)

/-- ITS FALSE NEIGHBOUR: 'it returns false'. Refute it at one input. -/
def topFilesWrong : ChangeSpec := { name := "topFiles", fn := fun _ => fun
  | [d] => { results := [.lit (.bool false)], args := [d] }
  | _ => none }
def TopFilesWrongFalsely : Prop := topFilesRow.holds Try.pinned (OpenSpec.ofChange topFilesWrong)

/-- 'cairnlaw02.PolyTrims': WHATEVER THE INPUT: true; the input reads as it did. -/
def polyTrimsSpec : ChangeSpec := { name := "polyTrims", fn := fun _ => fun
  | [d1, d2] => { results := [.lit (.bool true)], args := [d1, d2] }
  | _ => none }
def polyTrimsRow : OpenClaim := { program := "ytdoeelfcihdmbaa", sum := "6c22fc6d756f7f577bf41ab8859dcf37048ff0444393a41fb32f6170802cf8f4", func := "cairn/cairnlaw02.PolyTrims", spec := "polyTrims", unfollowed := true, recurses := true, apart := false }
def PolyTrimsSaid : Prop := polyTrimsRow.holds Try.pinned (OpenSpec.ofChange polyTrimsSpec)

/-- ITS FALSE NEIGHBOUR: 'it returns false'. Refute it at one input. -/
def polyTrimsWrong : ChangeSpec := { name := "polyTrims", fn := fun _ => fun
  | [d1, d2] => { results := [.lit (.bool false)], args := [d1, d2] }
  | _ => none }
def PolyTrimsWrongFalsely : Prop := polyTrimsRow.holds Try.pinned (OpenSpec.ofChange polyTrimsWrong)

/-- 'cairnlaw02.PolySums': WHATEVER THE INPUT: true; the input reads as it did. -/
def polySumsSpec : ChangeSpec := { name := "polySums", fn := fun _ => fun
  | [d1, d2, d3] => { results := [.lit (.bool true)], args := [d1, d2, d3] }
  | _ => none }
def polySumsRow : OpenClaim := { program := "ytdoeelfcihdmbaa", sum := "6c22fc6d756f7f577bf41ab8859dcf37048ff0444393a41fb32f6170802cf8f4", func := "cairn/cairnlaw02.PolySums", spec := "polySums", unfollowed := true, recurses := true, apart := false }
def PolySumsSaid : Prop := polySumsRow.holds Try.pinned (OpenSpec.ofChange polySumsSpec)

/-- ITS FALSE NEIGHBOUR: 'it returns false'. Refute it at one input. -/
def polySumsWrong : ChangeSpec := { name := "polySums", fn := fun _ => fun
  | [d1, d2, d3] => { results := [.lit (.bool false)], args := [d1, d2, d3] }
  | _ => none }
def PolySumsWrongFalsely : Prop := polySumsRow.holds Try.pinned (OpenSpec.ofChange polySumsWrong)

/-- 'cairnlaw02.PolyDivides': WHATEVER THE INPUT: true; the input reads as it did. -/
def polyDividesSpec : ChangeSpec := { name := "polyDivides", fn := fun _ => fun
  | [d1, d2] => { results := [.lit (.bool true)], args := [d1, d2] }
  | _ => none }
def polyDividesRow : OpenClaim := { program := "ytdoeelfcihdmbaa", sum := "6c22fc6d756f7f577bf41ab8859dcf37048ff0444393a41fb32f6170802cf8f4", func := "cairn/cairnlaw02.PolyDivides", spec := "polyDivides", unfollowed := true, recurses := true, apart := false }
def PolyDividesSaid : Prop := polyDividesRow.holds Try.pinned (OpenSpec.ofChange polyDividesSpec)

/-- ITS FALSE NEIGHBOUR: 'it returns false'. Refute it at one input. -/
def polyDividesWrong : ChangeSpec := { name := "polyDivides", fn := fun _ => fun
  | [d1, d2] => { results := [.lit (.bool false)], args := [d1, d2] }
  | _ => none }
def PolyDividesWrongFalsely : Prop := polyDividesRow.holds Try.pinned (OpenSpec.ofChange polyDividesWrong)

/-- 'cairnlaw02.PolyThroughs': WHATEVER THE INPUT: true; the input reads as it did. -/
def polyThroughsSpec : ChangeSpec := { name := "polyThroughs", fn := fun _ => fun
  | [d1, d2] => { results := [.lit (.bool true)], args := [d1, d2] }
  | _ => none }
def polyThroughsRow : OpenClaim := { program := "ytdoeelfcihdmbaa", sum := "6c22fc6d756f7f577bf41ab8859dcf37048ff0444393a41fb32f6170802cf8f4", func := "cairn/cairnlaw02.PolyThroughs", spec := "polyThroughs", unfollowed := true, recurses := true, apart := false }
def PolyThroughsSaid : Prop := polyThroughsRow.holds Try.pinned (OpenSpec.ofChange polyThroughsSpec)

/-- ITS FALSE NEIGHBOUR: 'it returns false'. Refute it at one input. -/
def polyThroughsWrong : ChangeSpec := { name := "polyThroughs", fn := fun _ => fun
  | [d1, d2] => { results := [.lit (.bool false)], args := [d1, d2] }
  | _ => none }
def PolyThroughsWrongFalsely : Prop := polyThroughsRow.holds Try.pinned (OpenSpec.ofChange polyThroughsWrong)

/-- 'cairnlaw02.PolyPartials': WHATEVER THE INPUT: true; the input reads as it did. -/
def polyPartialsSpec : ChangeSpec := { name := "polyPartials", fn := fun _ => fun
  | [d1, d2, d3] => { results := [.lit (.bool true)], args := [d1, d2, d3] }
  | _ => none }
def polyPartialsRow : OpenClaim := { program := "ytdoeelfcihdmbaa", sum := "6c22fc6d756f7f577bf41ab8859dcf37048ff0444393a41fb32f6170802cf8f4", func := "cairn/cairnlaw02.PolyPartials", spec := "polyPartials", unfollowed := true, recurses := true, apart := false }
def PolyPartialsSaid : Prop := polyPartialsRow.holds Try.pinned (OpenSpec.ofChange polyPartialsSpec)

/-- ITS FALSE NEIGHBOUR: 'it returns false'. Refute it at one input. -/
def polyPartialsWrong : ChangeSpec := { name := "polyPartials", fn := fun _ => fun
  | [d1, d2, d3] => { results := [.lit (.bool false)], args := [d1, d2, d3] }
  | _ => none }
def PolyPartialsWrongFalsely : Prop := polyPartialsRow.holds Try.pinned (OpenSpec.ofChange polyPartialsWrong)

/-- 'cairnlaw02.PolyRing': WHATEVER THE INPUT: true; the input reads as it did. -/
def polyRingSpec : ChangeSpec := { name := "polyRing", fn := fun _ => fun
  | [d] => { results := [.lit (.bool true)], args := [d] }
  | _ => none }
def polyRingRow : OpenClaim := { program := "ytdoeelfcihdmbaa", sum := "6c22fc6d756f7f577bf41ab8859dcf37048ff0444393a41fb32f6170802cf8f4", func := "cairn/cairnlaw02.PolyRing", spec := "polyRing", unfollowed := true, recurses := true, apart := false }
def PolyRingSaid : Prop := polyRingRow.holds Try.pinned (OpenSpec.ofChange polyRingSpec)

/-- ITS FALSE NEIGHBOUR: 'it returns false'. Refute it at one input. -/
def polyRingWrong : ChangeSpec := { name := "polyRing", fn := fun _ => fun
  | [d] => { results := [.lit (.bool false)], args := [d] }
  | _ => none }
def PolyRingWrongFalsely : Prop := polyRingRow.holds Try.pinned (OpenSpec.ofChange polyRingWrong)

/-- 'cairnlaw02.PolyQuotients': WHATEVER THE INPUT: true; the input reads as it did. -/
def polyQuotientsSpec : ChangeSpec := { name := "polyQuotients", fn := fun _ => fun
  | [d1, d2, d3] => { results := [.lit (.bool true)], args := [d1, d2, d3] }
  | _ => none }
def polyQuotientsRow : OpenClaim := { program := "ytdoeelfcihdmbaa", sum := "6c22fc6d756f7f577bf41ab8859dcf37048ff0444393a41fb32f6170802cf8f4", func := "cairn/cairnlaw02.PolyQuotients", spec := "polyQuotients", unfollowed := true, recurses := true, apart := false }
def PolyQuotientsSaid : Prop := polyQuotientsRow.holds Try.pinned (OpenSpec.ofChange polyQuotientsSpec)

/-- ITS FALSE NEIGHBOUR: 'it returns false'. Refute it at one input. -/
def polyQuotientsWrong : ChangeSpec := { name := "polyQuotients", fn := fun _ => fun
  | [d1, d2, d3] => { results := [.lit (.bool false)], args := [d1, d2, d3] }
  | _ => none }
def PolyQuotientsWrongFalsely : Prop := polyQuotientsRow.holds Try.pinned (OpenSpec.ofChange polyQuotientsWrong)

/-- 'cairnlaw02.PolyThroughBack': WHATEVER THE INPUT: true; the input reads as it did. -/
def polyThroughBackSpec : ChangeSpec := { name := "polyThroughBack", fn := fun _ => fun
  | [d1, d2, d3] => { results := [.lit (.bool true)], args := [d1, d2, d3] }
  | _ => none }
def polyThroughBackRow : OpenClaim := { program := "ytdoeelfcihdmbaa", sum := "6c22fc6d756f7f577bf41ab8859dcf37048ff0444393a41fb32f6170802cf8f4", func := "cairn/cairnlaw02.PolyThroughBack", spec := "polyThroughBack", unfollowed := true, recurses := true, apart := false }
def PolyThroughBackSaid : Prop := polyThroughBackRow.holds Try.pinned (OpenSpec.ofChange polyThroughBackSpec)

/-- ITS FALSE NEIGHBOUR: 'it returns false'. Refute it at one input. -/
def polyThroughBackWrong : ChangeSpec := { name := "polyThroughBack", fn := fun _ => fun
  | [d1, d2, d3] => { results := [.lit (.bool false)], args := [d1, d2, d3] }
  | _ => none }
def PolyThroughBackWrongFalsely : Prop := polyThroughBackRow.holds Try.pinned (OpenSpec.ofChange polyThroughBackWrong)

/-- 'cairnlaw02.PolyRootsFew': WHATEVER THE INPUT: true; the input reads as it did. -/
def polyRootsFewSpec : ChangeSpec := { name := "polyRootsFew", fn := fun _ => fun
  | [d1, d2] => { results := [.lit (.bool true)], args := [d1, d2] }
  | _ => none }
def polyRootsFewRow : OpenClaim := { program := "ytdoeelfcihdmbaa", sum := "6c22fc6d756f7f577bf41ab8859dcf37048ff0444393a41fb32f6170802cf8f4", func := "cairn/cairnlaw02.PolyRootsFew", spec := "polyRootsFew", unfollowed := true, recurses := true, apart := false }
def PolyRootsFewSaid : Prop := polyRootsFewRow.holds Try.pinned (OpenSpec.ofChange polyRootsFewSpec)

/-- ITS FALSE NEIGHBOUR: 'it returns false'. Refute it at one input. -/
def polyRootsFewWrong : ChangeSpec := { name := "polyRootsFew", fn := fun _ => fun
  | [d1, d2] => { results := [.lit (.bool false)], args := [d1, d2] }
  | _ => none }
def PolyRootsFewWrongFalsely : Prop := polyRootsFewRow.holds Try.pinned (OpenSpec.ofChange polyRootsFewWrong)

/-- 'cairnlaw02.PolyBezout': WHATEVER THE INPUT: true; the input reads as it did. -/
def polyBezoutSpec : ChangeSpec := { name := "polyBezout", fn := fun _ => fun
  | [d] => { results := [.lit (.bool true)], args := [d] }
  | _ => none }
def polyBezoutRow : OpenClaim := { program := "ytdoeelfcihdmbaa", sum := "6c22fc6d756f7f577bf41ab8859dcf37048ff0444393a41fb32f6170802cf8f4", func := "cairn/cairnlaw02.PolyBezout", spec := "polyBezout", unfollowed := true, recurses := true, apart := false }
def PolyBezoutSaid : Prop := polyBezoutRow.holds Try.pinned (OpenSpec.ofChange polyBezoutSpec)

/-- ITS FALSE NEIGHBOUR: 'it returns false'. Refute it at one input. -/
def polyBezoutWrong : ChangeSpec := { name := "polyBezout", fn := fun _ => fun
  | [d] => { results := [.lit (.bool false)], args := [d] }
  | _ => none }
def PolyBezoutWrongFalsely : Prop := polyBezoutRow.holds Try.pinned (OpenSpec.ofChange polyBezoutWrong)

/-- 'cairnlaw02.PolyOwn': WHATEVER THE INPUT: true; the input reads as it did. -/
def polyOwnSpec : ChangeSpec := { name := "polyOwn", fn := fun _ => fun
  | [d] => { results := [.lit (.bool true)], args := [d] }
  | _ => none }
def polyOwnRow : OpenClaim := { program := "ytdoeelfcihdmbaa", sum := "6c22fc6d756f7f577bf41ab8859dcf37048ff0444393a41fb32f6170802cf8f4", func := "cairn/cairnlaw02.PolyOwn", spec := "polyOwn", unfollowed := true, recurses := true, apart := false }
def PolyOwnSaid : Prop := polyOwnRow.holds Try.pinned (OpenSpec.ofChange polyOwnSpec)

/-- ITS FALSE NEIGHBOUR: 'it returns false'. Refute it at one input. -/
def polyOwnWrong : ChangeSpec := { name := "polyOwn", fn := fun _ => fun
  | [d] => { results := [.lit (.bool false)], args := [d] }
  | _ => none }
def PolyOwnWrongFalsely : Prop := polyOwnRow.holds Try.pinned (OpenSpec.ofChange polyOwnWrong)

/-- 'cairnlaw05.MendColumns': WHATEVER THE INPUT: true; the input reads as it did. -/
def mendColumnsSpec : ChangeSpec := { name := "mendColumns", fn := fun _ => fun
  | [d] => { results := [.lit (.bool true)], args := [d] }
  | _ => none }
def mendColumnsRow : OpenClaim := { program := "ytdoeelfcihdmbaa", sum := "6c22fc6d756f7f577bf41ab8859dcf37048ff0444393a41fb32f6170802cf8f4", func := "cairn/cairnlaw05.MendColumns", spec := "mendColumns", unfollowed := true, recurses := true, apart := false }
def MendColumnsSaid : Prop := mendColumnsRow.holds Try.pinned (OpenSpec.ofChange mendColumnsSpec)

/-- ITS FALSE NEIGHBOUR: 'it returns false'. Refute it at one input. -/
def mendColumnsWrong : ChangeSpec := { name := "mendColumns", fn := fun _ => fun
  | [d] => { results := [.lit (.bool false)], args := [d] }
  | _ => none }
def MendColumnsWrongFalsely : Prop := mendColumnsRow.holds Try.pinned (OpenSpec.ofChange mendColumnsWrong)

/-- 'cairnlaw05.MendRows': WHATEVER THE INPUT: true; the input reads as it did. -/
def mendRowsSpec : ChangeSpec := { name := "mendRows", fn := fun _ => fun
  | [d1, d2] => { results := [.lit (.bool true)], args := [d1, d2] }
  | _ => none }
def mendRowsRow : OpenClaim := { program := "ytdoeelfcihdmbaa", sum := "6c22fc6d756f7f577bf41ab8859dcf37048ff0444393a41fb32f6170802cf8f4", func := "cairn/cairnlaw05.MendRows", spec := "mendRows", unfollowed := true, recurses := true, apart := false }
def MendRowsSaid : Prop := mendRowsRow.holds Try.pinned (OpenSpec.ofChange mendRowsSpec)

/-- ITS FALSE NEIGHBOUR: 'it returns false'. Refute it at one input. -/
def mendRowsWrong : ChangeSpec := { name := "mendRows", fn := fun _ => fun
  | [d1, d2] => { results := [.lit (.bool false)], args := [d1, d2] }
  | _ => none }
def MendRowsWrongFalsely : Prop := mendRowsRow.holds Try.pinned (OpenSpec.ofChange mendRowsWrong)

/-- 'cairnlaw05.MendOwn': WHATEVER THE INPUT: true; the input reads as it did. -/
def mendOwnSpec : ChangeSpec := { name := "mendOwn", fn := fun _ => fun
  | [d] => { results := [.lit (.bool true)], args := [d] }
  | _ => none }
def mendOwnRow : OpenClaim := { program := "ytdoeelfcihdmbaa", sum := "6c22fc6d756f7f577bf41ab8859dcf37048ff0444393a41fb32f6170802cf8f4", func := "cairn/cairnlaw05.MendOwn", spec := "mendOwn", unfollowed := true, recurses := true, apart := false }
def MendOwnSaid : Prop := mendOwnRow.holds Try.pinned (OpenSpec.ofChange mendOwnSpec)

/-- ITS FALSE NEIGHBOUR: 'it returns false'. Refute it at one input. -/
def mendOwnWrong : ChangeSpec := { name := "mendOwn", fn := fun _ => fun
  | [d] => { results := [.lit (.bool false)], args := [d] }
  | _ => none }
def MendOwnWrongFalsely : Prop := mendOwnRow.holds Try.pinned (OpenSpec.ofChange mendOwnWrong)

/-- 'cairnlaw05.MendColumnOwn': WHATEVER THE INPUT: true; the input reads as it did. -/
def mendColumnOwnSpec : ChangeSpec := { name := "mendColumnOwn", fn := fun _ => fun
  | [d1, d2] => { results := [.lit (.bool true)], args := [d1, d2] }
  | _ => none }
def mendColumnOwnRow : OpenClaim := { program := "ytdoeelfcihdmbaa", sum := "6c22fc6d756f7f577bf41ab8859dcf37048ff0444393a41fb32f6170802cf8f4", func := "cairn/cairnlaw05.MendColumnOwn", spec := "mendColumnOwn", unfollowed := true, recurses := true, apart := false }
def MendColumnOwnSaid : Prop := mendColumnOwnRow.holds Try.pinned (OpenSpec.ofChange mendColumnOwnSpec)

/-- ITS FALSE NEIGHBOUR: 'it returns false'. Refute it at one input. -/
def mendColumnOwnWrong : ChangeSpec := { name := "mendColumnOwn", fn := fun _ => fun
  | [d1, d2] => { results := [.lit (.bool false)], args := [d1, d2] }
  | _ => none }
def MendColumnOwnWrongFalsely : Prop := mendColumnOwnRow.holds Try.pinned (OpenSpec.ofChange mendColumnOwnWrong)

/-- 'cairnlaw05.MendHalf': WHATEVER THE INPUT: true; the input reads as it did. -/
def mendHalfSpec : ChangeSpec := { name := "mendHalf", fn := fun _ => fun
  | [d] => { results := [.lit (.bool true)], args := [d] }
  | _ => none }
def mendHalfRow : OpenClaim := { program := "ytdoeelfcihdmbaa", sum := "6c22fc6d756f7f577bf41ab8859dcf37048ff0444393a41fb32f6170802cf8f4", func := "cairn/cairnlaw05.MendHalf", spec := "mendHalf", unfollowed := true, recurses := true, apart := false }
def MendHalfSaid : Prop := mendHalfRow.holds Try.pinned (OpenSpec.ofChange mendHalfSpec)

/-- ITS FALSE NEIGHBOUR: 'it returns false'. Refute it at one input. -/
def mendHalfWrong : ChangeSpec := { name := "mendHalf", fn := fun _ => fun
  | [d] => { results := [.lit (.bool false)], args := [d] }
  | _ => none }
def MendHalfWrongFalsely : Prop := mendHalfRow.holds Try.pinned (OpenSpec.ofChange mendHalfWrong)

/-- 'cairnlaw05.MendFar': WHATEVER THE INPUT: true; the input reads as it did. -/
def mendFarSpec : ChangeSpec := { name := "mendFar", fn := fun _ => fun
  | [d1, d2] => { results := [.lit (.bool true)], args := [d1, d2] }
  | _ => none }
def mendFarRow : OpenClaim := { program := "ytdoeelfcihdmbaa", sum := "6c22fc6d756f7f577bf41ab8859dcf37048ff0444393a41fb32f6170802cf8f4", func := "cairn/cairnlaw05.MendFar", spec := "mendFar", unfollowed := true, recurses := true, apart := false }
def MendFarSaid : Prop := mendFarRow.holds Try.pinned (OpenSpec.ofChange mendFarSpec)

/-- ITS FALSE NEIGHBOUR: 'it returns false'. Refute it at one input. -/
def mendFarWrong : ChangeSpec := { name := "mendFar", fn := fun _ => fun
  | [d1, d2] => { results := [.lit (.bool false)], args := [d1, d2] }
  | _ => none }
def MendFarWrongFalsely : Prop := mendFarRow.holds Try.pinned (OpenSpec.ofChange mendFarWrong)

/-- 'cairnlaw05.MendNear': WHATEVER THE INPUT: true; the input reads as it did. -/
def mendNearSpec : ChangeSpec := { name := "mendNear", fn := fun _ => fun
  | [d1, d2] => { results := [.lit (.bool true)], args := [d1, d2] }
  | _ => none }
def mendNearRow : OpenClaim := { program := "ytdoeelfcihdmbaa", sum := "6c22fc6d756f7f577bf41ab8859dcf37048ff0444393a41fb32f6170802cf8f4", func := "cairn/cairnlaw05.MendNear", spec := "mendNear", unfollowed := true, recurses := true, apart := false }
def MendNearSaid : Prop := mendNearRow.holds Try.pinned (OpenSpec.ofChange mendNearSpec)

/-- ITS FALSE NEIGHBOUR: 'it returns false'. Refute it at one input. -/
def mendNearWrong : ChangeSpec := { name := "mendNear", fn := fun _ => fun
  | [d1, d2] => { results := [.lit (.bool false)], args := [d1, d2] }
  | _ => none }
def MendNearWrongFalsely : Prop := mendNearRow.holds Try.pinned (OpenSpec.ofChange mendNearWrong)

/- THE SECOND FORM. 'bulk': how many values and letters a reading holds, each counted each time it is reached (what is shared counts as often as it is met; a slice's spare places count too). A statement '..UptoSaid' is the law's where the arguments, and the package variables that the reading takes, are together of bulk at most 1048576: NARROWER than '..Said'. Prove '..Said' where nothing that the law and all that it calls make is longer than what came in: it says more and counts as full. Else prove '..UptoSaid'. A law counts once. -/
mutual
def uptoBulk {H : Type} : DataW H → Nat
  | .lit (.string bytes) => bytes.length + 1
  | .lit _ => 1
  | .nil => 1
  | .ptr d => uptoBulk d + 1
  | .slice elems spare => uptoBulkAll elems + uptoBulkAll spare + 1
  | .agg parts => uptoBulkAll parts + 1
  | .iface _ d => uptoBulk d + 1
  | .map entries => uptoBulkEntries entries + 1
  | .held _ => 1
def uptoBulkAll {H : Type} : List (DataW H) → Nat
  | [] => 0
  | d :: r => uptoBulk d + uptoBulkAll r
def uptoBulkEntries {H : Type} : List (Lit × DataW H) → Nat
  | [] => 0
  | x :: r => uptoBulkEntry x + uptoBulkEntries r
def uptoBulkEntry {H : Type} : Lit × DataW H → Nat
  | (.string bytes, d) => bytes.length + uptoBulk d + 1
  | (_, d) => uptoBulk d + 1
 end
def uptoSmall : (H : Type) → List (DataW H) → Bool := fun _ ds => decide (uptoBulkAll ds ≤ 1048576)
def OpenSpec.upto (s : _root_.Go.ChangeSpec) : _root_.Go.OpenSpec := { _root_.Go.OpenSpec.ofChange s with cond := some uptoSmall }

/-- 'cairnlaw05.MendRadius', WHERE WHAT IT READS IS OF BULK AT MOST 1048576: true; the input reads as it did. -/
def mendRadiusUptoRow : OpenClaim := { program := "ytdoeelfcihdmbaa", sum := "6c22fc6d756f7f577bf41ab8859dcf37048ff0444393a41fb32f6170802cf8f4", func := "cairn/cairnlaw05.MendRadius", spec := "mendRadius", apart := false, narrowed := true }
def MendRadiusUptoSaid : Prop := mendRadiusUptoRow.holds Try.pinned (OpenSpec.upto mendRadiusSpec)

/-- 'cairnlaw02.PolyRoots', WHERE WHAT IT READS IS OF BULK AT MOST 1048576: true; the input reads as it did. -/
def polyRootsUptoRow : OpenClaim := { program := "ytdoeelfcihdmbaa", sum := "6c22fc6d756f7f577bf41ab8859dcf37048ff0444393a41fb32f6170802cf8f4", func := "cairn/cairnlaw02.PolyRoots", spec := "polyRoots", unfollowed := true, recurses := true, apart := false, narrowed := true }
def PolyRootsUptoSaid : Prop := polyRootsUptoRow.holds Try.pinned (OpenSpec.upto polyRootsSpec)

/-- 'cairntop.TopFiles', WHERE WHAT IT READS IS OF BULK AT MOST 1048576: true; the input reads as it did. -/
def topFilesUptoRow : OpenClaim := { program := "ytdoeelfcihdmbaa", sum := "6c22fc6d756f7f577bf41ab8859dcf37048ff0444393a41fb32f6170802cf8f4", func := "cairn/cairntop.TopFiles", spec := "topFiles", inPlace := ["internal/bytealg.MakeNoZero"], unfollowed := true, recurses := true, apart := false, narrowed := true }
def TopFilesUptoSaid : Prop := topFilesUptoRow.holds Try.pinned (OpenSpec.upto topFilesSpec)

/-- 'cairnlaw02.PolyTrims', WHERE WHAT IT READS IS OF BULK AT MOST 1048576: true; the input reads as it did. -/
def polyTrimsUptoRow : OpenClaim := { program := "ytdoeelfcihdmbaa", sum := "6c22fc6d756f7f577bf41ab8859dcf37048ff0444393a41fb32f6170802cf8f4", func := "cairn/cairnlaw02.PolyTrims", spec := "polyTrims", unfollowed := true, recurses := true, apart := false, narrowed := true }
def PolyTrimsUptoSaid : Prop := polyTrimsUptoRow.holds Try.pinned (OpenSpec.upto polyTrimsSpec)

/-- 'cairnlaw02.PolySums', WHERE WHAT IT READS IS OF BULK AT MOST 1048576: true; the input reads as it did. -/
def polySumsUptoRow : OpenClaim := { program := "ytdoeelfcihdmbaa", sum := "6c22fc6d756f7f577bf41ab8859dcf37048ff0444393a41fb32f6170802cf8f4", func := "cairn/cairnlaw02.PolySums", spec := "polySums", unfollowed := true, recurses := true, apart := false, narrowed := true }
def PolySumsUptoSaid : Prop := polySumsUptoRow.holds Try.pinned (OpenSpec.upto polySumsSpec)

/-- 'cairnlaw02.PolyDivides', WHERE WHAT IT READS IS OF BULK AT MOST 1048576: true; the input reads as it did. -/
def polyDividesUptoRow : OpenClaim := { program := "ytdoeelfcihdmbaa", sum := "6c22fc6d756f7f577bf41ab8859dcf37048ff0444393a41fb32f6170802cf8f4", func := "cairn/cairnlaw02.PolyDivides", spec := "polyDivides", unfollowed := true, recurses := true, apart := false, narrowed := true }
def PolyDividesUptoSaid : Prop := polyDividesUptoRow.holds Try.pinned (OpenSpec.upto polyDividesSpec)

/-- 'cairnlaw02.PolyThroughs', WHERE WHAT IT READS IS OF BULK AT MOST 1048576: true; the input reads as it did. -/
def polyThroughsUptoRow : OpenClaim := { program := "ytdoeelfcihdmbaa", sum := "6c22fc6d756f7f577bf41ab8859dcf37048ff0444393a41fb32f6170802cf8f4", func := "cairn/cairnlaw02.PolyThroughs", spec := "polyThroughs", unfollowed := true, recurses := true, apart := false, narrowed := true }
def PolyThroughsUptoSaid : Prop := polyThroughsUptoRow.holds Try.pinned (OpenSpec.upto polyThroughsSpec)

/-- 'cairnlaw02.PolyPartials', WHERE WHAT IT READS IS OF BULK AT MOST 1048576: true; the input reads as it did. -/
def polyPartialsUptoRow : OpenClaim := { program := "ytdoeelfcihdmbaa", sum := "6c22fc6d756f7f577bf41ab8859dcf37048ff0444393a41fb32f6170802cf8f4", func := "cairn/cairnlaw02.PolyPartials", spec := "polyPartials", unfollowed := true, recurses := true, apart := false, narrowed := true }
def PolyPartialsUptoSaid : Prop := polyPartialsUptoRow.holds Try.pinned (OpenSpec.upto polyPartialsSpec)

/-- 'cairnlaw02.PolyRing', WHERE WHAT IT READS IS OF BULK AT MOST 1048576: true; the input reads as it did. -/
def polyRingUptoRow : OpenClaim := { program := "ytdoeelfcihdmbaa", sum := "6c22fc6d756f7f577bf41ab8859dcf37048ff0444393a41fb32f6170802cf8f4", func := "cairn/cairnlaw02.PolyRing", spec := "polyRing", unfollowed := true, recurses := true, apart := false, narrowed := true }
def PolyRingUptoSaid : Prop := polyRingUptoRow.holds Try.pinned (OpenSpec.upto polyRingSpec)

/-- 'cairnlaw02.PolyQuotients', WHERE WHAT IT READS IS OF BULK AT MOST 1048576: true; the input reads as it did. -/
def polyQuotientsUptoRow : OpenClaim := { program := "ytdoeelfcihdmbaa", sum := "6c22fc6d756f7f577bf41ab8859dcf37048ff0444393a41fb32f6170802cf8f4", func := "cairn/cairnlaw02.PolyQuotients", spec := "polyQuotients", unfollowed := true, recurses := true, apart := false, narrowed := true }
def PolyQuotientsUptoSaid : Prop := polyQuotientsUptoRow.holds Try.pinned (OpenSpec.upto polyQuotientsSpec)

/-- 'cairnlaw02.PolyThroughBack', WHERE WHAT IT READS IS OF BULK AT MOST 1048576: true; the input reads as it did. -/
def polyThroughBackUptoRow : OpenClaim := { program := "ytdoeelfcihdmbaa", sum := "6c22fc6d756f7f577bf41ab8859dcf37048ff0444393a41fb32f6170802cf8f4", func := "cairn/cairnlaw02.PolyThroughBack", spec := "polyThroughBack", unfollowed := true, recurses := true, apart := false, narrowed := true }
def PolyThroughBackUptoSaid : Prop := polyThroughBackUptoRow.holds Try.pinned (OpenSpec.upto polyThroughBackSpec)

/-- 'cairnlaw02.PolyRootsFew', WHERE WHAT IT READS IS OF BULK AT MOST 1048576: true; the input reads as it did. -/
def polyRootsFewUptoRow : OpenClaim := { program := "ytdoeelfcihdmbaa", sum := "6c22fc6d756f7f577bf41ab8859dcf37048ff0444393a41fb32f6170802cf8f4", func := "cairn/cairnlaw02.PolyRootsFew", spec := "polyRootsFew", unfollowed := true, recurses := true, apart := false, narrowed := true }
def PolyRootsFewUptoSaid : Prop := polyRootsFewUptoRow.holds Try.pinned (OpenSpec.upto polyRootsFewSpec)

/-- 'cairnlaw02.PolyBezout', WHERE WHAT IT READS IS OF BULK AT MOST 1048576: true; the input reads as it did. -/
def polyBezoutUptoRow : OpenClaim := { program := "ytdoeelfcihdmbaa", sum := "6c22fc6d756f7f577bf41ab8859dcf37048ff0444393a41fb32f6170802cf8f4", func := "cairn/cairnlaw02.PolyBezout", spec := "polyBezout", unfollowed := true, recurses := true, apart := false, narrowed := true }
def PolyBezoutUptoSaid : Prop := polyBezoutUptoRow.holds Try.pinned (OpenSpec.upto polyBezoutSpec)

/-- 'cairnlaw02.PolyOwn', WHERE WHAT IT READS IS OF BULK AT MOST 1048576: true; the input reads as it did. -/
def polyOwnUptoRow : OpenClaim := { program := "ytdoeelfcihdmbaa", sum := "6c22fc6d756f7f577bf41ab8859dcf37048ff0444393a41fb32f6170802cf8f4", func := "cairn/cairnlaw02.PolyOwn", spec := "polyOwn", unfollowed := true, recurses := true, apart := false, narrowed := true }
def PolyOwnUptoSaid : Prop := polyOwnUptoRow.holds Try.pinned (OpenSpec.upto polyOwnSpec)

/-- 'cairnlaw05.MendColumns', WHERE WHAT IT READS IS OF BULK AT MOST 1048576: true; the input reads as it did. -/
def mendColumnsUptoRow : OpenClaim := { program := "ytdoeelfcihdmbaa", sum := "6c22fc6d756f7f577bf41ab8859dcf37048ff0444393a41fb32f6170802cf8f4", func := "cairn/cairnlaw05.MendColumns", spec := "mendColumns", unfollowed := true, recurses := true, apart := false, narrowed := true }
def MendColumnsUptoSaid : Prop := mendColumnsUptoRow.holds Try.pinned (OpenSpec.upto mendColumnsSpec)

/-- 'cairnlaw05.MendRows', WHERE WHAT IT READS IS OF BULK AT MOST 1048576: true; the input reads as it did. -/
def mendRowsUptoRow : OpenClaim := { program := "ytdoeelfcihdmbaa", sum := "6c22fc6d756f7f577bf41ab8859dcf37048ff0444393a41fb32f6170802cf8f4", func := "cairn/cairnlaw05.MendRows", spec := "mendRows", unfollowed := true, recurses := true, apart := false, narrowed := true }
def MendRowsUptoSaid : Prop := mendRowsUptoRow.holds Try.pinned (OpenSpec.upto mendRowsSpec)

/-- 'cairnlaw05.MendOwn', WHERE WHAT IT READS IS OF BULK AT MOST 1048576: true; the input reads as it did. -/
def mendOwnUptoRow : OpenClaim := { program := "ytdoeelfcihdmbaa", sum := "6c22fc6d756f7f577bf41ab8859dcf37048ff0444393a41fb32f6170802cf8f4", func := "cairn/cairnlaw05.MendOwn", spec := "mendOwn", unfollowed := true, recurses := true, apart := false, narrowed := true }
def MendOwnUptoSaid : Prop := mendOwnUptoRow.holds Try.pinned (OpenSpec.upto mendOwnSpec)

/-- 'cairnlaw05.MendColumnOwn', WHERE WHAT IT READS IS OF BULK AT MOST 1048576: true; the input reads as it did. -/
def mendColumnOwnUptoRow : OpenClaim := { program := "ytdoeelfcihdmbaa", sum := "6c22fc6d756f7f577bf41ab8859dcf37048ff0444393a41fb32f6170802cf8f4", func := "cairn/cairnlaw05.MendColumnOwn", spec := "mendColumnOwn", unfollowed := true, recurses := true, apart := false, narrowed := true }
def MendColumnOwnUptoSaid : Prop := mendColumnOwnUptoRow.holds Try.pinned (OpenSpec.upto mendColumnOwnSpec)

/-- 'cairnlaw05.MendHalf', WHERE WHAT IT READS IS OF BULK AT MOST 1048576: true; the input reads as it did. -/
def mendHalfUptoRow : OpenClaim := { program := "ytdoeelfcihdmbaa", sum := "6c22fc6d756f7f577bf41ab8859dcf37048ff0444393a41fb32f6170802cf8f4", func := "cairn/cairnlaw05.MendHalf", spec := "mendHalf", unfollowed := true, recurses := true, apart := false, narrowed := true }
def MendHalfUptoSaid : Prop := mendHalfUptoRow.holds Try.pinned (OpenSpec.upto mendHalfSpec)

/-- 'cairnlaw05.MendFar', WHERE WHAT IT READS IS OF BULK AT MOST 1048576: true; the input reads as it did. -/
def mendFarUptoRow : OpenClaim := { program := "ytdoeelfcihdmbaa", sum := "6c22fc6d756f7f577bf41ab8859dcf37048ff0444393a41fb32f6170802cf8f4", func := "cairn/cairnlaw05.MendFar", spec := "mendFar", unfollowed := true, recurses := true, apart := false, narrowed := true }
def MendFarUptoSaid : Prop := mendFarUptoRow.holds Try.pinned (OpenSpec.upto mendFarSpec)

/-- 'cairnlaw05.MendNear', WHERE WHAT IT READS IS OF BULK AT MOST 1048576: true; the input reads as it did. -/
def mendNearUptoRow : OpenClaim := { program := "ytdoeelfcihdmbaa", sum := "6c22fc6d756f7f577bf41ab8859dcf37048ff0444393a41fb32f6170802cf8f4", func := "cairn/cairnlaw05.MendNear", spec := "mendNear", unfollowed := true, recurses := true, apart := false, narrowed := true }
def MendNearUptoSaid : Prop := mendNearUptoRow.holds Try.pinned (OpenSpec.upto mendNearSpec)

end Rows
end Go.Proofs.Ytdoeelfcihdmbaa
