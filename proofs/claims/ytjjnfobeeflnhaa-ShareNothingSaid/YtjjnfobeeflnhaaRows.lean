/-
  No cell of these rows narrows 'for every input' (looked for: loops, veiled, ifaces, maps, wideKeys, modest, calm, conditions, laid).
  DERIVED. THE GIVEN ROWS OF THIS SEAT. 33 by the template 'for every input the law returns true; each argument reads behind the call as it read before'; 0 by the template 'total and deterministic' (their statements: YtjjnfobeeflnhaaTotals.lean).
  GIVEN WITH THE SEED: the statements are not yours to turn. If you find one false, say at which input.
  Laid BY PROGRAM, IN A SANDBOX (cutbox-rows.mjs): the forced cells as the released guide's own fill.sh prints them over the translation 9e8deb1d5928cfce… (all of the seat's roots in one cut). By AI agents, Wed Nov 11 2026. No macro, syntax, notation, axiom, sorry.
-/
import Derived.Test.YtjjnfobeeflnhaaChecked
import GoSem.Claim
import GoSem.ClaimJoined
import GoSem.ClaimMapViews
import Derived.JoinedTies
import Derived.KernelRfl
namespace Go.Proofs.Ytjjnfobeeflnhaa
/- THE CELL 'sum', in the pinned program and in every row, IS THE sha256 OF THE DUMP (.gsa) THAT YtjjnfobeeflnhaaProg.lean LOADS. Nothing in Lean hashes anything: it is a label: what it is worth is what the hold of that sum in a sandbox is worth. -/
noncomputable def Try.pinned : Pinned := { name := "ytjjnfobeeflnhaa", sum := "9e8deb1d5928cfce68cbe30e6e06d0d965d727ae17dd38c1d086af0a3ebb8b32", checked := Try.checked }
namespace Rows
def none {H : Type} : Left H := { results := [], args := [] }

/-- 'juntolaw07.TwiceChecks': WHATEVER THE INPUT: true; the input reads as it did. -/
def twiceChecksSpec : ChangeSpec := { name := "twiceChecks", fn := fun _ => fun
  | [d1, d2] => { results := [.lit (.bool true)], args := [d1, d2] }
  | _ => none }
def twiceChecksRow : OpenClaim := { program := "ytjjnfobeeflnhaa", sum := "9e8deb1d5928cfce68cbe30e6e06d0d965d727ae17dd38c1d086af0a3ebb8b32", func := "junto/juntolaw07.TwiceChecks", spec := "twiceChecks", unfollowed := true, recurses := true, apart := false }
def TwiceChecksSaid : Prop := twiceChecksRow.holds Try.pinned (OpenSpec.ofChange twiceChecksSpec)

/-- ITS FALSE NEIGHBOUR: 'it returns false'. Refute it at one input. -/
def twiceChecksWrong : ChangeSpec := { name := "twiceChecks", fn := fun _ => fun
  | [d1, d2] => { results := [.lit (.bool false)], args := [d1, d2] }
  | _ => none }
def TwiceChecksWrongFalsely : Prop := twiceChecksRow.holds Try.pinned (OpenSpec.ofChange twiceChecksWrong)

/-- 'juntolaw07.TwiceMakes': WHATEVER THE INPUT: true; the input reads as it did. -/
def twiceMakesSpec : ChangeSpec := { name := "twiceMakes", fn := fun _ => fun
  | [d1, d2, d3] => { results := [.lit (.bool true)], args := [d1, d2, d3] }
  | _ => none }
def twiceMakesRow : OpenClaim := { program := "ytjjnfobeeflnhaa", sum := "9e8deb1d5928cfce68cbe30e6e06d0d965d727ae17dd38c1d086af0a3ebb8b32", func := "junto/juntolaw07.TwiceMakes", spec := "twiceMakes", unfollowed := true, recurses := true, apart := false }
def TwiceMakesSaid : Prop := twiceMakesRow.holds Try.pinned (OpenSpec.ofChange twiceMakesSpec)

/-- ITS FALSE NEIGHBOUR: 'it returns false'. Refute it at one input. -/
def twiceMakesWrong : ChangeSpec := { name := "twiceMakes", fn := fun _ => fun
  | [d1, d2, d3] => { results := [.lit (.bool false)], args := [d1, d2, d3] }
  | _ => none }
def TwiceMakesWrongFalsely : Prop := twiceMakesRow.holds Try.pinned (OpenSpec.ofChange twiceMakesWrong)

/-- 'juntolaw07.TwiceValues': WHATEVER THE INPUT: true; the input reads as it did. -/
def twiceValuesSpec : ChangeSpec := { name := "twiceValues", fn := fun _ => fun
  | [d1, d2, d3] => { results := [.lit (.bool true)], args := [d1, d2, d3] }
  | _ => none }
def twiceValuesRow : OpenClaim := { program := "ytjjnfobeeflnhaa", sum := "9e8deb1d5928cfce68cbe30e6e06d0d965d727ae17dd38c1d086af0a3ebb8b32", func := "junto/juntolaw07.TwiceValues", spec := "twiceValues", unfollowed := true, recurses := true, apart := false }
def TwiceValuesSaid : Prop := twiceValuesRow.holds Try.pinned (OpenSpec.ofChange twiceValuesSpec)

/-- ITS FALSE NEIGHBOUR: 'it returns false'. Refute it at one input. -/
def twiceValuesWrong : ChangeSpec := { name := "twiceValues", fn := fun _ => fun
  | [d1, d2, d3] => { results := [.lit (.bool false)], args := [d1, d2, d3] }
  | _ => none }
def TwiceValuesWrongFalsely : Prop := twiceValuesRow.holds Try.pinned (OpenSpec.ofChange twiceValuesWrong)

/-- 'juntolaw07.TwiceProduct': WHATEVER THE INPUT: true; the input reads as it did. -/
def twiceProductSpec : ChangeSpec := { name := "twiceProduct", fn := fun _ => fun
  | [d1, d2, d3] => { results := [.lit (.bool true)], args := [d1, d2, d3] }
  | _ => none }
def twiceProductRow : OpenClaim := { program := "ytjjnfobeeflnhaa", sum := "9e8deb1d5928cfce68cbe30e6e06d0d965d727ae17dd38c1d086af0a3ebb8b32", func := "junto/juntolaw07.TwiceProduct", spec := "twiceProduct", unfollowed := true, recurses := true, apart := false }
def TwiceProductSaid : Prop := twiceProductRow.holds Try.pinned (OpenSpec.ofChange twiceProductSpec)

/-- ITS FALSE NEIGHBOUR: 'it returns false'. Refute it at one input. -/
def twiceProductWrong : ChangeSpec := { name := "twiceProduct", fn := fun _ => fun
  | [d1, d2, d3] => { results := [.lit (.bool false)], args := [d1, d2, d3] }
  | _ => none }
def TwiceProductWrongFalsely : Prop := twiceProductRow.holds Try.pinned (OpenSpec.ofChange twiceProductWrong)

/-- 'juntolaw07.TwiceJoins': WHATEVER THE INPUT: true; the input reads as it did. -/
def twiceJoinsSpec : ChangeSpec := { name := "twiceJoins", fn := fun _ => fun
  | [d1, d2, d3] => { results := [.lit (.bool true)], args := [d1, d2, d3] }
  | _ => none }
def twiceJoinsRow : OpenClaim := { program := "ytjjnfobeeflnhaa", sum := "9e8deb1d5928cfce68cbe30e6e06d0d965d727ae17dd38c1d086af0a3ebb8b32", func := "junto/juntolaw07.TwiceJoins", spec := "twiceJoins", unfollowed := true, recurses := true, apart := false }
def TwiceJoinsSaid : Prop := twiceJoinsRow.holds Try.pinned (OpenSpec.ofChange twiceJoinsSpec)

/-- ITS FALSE NEIGHBOUR: 'it returns false'. Refute it at one input. -/
def twiceJoinsWrong : ChangeSpec := { name := "twiceJoins", fn := fun _ => fun
  | [d1, d2, d3] => { results := [.lit (.bool false)], args := [d1, d2, d3] }
  | _ => none }
def TwiceJoinsWrongFalsely : Prop := twiceJoinsRow.holds Try.pinned (OpenSpec.ofChange twiceJoinsWrong)

/-- 'juntolaw07.TwiceOne': WHATEVER THE INPUT: true; the input reads as it did. -/
def twiceOneSpec : ChangeSpec := { name := "twiceOne", fn := fun _ => fun
  | [d1, d2, d3] => { results := [.lit (.bool true)], args := [d1, d2, d3] }
  | _ => none }
def twiceOneRow : OpenClaim := { program := "ytjjnfobeeflnhaa", sum := "9e8deb1d5928cfce68cbe30e6e06d0d965d727ae17dd38c1d086af0a3ebb8b32", func := "junto/juntolaw07.TwiceOne", spec := "twiceOne", unfollowed := true, recurses := true, apart := false }
def TwiceOneSaid : Prop := twiceOneRow.holds Try.pinned (OpenSpec.ofChange twiceOneSpec)

/-- ITS FALSE NEIGHBOUR: 'it returns false'. Refute it at one input. -/
def twiceOneWrong : ChangeSpec := { name := "twiceOne", fn := fun _ => fun
  | [d1, d2, d3] => { results := [.lit (.bool false)], args := [d1, d2, d3] }
  | _ => none }
def TwiceOneWrongFalsely : Prop := twiceOneRow.holds Try.pinned (OpenSpec.ofChange twiceOneWrong)

/-- 'juntolaw07.TwiceMoves': WHATEVER THE INPUT: true; the input reads as it did. -/
def twiceMovesSpec : ChangeSpec := { name := "twiceMoves", fn := fun _ => fun
  | [d1, d2, d3] => { results := [.lit (.bool true)], args := [d1, d2, d3] }
  | _ => none }
def twiceMovesRow : OpenClaim := { program := "ytjjnfobeeflnhaa", sum := "9e8deb1d5928cfce68cbe30e6e06d0d965d727ae17dd38c1d086af0a3ebb8b32", func := "junto/juntolaw07.TwiceMoves", spec := "twiceMoves", unfollowed := true, recurses := true, apart := false }
def TwiceMovesSaid : Prop := twiceMovesRow.holds Try.pinned (OpenSpec.ofChange twiceMovesSpec)

/-- ITS FALSE NEIGHBOUR: 'it returns false'. Refute it at one input. -/
def twiceMovesWrong : ChangeSpec := { name := "twiceMoves", fn := fun _ => fun
  | [d1, d2, d3] => { results := [.lit (.bool false)], args := [d1, d2, d3] }
  | _ => none }
def TwiceMovesWrongFalsely : Prop := twiceMovesRow.holds Try.pinned (OpenSpec.ofChange twiceMovesWrong)

/-- 'juntolaw04.ShareSetups': WHATEVER THE INPUT: true; the input reads as it did. -/
def shareSetupsSpec : ChangeSpec := { name := "shareSetups", fn := fun _ => fun
  | [d1, d2] => { results := [.lit (.bool true)], args := [d1, d2] }
  | _ => none }
def shareSetupsRow : OpenClaim := { program := "ytjjnfobeeflnhaa", sum := "9e8deb1d5928cfce68cbe30e6e06d0d965d727ae17dd38c1d086af0a3ebb8b32", func := "junto/juntolaw04.ShareSetups", spec := "shareSetups", unfollowed := true, recurses := true, apart := false }
def ShareSetupsSaid : Prop := shareSetupsRow.holds Try.pinned (OpenSpec.ofChange shareSetupsSpec)

/-- ITS FALSE NEIGHBOUR: 'it returns false'. Refute it at one input. -/
def shareSetupsWrong : ChangeSpec := { name := "shareSetups", fn := fun _ => fun
  | [d1, d2] => { results := [.lit (.bool false)], args := [d1, d2] }
  | _ => none }
def ShareSetupsWrongFalsely : Prop := shareSetupsRow.holds Try.pinned (OpenSpec.ofChange shareSetupsWrong)

/-- 'juntolaw04.ShareMakes': WHATEVER THE INPUT: true; the input reads as it did. -/
def shareMakesSpec : ChangeSpec := { name := "shareMakes", fn := fun _ => fun
  | [d1, d2] => { results := [.lit (.bool true)], args := [d1, d2] }
  | _ => none }
def shareMakesRow : OpenClaim := { program := "ytjjnfobeeflnhaa", sum := "9e8deb1d5928cfce68cbe30e6e06d0d965d727ae17dd38c1d086af0a3ebb8b32", func := "junto/juntolaw04.ShareMakes", spec := "shareMakes", unfollowed := true, recurses := true, apart := false }
def ShareMakesSaid : Prop := shareMakesRow.holds Try.pinned (OpenSpec.ofChange shareMakesSpec)

/-- ITS FALSE NEIGHBOUR: 'it returns false'. Refute it at one input. -/
def shareMakesWrong : ChangeSpec := { name := "shareMakes", fn := fun _ => fun
  | [d1, d2] => { results := [.lit (.bool false)], args := [d1, d2] }
  | _ => none }
def ShareMakesWrongFalsely : Prop := shareMakesRow.holds Try.pinned (OpenSpec.ofChange shareMakesWrong)

/-- 'juntolaw04.ShareValues': WHATEVER THE INPUT: true; the input reads as it did. -/
def shareValuesSpec : ChangeSpec := { name := "shareValues", fn := fun _ => fun
  | [d1, d2] => { results := [.lit (.bool true)], args := [d1, d2] }
  | _ => none }
def shareValuesRow : OpenClaim := { program := "ytjjnfobeeflnhaa", sum := "9e8deb1d5928cfce68cbe30e6e06d0d965d727ae17dd38c1d086af0a3ebb8b32", func := "junto/juntolaw04.ShareValues", spec := "shareValues", unfollowed := true, recurses := true, apart := false }
def ShareValuesSaid : Prop := shareValuesRow.holds Try.pinned (OpenSpec.ofChange shareValuesSpec)

/-- ITS FALSE NEIGHBOUR: 'it returns false'. Refute it at one input. -/
def shareValuesWrong : ChangeSpec := { name := "shareValues", fn := fun _ => fun
  | [d1, d2] => { results := [.lit (.bool false)], args := [d1, d2] }
  | _ => none }
def ShareValuesWrongFalsely : Prop := shareValuesRow.holds Try.pinned (OpenSpec.ofChange shareValuesWrong)

/-- 'juntolaw04.ShareMoves': WHATEVER THE INPUT: true; the input reads as it did. -/
def shareMovesSpec : ChangeSpec := { name := "shareMoves", fn := fun _ => fun
  | [d1, d2] => { results := [.lit (.bool true)], args := [d1, d2] }
  | _ => none }
def shareMovesRow : OpenClaim := { program := "ytjjnfobeeflnhaa", sum := "9e8deb1d5928cfce68cbe30e6e06d0d965d727ae17dd38c1d086af0a3ebb8b32", func := "junto/juntolaw04.ShareMoves", spec := "shareMoves", unfollowed := true, recurses := true, apart := false }
def ShareMovesSaid : Prop := shareMovesRow.holds Try.pinned (OpenSpec.ofChange shareMovesSpec)

/-- ITS FALSE NEIGHBOUR: 'it returns false'. Refute it at one input. -/
def shareMovesWrong : ChangeSpec := { name := "shareMoves", fn := fun _ => fun
  | [d1, d2] => { results := [.lit (.bool false)], args := [d1, d2] }
  | _ => none }
def ShareMovesWrongFalsely : Prop := shareMovesRow.holds Try.pinned (OpenSpec.ofChange shareMovesWrong)

/-- 'juntolaw04.ShareNothing': WHATEVER THE INPUT: true; the input reads as it did. -/
def shareNothingSpec : ChangeSpec := { name := "shareNothing", fn := fun _ => fun
  | [d1, d2, d3] => { results := [.lit (.bool true)], args := [d1, d2, d3] }
  | _ => none }
def shareNothingRow : OpenClaim := { program := "ytjjnfobeeflnhaa", sum := "9e8deb1d5928cfce68cbe30e6e06d0d965d727ae17dd38c1d086af0a3ebb8b32", func := "junto/juntolaw04.ShareNothing", spec := "shareNothing", unfollowed := true, recurses := true, apart := false }
def ShareNothingSaid : Prop := shareNothingRow.holds Try.pinned (OpenSpec.ofChange shareNothingSpec)

/-- ITS FALSE NEIGHBOUR: 'it returns false'. Refute it at one input. -/
def shareNothingWrong : ChangeSpec := { name := "shareNothing", fn := fun _ => fun
  | [d1, d2, d3] => { results := [.lit (.bool false)], args := [d1, d2, d3] }
  | _ => none }
def ShareNothingWrongFalsely : Prop := shareNothingRow.holds Try.pinned (OpenSpec.ofChange shareNothingWrong)

/-- 'juntolaw04.ShareOnly': WHATEVER THE INPUT: true; the input reads as it did. -/
def shareOnlySpec : ChangeSpec := { name := "shareOnly", fn := fun _ => fun
  | [d1, d2, d3] => { results := [.lit (.bool true)], args := [d1, d2, d3] }
  | _ => none }
def shareOnlyRow : OpenClaim := { program := "ytjjnfobeeflnhaa", sum := "9e8deb1d5928cfce68cbe30e6e06d0d965d727ae17dd38c1d086af0a3ebb8b32", func := "junto/juntolaw04.ShareOnly", spec := "shareOnly", unfollowed := true, recurses := true, apart := false }
def ShareOnlySaid : Prop := shareOnlyRow.holds Try.pinned (OpenSpec.ofChange shareOnlySpec)

/-- ITS FALSE NEIGHBOUR: 'it returns false'. Refute it at one input. -/
def shareOnlyWrong : ChangeSpec := { name := "shareOnly", fn := fun _ => fun
  | [d1, d2, d3] => { results := [.lit (.bool false)], args := [d1, d2, d3] }
  | _ => none }
def ShareOnlyWrongFalsely : Prop := shareOnlyRow.holds Try.pinned (OpenSpec.ofChange shareOnlyWrong)

/-- 'juntolaw04.ShareThere': WHATEVER THE INPUT: true; the input reads as it did. -/
def shareThereSpec : ChangeSpec := { name := "shareThere", fn := fun _ => fun
  | [d1, d2] => { results := [.lit (.bool true)], args := [d1, d2] }
  | _ => none }
def shareThereRow : OpenClaim := { program := "ytjjnfobeeflnhaa", sum := "9e8deb1d5928cfce68cbe30e6e06d0d965d727ae17dd38c1d086af0a3ebb8b32", func := "junto/juntolaw04.ShareThere", spec := "shareThere", unfollowed := true, recurses := true, apart := false }
def ShareThereSaid : Prop := shareThereRow.holds Try.pinned (OpenSpec.ofChange shareThereSpec)

/-- ITS FALSE NEIGHBOUR: 'it returns false'. Refute it at one input. -/
def shareThereWrong : ChangeSpec := { name := "shareThere", fn := fun _ => fun
  | [d1, d2] => { results := [.lit (.bool false)], args := [d1, d2] }
  | _ => none }
def ShareThereWrongFalsely : Prop := shareThereRow.holds Try.pinned (OpenSpec.ofChange shareThereWrong)

/-- 'juntolaw04.ShareSums': WHATEVER THE INPUT: true; the input reads as it did. -/
def shareSumsSpec : ChangeSpec := { name := "shareSums", fn := fun _ => fun
  | [d1, d2, d3] => { results := [.lit (.bool true)], args := [d1, d2, d3] }
  | _ => none }
def shareSumsRow : OpenClaim := { program := "ytjjnfobeeflnhaa", sum := "9e8deb1d5928cfce68cbe30e6e06d0d965d727ae17dd38c1d086af0a3ebb8b32", func := "junto/juntolaw04.ShareSums", spec := "shareSums", unfollowed := true, recurses := true, apart := false }
def ShareSumsSaid : Prop := shareSumsRow.holds Try.pinned (OpenSpec.ofChange shareSumsSpec)

/-- ITS FALSE NEIGHBOUR: 'it returns false'. Refute it at one input. -/
def shareSumsWrong : ChangeSpec := { name := "shareSums", fn := fun _ => fun
  | [d1, d2, d3] => { results := [.lit (.bool false)], args := [d1, d2, d3] }
  | _ => none }
def ShareSumsWrongFalsely : Prop := shareSumsRow.holds Try.pinned (OpenSpec.ofChange shareSumsWrong)

/-- 'juntolaw04.ShareFits': WHATEVER THE INPUT: true; the input reads as it did. -/
def shareFitsSpec : ChangeSpec := { name := "shareFits", fn := fun _ => fun
  | [d1, d2, d3] => { results := [.lit (.bool true)], args := [d1, d2, d3] }
  | _ => none }
def shareFitsRow : OpenClaim := { program := "ytjjnfobeeflnhaa", sum := "9e8deb1d5928cfce68cbe30e6e06d0d965d727ae17dd38c1d086af0a3ebb8b32", func := "junto/juntolaw04.ShareFits", spec := "shareFits", unfollowed := true, recurses := true, apart := false }
def ShareFitsSaid : Prop := shareFitsRow.holds Try.pinned (OpenSpec.ofChange shareFitsSpec)

/-- ITS FALSE NEIGHBOUR: 'it returns false'. Refute it at one input. -/
def shareFitsWrong : ChangeSpec := { name := "shareFits", fn := fun _ => fun
  | [d1, d2, d3] => { results := [.lit (.bool false)], args := [d1, d2, d3] }
  | _ => none }
def ShareFitsWrongFalsely : Prop := shareFitsRow.holds Try.pinned (OpenSpec.ofChange shareFitsWrong)

/-- 'juntolaw07.TwiceCuts': WHATEVER THE INPUT: true; the input reads as it did. -/
def twiceCutsSpec : ChangeSpec := { name := "twiceCuts", fn := fun _ => fun
  | [d1, d2, d3] => { results := [.lit (.bool true)], args := [d1, d2, d3] }
  | _ => none }
def twiceCutsRow : OpenClaim := { program := "ytjjnfobeeflnhaa", sum := "9e8deb1d5928cfce68cbe30e6e06d0d965d727ae17dd38c1d086af0a3ebb8b32", func := "junto/juntolaw07.TwiceCuts", spec := "twiceCuts", unfollowed := true, recurses := true, apart := false }
def TwiceCutsSaid : Prop := twiceCutsRow.holds Try.pinned (OpenSpec.ofChange twiceCutsSpec)

/-- ITS FALSE NEIGHBOUR: 'it returns false'. Refute it at one input. -/
def twiceCutsWrong : ChangeSpec := { name := "twiceCuts", fn := fun _ => fun
  | [d1, d2, d3] => { results := [.lit (.bool false)], args := [d1, d2, d3] }
  | _ => none }
def TwiceCutsWrongFalsely : Prop := twiceCutsRow.holds Try.pinned (OpenSpec.ofChange twiceCutsWrong)

/-- 'juntolaw07.TwiceMoved': WHATEVER THE INPUT: true; the input reads as it did. -/
def twiceMovedSpec : ChangeSpec := { name := "twiceMoved", fn := fun _ => fun
  | [d1, d2, d3] => { results := [.lit (.bool true)], args := [d1, d2, d3] }
  | _ => none }
def twiceMovedRow : OpenClaim := { program := "ytjjnfobeeflnhaa", sum := "9e8deb1d5928cfce68cbe30e6e06d0d965d727ae17dd38c1d086af0a3ebb8b32", func := "junto/juntolaw07.TwiceMoved", spec := "twiceMoved", unfollowed := true, recurses := true, apart := false }
def TwiceMovedSaid : Prop := twiceMovedRow.holds Try.pinned (OpenSpec.ofChange twiceMovedSpec)

/-- ITS FALSE NEIGHBOUR: 'it returns false'. Refute it at one input. -/
def twiceMovedWrong : ChangeSpec := { name := "twiceMoved", fn := fun _ => fun
  | [d1, d2, d3] => { results := [.lit (.bool false)], args := [d1, d2, d3] }
  | _ => none }
def TwiceMovedWrongFalsely : Prop := twiceMovedRow.holds Try.pinned (OpenSpec.ofChange twiceMovedWrong)

/-- 'juntolaw02.PolyThrough': WHATEVER THE INPUT: true; the input reads as it did. -/
def polyThroughSpec : ChangeSpec := { name := "polyThrough", fn := fun _ => fun
  | [d1, d2] => { results := [.lit (.bool true)], args := [d1, d2] }
  | _ => none }
def polyThroughRow : OpenClaim := { program := "ytjjnfobeeflnhaa", sum := "9e8deb1d5928cfce68cbe30e6e06d0d965d727ae17dd38c1d086af0a3ebb8b32", func := "junto/juntolaw02.PolyThrough", spec := "polyThrough", unfollowed := true, recurses := true, apart := false }
def PolyThroughSaid : Prop := polyThroughRow.holds Try.pinned (OpenSpec.ofChange polyThroughSpec)

/-- ITS FALSE NEIGHBOUR: 'it returns false'. Refute it at one input. -/
def polyThroughWrong : ChangeSpec := { name := "polyThrough", fn := fun _ => fun
  | [d1, d2] => { results := [.lit (.bool false)], args := [d1, d2] }
  | _ => none }
def PolyThroughWrongFalsely : Prop := polyThroughRow.holds Try.pinned (OpenSpec.ofChange polyThroughWrong)

/-- 'juntolaw02.PolyWeights': WHATEVER THE INPUT: true; the input reads as it did. -/
def polyWeightsSpec : ChangeSpec := { name := "polyWeights", fn := fun _ => fun
  | [d1, d2, d3] => { results := [.lit (.bool true)], args := [d1, d2, d3] }
  | _ => none }
def polyWeightsRow : OpenClaim := { program := "ytjjnfobeeflnhaa", sum := "9e8deb1d5928cfce68cbe30e6e06d0d965d727ae17dd38c1d086af0a3ebb8b32", func := "junto/juntolaw02.PolyWeights", spec := "polyWeights", unfollowed := true, recurses := true, apart := false }
def PolyWeightsSaid : Prop := polyWeightsRow.holds Try.pinned (OpenSpec.ofChange polyWeightsSpec)

/-- ITS FALSE NEIGHBOUR: 'it returns false'. Refute it at one input. -/
def polyWeightsWrong : ChangeSpec := { name := "polyWeights", fn := fun _ => fun
  | [d1, d2, d3] => { results := [.lit (.bool false)], args := [d1, d2, d3] }
  | _ => none }
def PolyWeightsWrongFalsely : Prop := polyWeightsRow.holds Try.pinned (OpenSpec.ofChange polyWeightsWrong)

/-- 'juntolaw02.PolyAway': WHATEVER THE INPUT: true; the input reads as it did. -/
def polyAwaySpec : ChangeSpec := { name := "polyAway", fn := fun _ => fun
  | [d1, d2] => { results := [.lit (.bool true)], args := [d1, d2] }
  | _ => none }
def polyAwayRow : OpenClaim := { program := "ytjjnfobeeflnhaa", sum := "9e8deb1d5928cfce68cbe30e6e06d0d965d727ae17dd38c1d086af0a3ebb8b32", func := "junto/juntolaw02.PolyAway", spec := "polyAway", unfollowed := true, recurses := true, apart := false }
def PolyAwaySaid : Prop := polyAwayRow.holds Try.pinned (OpenSpec.ofChange polyAwaySpec)

/-- ITS FALSE NEIGHBOUR: 'it returns false'. Refute it at one input. -/
def polyAwayWrong : ChangeSpec := { name := "polyAway", fn := fun _ => fun
  | [d1, d2] => { results := [.lit (.bool false)], args := [d1, d2] }
  | _ => none }
def PolyAwayWrongFalsely : Prop := polyAwayRow.holds Try.pinned (OpenSpec.ofChange polyAwayWrong)

/-- 'juntolaw02.PolySlopes': WHATEVER THE INPUT: true; the input reads as it did. -/
def polySlopesSpec : ChangeSpec := { name := "polySlopes", fn := fun _ => fun
  | [d1, d2] => { results := [.lit (.bool true)], args := [d1, d2] }
  | _ => none }
def polySlopesRow : OpenClaim := { program := "ytjjnfobeeflnhaa", sum := "9e8deb1d5928cfce68cbe30e6e06d0d965d727ae17dd38c1d086af0a3ebb8b32", func := "junto/juntolaw02.PolySlopes", spec := "polySlopes", unfollowed := true, recurses := true, apart := false }
def PolySlopesSaid : Prop := polySlopesRow.holds Try.pinned (OpenSpec.ofChange polySlopesSpec)

/-- ITS FALSE NEIGHBOUR: 'it returns false'. Refute it at one input. -/
def polySlopesWrong : ChangeSpec := { name := "polySlopes", fn := fun _ => fun
  | [d1, d2] => { results := [.lit (.bool false)], args := [d1, d2] }
  | _ => none }
def PolySlopesWrongFalsely : Prop := polySlopesRow.holds Try.pinned (OpenSpec.ofChange polySlopesWrong)

/-- 'juntolaw02.PolyProducts': WHATEVER THE INPUT: true; the input reads as it did. -/
def polyProductsSpec : ChangeSpec := { name := "polyProducts", fn := fun _ => fun
  | [d1, d2, d3] => { results := [.lit (.bool true)], args := [d1, d2, d3] }
  | _ => none }
def polyProductsRow : OpenClaim := { program := "ytjjnfobeeflnhaa", sum := "9e8deb1d5928cfce68cbe30e6e06d0d965d727ae17dd38c1d086af0a3ebb8b32", func := "junto/juntolaw02.PolyProducts", spec := "polyProducts", unfollowed := true, recurses := true, apart := false }
def PolyProductsSaid : Prop := polyProductsRow.holds Try.pinned (OpenSpec.ofChange polyProductsSpec)

/-- ITS FALSE NEIGHBOUR: 'it returns false'. Refute it at one input. -/
def polyProductsWrong : ChangeSpec := { name := "polyProducts", fn := fun _ => fun
  | [d1, d2, d3] => { results := [.lit (.bool false)], args := [d1, d2, d3] }
  | _ => none }
def PolyProductsWrongFalsely : Prop := polyProductsRow.holds Try.pinned (OpenSpec.ofChange polyProductsWrong)

/-- 'juntolaw02.PolySums': WHATEVER THE INPUT: true; the input reads as it did. -/
def polySumsSpec : ChangeSpec := { name := "polySums", fn := fun _ => fun
  | [d1, d2, d3] => { results := [.lit (.bool true)], args := [d1, d2, d3] }
  | _ => none }
def polySumsRow : OpenClaim := { program := "ytjjnfobeeflnhaa", sum := "9e8deb1d5928cfce68cbe30e6e06d0d965d727ae17dd38c1d086af0a3ebb8b32", func := "junto/juntolaw02.PolySums", spec := "polySums", unfollowed := true, recurses := true, apart := false }
def PolySumsSaid : Prop := polySumsRow.holds Try.pinned (OpenSpec.ofChange polySumsSpec)

/-- ITS FALSE NEIGHBOUR: 'it returns false'. Refute it at one input. -/
def polySumsWrong : ChangeSpec := { name := "polySums", fn := fun _ => fun
  | [d1, d2, d3] => { results := [.lit (.bool false)], args := [d1, d2, d3] }
  | _ => none }
def PolySumsWrongFalsely : Prop := polySumsRow.holds Try.pinned (OpenSpec.ofChange polySumsWrong)

/-- 'juntolaw02.PolyBack': WHATEVER THE INPUT: true; the input reads as it did. -/
def polyBackSpec : ChangeSpec := { name := "polyBack", fn := fun _ => fun
  | [d1, d2, d3] => { results := [.lit (.bool true)], args := [d1, d2, d3] }
  | _ => none }
def polyBackRow : OpenClaim := { program := "ytjjnfobeeflnhaa", sum := "9e8deb1d5928cfce68cbe30e6e06d0d965d727ae17dd38c1d086af0a3ebb8b32", func := "junto/juntolaw02.PolyBack", spec := "polyBack", unfollowed := true, recurses := true, apart := false }
def PolyBackSaid : Prop := polyBackRow.holds Try.pinned (OpenSpec.ofChange polyBackSpec)

/-- ITS FALSE NEIGHBOUR: 'it returns false'. Refute it at one input. -/
def polyBackWrong : ChangeSpec := { name := "polyBack", fn := fun _ => fun
  | [d1, d2, d3] => { results := [.lit (.bool false)], args := [d1, d2, d3] }
  | _ => none }
def PolyBackWrongFalsely : Prop := polyBackRow.holds Try.pinned (OpenSpec.ofChange polyBackWrong)

/-- 'juntolaw02.PolyValues': WHATEVER THE INPUT: true; the input reads as it did. -/
def polyValuesSpec : ChangeSpec := { name := "polyValues", fn := fun _ => fun
  | [d1, d2, d3] => { results := [.lit (.bool true)], args := [d1, d2, d3] }
  | _ => none }
def polyValuesRow : OpenClaim := { program := "ytjjnfobeeflnhaa", sum := "9e8deb1d5928cfce68cbe30e6e06d0d965d727ae17dd38c1d086af0a3ebb8b32", func := "junto/juntolaw02.PolyValues", spec := "polyValues", unfollowed := true, recurses := true, apart := false }
def PolyValuesSaid : Prop := polyValuesRow.holds Try.pinned (OpenSpec.ofChange polyValuesSpec)

/-- ITS FALSE NEIGHBOUR: 'it returns false'. Refute it at one input. -/
def polyValuesWrong : ChangeSpec := { name := "polyValues", fn := fun _ => fun
  | [d1, d2, d3] => { results := [.lit (.bool false)], args := [d1, d2, d3] }
  | _ => none }
def PolyValuesWrongFalsely : Prop := polyValuesRow.holds Try.pinned (OpenSpec.ofChange polyValuesWrong)

/-- 'juntolaw02.PolyRoots': WHATEVER THE INPUT: true; the input reads as it did. -/
def polyRootsSpec : ChangeSpec := { name := "polyRoots", fn := fun _ => fun
  | [d1, d2] => { results := [.lit (.bool true)], args := [d1, d2] }
  | _ => none }
def polyRootsRow : OpenClaim := { program := "ytjjnfobeeflnhaa", sum := "9e8deb1d5928cfce68cbe30e6e06d0d965d727ae17dd38c1d086af0a3ebb8b32", func := "junto/juntolaw02.PolyRoots", spec := "polyRoots", unfollowed := true, recurses := true, apart := false }
def PolyRootsSaid : Prop := polyRootsRow.holds Try.pinned (OpenSpec.ofChange polyRootsSpec)

/-- ITS FALSE NEIGHBOUR: 'it returns false'. Refute it at one input. -/
def polyRootsWrong : ChangeSpec := { name := "polyRoots", fn := fun _ => fun
  | [d1, d2] => { results := [.lit (.bool false)], args := [d1, d2] }
  | _ => none }
def PolyRootsWrongFalsely : Prop := polyRootsRow.holds Try.pinned (OpenSpec.ofChange polyRootsWrong)

/-- 'juntolaw02.PolyFew': WHATEVER THE INPUT: true; the input reads as it did. -/
def polyFewSpec : ChangeSpec := { name := "polyFew", fn := fun _ => fun
  | [d1, d2] => { results := [.lit (.bool true)], args := [d1, d2] }
  | _ => none }
def polyFewRow : OpenClaim := { program := "ytjjnfobeeflnhaa", sum := "9e8deb1d5928cfce68cbe30e6e06d0d965d727ae17dd38c1d086af0a3ebb8b32", func := "junto/juntolaw02.PolyFew", spec := "polyFew", unfollowed := true, recurses := true, apart := false }
def PolyFewSaid : Prop := polyFewRow.holds Try.pinned (OpenSpec.ofChange polyFewSpec)

/-- ITS FALSE NEIGHBOUR: 'it returns false'. Refute it at one input. -/
def polyFewWrong : ChangeSpec := { name := "polyFew", fn := fun _ => fun
  | [d1, d2] => { results := [.lit (.bool false)], args := [d1, d2] }
  | _ => none }
def PolyFewWrongFalsely : Prop := polyFewRow.holds Try.pinned (OpenSpec.ofChange polyFewWrong)

/-- 'juntolaw02.PolyValued': WHATEVER THE INPUT: true; the input reads as it did. -/
def polyValuedSpec : ChangeSpec := { name := "polyValued", fn := fun _ => fun
  | [d1, d2, d3] => { results := [.lit (.bool true)], args := [d1, d2, d3] }
  | _ => none }
def polyValuedRow : OpenClaim := { program := "ytjjnfobeeflnhaa", sum := "9e8deb1d5928cfce68cbe30e6e06d0d965d727ae17dd38c1d086af0a3ebb8b32", func := "junto/juntolaw02.PolyValued", spec := "polyValued", unfollowed := true, recurses := true, apart := false }
def PolyValuedSaid : Prop := polyValuedRow.holds Try.pinned (OpenSpec.ofChange polyValuedSpec)

/-- ITS FALSE NEIGHBOUR: 'it returns false'. Refute it at one input. -/
def polyValuedWrong : ChangeSpec := { name := "polyValued", fn := fun _ => fun
  | [d1, d2, d3] => { results := [.lit (.bool false)], args := [d1, d2, d3] }
  | _ => none }
def PolyValuedWrongFalsely : Prop := polyValuedRow.holds Try.pinned (OpenSpec.ofChange polyValuedWrong)

/-- 'juntolaw02.PolyQuotients': WHATEVER THE INPUT: true; the input reads as it did. -/
def polyQuotientsSpec : ChangeSpec := { name := "polyQuotients", fn := fun _ => fun
  | [d1, d2, d3] => { results := [.lit (.bool true)], args := [d1, d2, d3] }
  | _ => none }
def polyQuotientsRow : OpenClaim := { program := "ytjjnfobeeflnhaa", sum := "9e8deb1d5928cfce68cbe30e6e06d0d965d727ae17dd38c1d086af0a3ebb8b32", func := "junto/juntolaw02.PolyQuotients", spec := "polyQuotients", unfollowed := true, recurses := true, apart := false }
def PolyQuotientsSaid : Prop := polyQuotientsRow.holds Try.pinned (OpenSpec.ofChange polyQuotientsSpec)

/-- ITS FALSE NEIGHBOUR: 'it returns false'. Refute it at one input. -/
def polyQuotientsWrong : ChangeSpec := { name := "polyQuotients", fn := fun _ => fun
  | [d1, d2, d3] => { results := [.lit (.bool false)], args := [d1, d2, d3] }
  | _ => none }
def PolyQuotientsWrongFalsely : Prop := polyQuotientsRow.holds Try.pinned (OpenSpec.ofChange polyQuotientsWrong)

/-- 'juntolaw02.PolyApart': WHATEVER THE INPUT: true; the input reads as it did. -/
def polyApartSpec : ChangeSpec := { name := "polyApart", fn := fun _ => fun
  | [d1, d2, d3] => { results := [.lit (.bool true)], args := [d1, d2, d3] }
  | _ => none }
def polyApartRow : OpenClaim := { program := "ytjjnfobeeflnhaa", sum := "9e8deb1d5928cfce68cbe30e6e06d0d965d727ae17dd38c1d086af0a3ebb8b32", func := "junto/juntolaw02.PolyApart", spec := "polyApart", unfollowed := true, recurses := true, apart := false }
def PolyApartSaid : Prop := polyApartRow.holds Try.pinned (OpenSpec.ofChange polyApartSpec)

/-- ITS FALSE NEIGHBOUR: 'it returns false'. Refute it at one input. -/
def polyApartWrong : ChangeSpec := { name := "polyApart", fn := fun _ => fun
  | [d1, d2, d3] => { results := [.lit (.bool false)], args := [d1, d2, d3] }
  | _ => none }
def PolyApartWrongFalsely : Prop := polyApartRow.holds Try.pinned (OpenSpec.ofChange polyApartWrong)

/-- 'juntolaw04.ShareSecrets': WHATEVER THE INPUT: true; the input reads as it did. -/
def shareSecretsSpec : ChangeSpec := { name := "shareSecrets", fn := fun _ => fun
  | [d1, d2, d3] => { results := [.lit (.bool true)], args := [d1, d2, d3] }
  | _ => none }
def shareSecretsRow : OpenClaim := { program := "ytjjnfobeeflnhaa", sum := "9e8deb1d5928cfce68cbe30e6e06d0d965d727ae17dd38c1d086af0a3ebb8b32", func := "junto/juntolaw04.ShareSecrets", spec := "shareSecrets", unfollowed := true, recurses := true, apart := false }
def ShareSecretsSaid : Prop := shareSecretsRow.holds Try.pinned (OpenSpec.ofChange shareSecretsSpec)

/-- ITS FALSE NEIGHBOUR: 'it returns false'. Refute it at one input. -/
def shareSecretsWrong : ChangeSpec := { name := "shareSecrets", fn := fun _ => fun
  | [d1, d2, d3] => { results := [.lit (.bool false)], args := [d1, d2, d3] }
  | _ => none }
def ShareSecretsWrongFalsely : Prop := shareSecretsRow.holds Try.pinned (OpenSpec.ofChange shareSecretsWrong)

/-- 'juntolaw04.ShareBack': WHATEVER THE INPUT: true; the input reads as it did. -/
def shareBackSpec : ChangeSpec := { name := "shareBack", fn := fun _ => fun
  | [d1, d2, d3] => { results := [.lit (.bool true)], args := [d1, d2, d3] }
  | _ => none }
def shareBackRow : OpenClaim := { program := "ytjjnfobeeflnhaa", sum := "9e8deb1d5928cfce68cbe30e6e06d0d965d727ae17dd38c1d086af0a3ebb8b32", func := "junto/juntolaw04.ShareBack", spec := "shareBack", unfollowed := true, recurses := true, apart := false }
def ShareBackSaid : Prop := shareBackRow.holds Try.pinned (OpenSpec.ofChange shareBackSpec)

/-- ITS FALSE NEIGHBOUR: 'it returns false'. Refute it at one input. -/
def shareBackWrong : ChangeSpec := { name := "shareBack", fn := fun _ => fun
  | [d1, d2, d3] => { results := [.lit (.bool false)], args := [d1, d2, d3] }
  | _ => none }
def ShareBackWrongFalsely : Prop := shareBackRow.holds Try.pinned (OpenSpec.ofChange shareBackWrong)

/- THE SECOND FORM. 'bulk': how many values and letters a reading holds, each counted each time it is reached (what is shared counts as often as it is met; a slice's spare places count too). A statement '..UptoSaid' is the law's where the arguments, and the package variables that the reading takes, are together of bulk at most 1048576: NARROWER than '..Said'. Prove '..Said' where nothing that the law and all that it calls make is longer than what came in: it says more and counts as full. Else prove '..UptoSaid'. A law counts once. -/
mutual
def uptoBulk {H : Type} : DataW H → Nat
  | .lit (.string bytes) => bytes.length + 1
  | .lit _ => 1
  | .nil => 1
  | .ptr d => uptoBulk d + 1
  | .slice elems spare => uptoBulkAll elems + uptoBulkAll spare + 1
  | .agg parts => uptoBulkAll parts + 1
  | .iface _ d => uptoBulk d + 1
  | .map entries => uptoBulkEntries entries + 1
  | .held _ => 1
def uptoBulkAll {H : Type} : List (DataW H) → Nat
  | [] => 0
  | d :: r => uptoBulk d + uptoBulkAll r
def uptoBulkEntries {H : Type} : List (Lit × DataW H) → Nat
  | [] => 0
  | x :: r => uptoBulkEntry x + uptoBulkEntries r
def uptoBulkEntry {H : Type} : Lit × DataW H → Nat
  | (.string bytes, d) => bytes.length + uptoBulk d + 1
  | (_, d) => uptoBulk d + 1
 end
def uptoSmall : (H : Type) → List (DataW H) → Bool := fun _ ds => decide (uptoBulkAll ds ≤ 1048576)
def OpenSpec.upto (s : _root_.Go.ChangeSpec) : _root_.Go.OpenSpec := { _root_.Go.OpenSpec.ofChange s with cond := some uptoSmall }

/-- 'juntolaw07.TwiceChecks', WHERE WHAT IT READS IS OF BULK AT MOST 1048576: true; the input reads as it did. -/
def twiceChecksUptoRow : OpenClaim := { program := "ytjjnfobeeflnhaa", sum := "9e8deb1d5928cfce68cbe30e6e06d0d965d727ae17dd38c1d086af0a3ebb8b32", func := "junto/juntolaw07.TwiceChecks", spec := "twiceChecks", unfollowed := true, recurses := true, apart := false, narrowed := true }
def TwiceChecksUptoSaid : Prop := twiceChecksUptoRow.holds Try.pinned (OpenSpec.upto twiceChecksSpec)

/-- 'juntolaw07.TwiceMakes', WHERE WHAT IT READS IS OF BULK AT MOST 1048576: true; the input reads as it did. -/
def twiceMakesUptoRow : OpenClaim := { program := "ytjjnfobeeflnhaa", sum := "9e8deb1d5928cfce68cbe30e6e06d0d965d727ae17dd38c1d086af0a3ebb8b32", func := "junto/juntolaw07.TwiceMakes", spec := "twiceMakes", unfollowed := true, recurses := true, apart := false, narrowed := true }
def TwiceMakesUptoSaid : Prop := twiceMakesUptoRow.holds Try.pinned (OpenSpec.upto twiceMakesSpec)

/-- 'juntolaw07.TwiceValues', WHERE WHAT IT READS IS OF BULK AT MOST 1048576: true; the input reads as it did. -/
def twiceValuesUptoRow : OpenClaim := { program := "ytjjnfobeeflnhaa", sum := "9e8deb1d5928cfce68cbe30e6e06d0d965d727ae17dd38c1d086af0a3ebb8b32", func := "junto/juntolaw07.TwiceValues", spec := "twiceValues", unfollowed := true, recurses := true, apart := false, narrowed := true }
def TwiceValuesUptoSaid : Prop := twiceValuesUptoRow.holds Try.pinned (OpenSpec.upto twiceValuesSpec)

/-- 'juntolaw07.TwiceProduct', WHERE WHAT IT READS IS OF BULK AT MOST 1048576: true; the input reads as it did. -/
def twiceProductUptoRow : OpenClaim := { program := "ytjjnfobeeflnhaa", sum := "9e8deb1d5928cfce68cbe30e6e06d0d965d727ae17dd38c1d086af0a3ebb8b32", func := "junto/juntolaw07.TwiceProduct", spec := "twiceProduct", unfollowed := true, recurses := true, apart := false, narrowed := true }
def TwiceProductUptoSaid : Prop := twiceProductUptoRow.holds Try.pinned (OpenSpec.upto twiceProductSpec)

/-- 'juntolaw07.TwiceJoins', WHERE WHAT IT READS IS OF BULK AT MOST 1048576: true; the input reads as it did. -/
def twiceJoinsUptoRow : OpenClaim := { program := "ytjjnfobeeflnhaa", sum := "9e8deb1d5928cfce68cbe30e6e06d0d965d727ae17dd38c1d086af0a3ebb8b32", func := "junto/juntolaw07.TwiceJoins", spec := "twiceJoins", unfollowed := true, recurses := true, apart := false, narrowed := true }
def TwiceJoinsUptoSaid : Prop := twiceJoinsUptoRow.holds Try.pinned (OpenSpec.upto twiceJoinsSpec)

/-- 'juntolaw07.TwiceOne', WHERE WHAT IT READS IS OF BULK AT MOST 1048576: true; the input reads as it did. -/
def twiceOneUptoRow : OpenClaim := { program := "ytjjnfobeeflnhaa", sum := "9e8deb1d5928cfce68cbe30e6e06d0d965d727ae17dd38c1d086af0a3ebb8b32", func := "junto/juntolaw07.TwiceOne", spec := "twiceOne", unfollowed := true, recurses := true, apart := false, narrowed := true }
def TwiceOneUptoSaid : Prop := twiceOneUptoRow.holds Try.pinned (OpenSpec.upto twiceOneSpec)

/-- 'juntolaw07.TwiceMoves', WHERE WHAT IT READS IS OF BULK AT MOST 1048576: true; the input reads as it did. -/
def twiceMovesUptoRow : OpenClaim := { program := "ytjjnfobeeflnhaa", sum := "9e8deb1d5928cfce68cbe30e6e06d0d965d727ae17dd38c1d086af0a3ebb8b32", func := "junto/juntolaw07.TwiceMoves", spec := "twiceMoves", unfollowed := true, recurses := true, apart := false, narrowed := true }
def TwiceMovesUptoSaid : Prop := twiceMovesUptoRow.holds Try.pinned (OpenSpec.upto twiceMovesSpec)

/-- 'juntolaw04.ShareSetups', WHERE WHAT IT READS IS OF BULK AT MOST 1048576: true; the input reads as it did. -/
def shareSetupsUptoRow : OpenClaim := { program := "ytjjnfobeeflnhaa", sum := "9e8deb1d5928cfce68cbe30e6e06d0d965d727ae17dd38c1d086af0a3ebb8b32", func := "junto/juntolaw04.ShareSetups", spec := "shareSetups", unfollowed := true, recurses := true, apart := false, narrowed := true }
def ShareSetupsUptoSaid : Prop := shareSetupsUptoRow.holds Try.pinned (OpenSpec.upto shareSetupsSpec)

/-- 'juntolaw04.ShareMakes', WHERE WHAT IT READS IS OF BULK AT MOST 1048576: true; the input reads as it did. -/
def shareMakesUptoRow : OpenClaim := { program := "ytjjnfobeeflnhaa", sum := "9e8deb1d5928cfce68cbe30e6e06d0d965d727ae17dd38c1d086af0a3ebb8b32", func := "junto/juntolaw04.ShareMakes", spec := "shareMakes", unfollowed := true, recurses := true, apart := false, narrowed := true }
def ShareMakesUptoSaid : Prop := shareMakesUptoRow.holds Try.pinned (OpenSpec.upto shareMakesSpec)

/-- 'juntolaw04.ShareValues', WHERE WHAT IT READS IS OF BULK AT MOST 1048576: true; the input reads as it did. -/
def shareValuesUptoRow : OpenClaim := { program := "ytjjnfobeeflnhaa", sum := "9e8deb1d5928cfce68cbe30e6e06d0d965d727ae17dd38c1d086af0a3ebb8b32", func := "junto/juntolaw04.ShareValues", spec := "shareValues", unfollowed := true, recurses := true, apart := false, narrowed := true }
def ShareValuesUptoSaid : Prop := shareValuesUptoRow.holds Try.pinned (OpenSpec.upto shareValuesSpec)

/-- 'juntolaw04.ShareMoves', WHERE WHAT IT READS IS OF BULK AT MOST 1048576: true; the input reads as it did. -/
def shareMovesUptoRow : OpenClaim := { program := "ytjjnfobeeflnhaa", sum := "9e8deb1d5928cfce68cbe30e6e06d0d965d727ae17dd38c1d086af0a3ebb8b32", func := "junto/juntolaw04.ShareMoves", spec := "shareMoves", unfollowed := true, recurses := true, apart := false, narrowed := true }
def ShareMovesUptoSaid : Prop := shareMovesUptoRow.holds Try.pinned (OpenSpec.upto shareMovesSpec)

/-- 'juntolaw04.ShareNothing', WHERE WHAT IT READS IS OF BULK AT MOST 1048576: true; the input reads as it did. -/
def shareNothingUptoRow : OpenClaim := { program := "ytjjnfobeeflnhaa", sum := "9e8deb1d5928cfce68cbe30e6e06d0d965d727ae17dd38c1d086af0a3ebb8b32", func := "junto/juntolaw04.ShareNothing", spec := "shareNothing", unfollowed := true, recurses := true, apart := false, narrowed := true }
def ShareNothingUptoSaid : Prop := shareNothingUptoRow.holds Try.pinned (OpenSpec.upto shareNothingSpec)

/-- 'juntolaw04.ShareOnly', WHERE WHAT IT READS IS OF BULK AT MOST 1048576: true; the input reads as it did. -/
def shareOnlyUptoRow : OpenClaim := { program := "ytjjnfobeeflnhaa", sum := "9e8deb1d5928cfce68cbe30e6e06d0d965d727ae17dd38c1d086af0a3ebb8b32", func := "junto/juntolaw04.ShareOnly", spec := "shareOnly", unfollowed := true, recurses := true, apart := false, narrowed := true }
def ShareOnlyUptoSaid : Prop := shareOnlyUptoRow.holds Try.pinned (OpenSpec.upto shareOnlySpec)

/-- 'juntolaw04.ShareThere', WHERE WHAT IT READS IS OF BULK AT MOST 1048576: true; the input reads as it did. -/
def shareThereUptoRow : OpenClaim := { program := "ytjjnfobeeflnhaa", sum := "9e8deb1d5928cfce68cbe30e6e06d0d965d727ae17dd38c1d086af0a3ebb8b32", func := "junto/juntolaw04.ShareThere", spec := "shareThere", unfollowed := true, recurses := true, apart := false, narrowed := true }
def ShareThereUptoSaid : Prop := shareThereUptoRow.holds Try.pinned (OpenSpec.upto shareThereSpec)

/-- 'juntolaw04.ShareSums', WHERE WHAT IT READS IS OF BULK AT MOST 1048576: true; the input reads as it did. -/
def shareSumsUptoRow : OpenClaim := { program := "ytjjnfobeeflnhaa", sum := "9e8deb1d5928cfce68cbe30e6e06d0d965d727ae17dd38c1d086af0a3ebb8b32", func := "junto/juntolaw04.ShareSums", spec := "shareSums", unfollowed := true, recurses := true, apart := false, narrowed := true }
def ShareSumsUptoSaid : Prop := shareSumsUptoRow.holds Try.pinned (OpenSpec.upto shareSumsSpec)

/-- 'juntolaw04.ShareFits', WHERE WHAT IT READS IS OF BULK AT MOST 1048576: true; the input reads as it did. -/
def shareFitsUptoRow : OpenClaim := { program := "ytjjnfobeeflnhaa", sum := "9e8deb1d5928cfce68cbe30e6e06d0d965d727ae17dd38c1d086af0a3ebb8b32", func := "junto/juntolaw04.ShareFits", spec := "shareFits", unfollowed := true, recurses := true, apart := false, narrowed := true }
def ShareFitsUptoSaid : Prop := shareFitsUptoRow.holds Try.pinned (OpenSpec.upto shareFitsSpec)

/-- 'juntolaw07.TwiceCuts', WHERE WHAT IT READS IS OF BULK AT MOST 1048576: true; the input reads as it did. -/
def twiceCutsUptoRow : OpenClaim := { program := "ytjjnfobeeflnhaa", sum := "9e8deb1d5928cfce68cbe30e6e06d0d965d727ae17dd38c1d086af0a3ebb8b32", func := "junto/juntolaw07.TwiceCuts", spec := "twiceCuts", unfollowed := true, recurses := true, apart := false, narrowed := true }
def TwiceCutsUptoSaid : Prop := twiceCutsUptoRow.holds Try.pinned (OpenSpec.upto twiceCutsSpec)

/-- 'juntolaw07.TwiceMoved', WHERE WHAT IT READS IS OF BULK AT MOST 1048576: true; the input reads as it did. -/
def twiceMovedUptoRow : OpenClaim := { program := "ytjjnfobeeflnhaa", sum := "9e8deb1d5928cfce68cbe30e6e06d0d965d727ae17dd38c1d086af0a3ebb8b32", func := "junto/juntolaw07.TwiceMoved", spec := "twiceMoved", unfollowed := true, recurses := true, apart := false, narrowed := true }
def TwiceMovedUptoSaid : Prop := twiceMovedUptoRow.holds Try.pinned (OpenSpec.upto twiceMovedSpec)

/-- 'juntolaw02.PolyThrough', WHERE WHAT IT READS IS OF BULK AT MOST 1048576: true; the input reads as it did. -/
def polyThroughUptoRow : OpenClaim := { program := "ytjjnfobeeflnhaa", sum := "9e8deb1d5928cfce68cbe30e6e06d0d965d727ae17dd38c1d086af0a3ebb8b32", func := "junto/juntolaw02.PolyThrough", spec := "polyThrough", unfollowed := true, recurses := true, apart := false, narrowed := true }
def PolyThroughUptoSaid : Prop := polyThroughUptoRow.holds Try.pinned (OpenSpec.upto polyThroughSpec)

/-- 'juntolaw02.PolyWeights', WHERE WHAT IT READS IS OF BULK AT MOST 1048576: true; the input reads as it did. -/
def polyWeightsUptoRow : OpenClaim := { program := "ytjjnfobeeflnhaa", sum := "9e8deb1d5928cfce68cbe30e6e06d0d965d727ae17dd38c1d086af0a3ebb8b32", func := "junto/juntolaw02.PolyWeights", spec := "polyWeights", unfollowed := true, recurses := true, apart := false, narrowed := true }
def PolyWeightsUptoSaid : Prop := polyWeightsUptoRow.holds Try.pinned (OpenSpec.upto polyWeightsSpec)

/-- 'juntolaw02.PolyAway', WHERE WHAT IT READS IS OF BULK AT MOST 1048576: true; the input reads as it did. -/
def polyAwayUptoRow : OpenClaim := { program := "ytjjnfobeeflnhaa", sum := "9e8deb1d5928cfce68cbe30e6e06d0d965d727ae17dd38c1d086af0a3ebb8b32", func := "junto/juntolaw02.PolyAway", spec := "polyAway", unfollowed := true, recurses := true, apart := false, narrowed := true }
def PolyAwayUptoSaid : Prop := polyAwayUptoRow.holds Try.pinned (OpenSpec.upto polyAwaySpec)

/-- 'juntolaw02.PolySlopes', WHERE WHAT IT READS IS OF BULK AT MOST 1048576: true; the input reads as it did. -/
def polySlopesUptoRow : OpenClaim := { program := "ytjjnfobeeflnhaa", sum := "9e8deb1d5928cfce68cbe30e6e06d0d965d727ae17dd38c1d086af0a3ebb8b32", func := "junto/juntolaw02.PolySlopes", spec := "polySlopes", unfollowed := true, recurses := true, apart := false, narrowed := true }
def PolySlopesUptoSaid : Prop := polySlopesUptoRow.holds Try.pinned (OpenSpec.upto polySlopesSpec)

/-- 'juntolaw02.PolyProducts', WHERE WHAT IT READS IS OF BULK AT MOST 1048576: true; the input reads as it did. -/
def polyProductsUptoRow : OpenClaim := { program := "ytjjnfobeeflnhaa", sum := "9e8deb1d5928cfce68cbe30e6e06d0d965d727ae17dd38c1d086af0a3ebb8b32", func := "junto/juntolaw02.PolyProducts", spec := "polyProducts", unfollowed := true, recurses := true, apart := false, narrowed := true }
def PolyProductsUptoSaid : Prop := polyProductsUptoRow.holds Try.pinned (OpenSpec.upto polyProductsSpec)

/-- 'juntolaw02.PolySums', WHERE WHAT IT READS IS OF BULK AT MOST 1048576: true; the input reads as it did. -/
def polySumsUptoRow : OpenClaim := { program := "ytjjnfobeeflnhaa", sum := "9e8deb1d5928cfce68cbe30e6e06d0d965d727ae17dd38c1d086af0a3ebb8b32", func := "junto/juntolaw02.PolySums", spec := "polySums", unfollowed := true, recurses := true, apart := false, narrowed := true }
def PolySumsUptoSaid : Prop := polySumsUptoRow.holds Try.pinned (OpenSpec.upto polySumsSpec)

/-- 'juntolaw02.PolyBack', WHERE WHAT IT READS IS OF BULK AT MOST 1048576: true; the input reads as it did. -/
def polyBackUptoRow : OpenClaim := { program := "ytjjnfobeeflnhaa", sum := "9e8deb1d5928cfce68cbe30e6e06d0d965d727ae17dd38c1d086af0a3ebb8b32", func := "junto/juntolaw02.PolyBack", spec := "polyBack", unfollowed := true, recurses := true, apart := false, narrowed := true }
def PolyBackUptoSaid : Prop := polyBackUptoRow.holds Try.pinned (OpenSpec.upto polyBackSpec)

/-- 'juntolaw02.PolyValues', WHERE WHAT IT READS IS OF BULK AT MOST 1048576: true; the input reads as it did. -/
def polyValuesUptoRow : OpenClaim := { program := "ytjjnfobeeflnhaa", sum := "9e8deb1d5928cfce68cbe30e6e06d0d965d727ae17dd38c1d086af0a3ebb8b32", func := "junto/juntolaw02.PolyValues", spec := "polyValues", unfollowed := true, recurses := true, apart := false, narrowed := true }
def PolyValuesUptoSaid : Prop := polyValuesUptoRow.holds Try.pinned (OpenSpec.upto polyValuesSpec)

/-- 'juntolaw02.PolyRoots', WHERE WHAT IT READS IS OF BULK AT MOST 1048576: true; the input reads as it did. -/
def polyRootsUptoRow : OpenClaim := { program := "ytjjnfobeeflnhaa", sum := "9e8deb1d5928cfce68cbe30e6e06d0d965d727ae17dd38c1d086af0a3ebb8b32", func := "junto/juntolaw02.PolyRoots", spec := "polyRoots", unfollowed := true, recurses := true, apart := false, narrowed := true }
def PolyRootsUptoSaid : Prop := polyRootsUptoRow.holds Try.pinned (OpenSpec.upto polyRootsSpec)

/-- 'juntolaw02.PolyFew', WHERE WHAT IT READS IS OF BULK AT MOST 1048576: true; the input reads as it did. -/
def polyFewUptoRow : OpenClaim := { program := "ytjjnfobeeflnhaa", sum := "9e8deb1d5928cfce68cbe30e6e06d0d965d727ae17dd38c1d086af0a3ebb8b32", func := "junto/juntolaw02.PolyFew", spec := "polyFew", unfollowed := true, recurses := true, apart := false, narrowed := true }
def PolyFewUptoSaid : Prop := polyFewUptoRow.holds Try.pinned (OpenSpec.upto polyFewSpec)

/-- 'juntolaw02.PolyValued', WHERE WHAT IT READS IS OF BULK AT MOST 1048576: true; the input reads as it did. -/
def polyValuedUptoRow : OpenClaim := { program := "ytjjnfobeeflnhaa", sum := "9e8deb1d5928cfce68cbe30e6e06d0d965d727ae17dd38c1d086af0a3ebb8b32", func := "junto/juntolaw02.PolyValued", spec := "polyValued", unfollowed := true, recurses := true, apart := false, narrowed := true }
def PolyValuedUptoSaid : Prop := polyValuedUptoRow.holds Try.pinned (OpenSpec.upto polyValuedSpec)

/-- 'juntolaw02.PolyQuotients', WHERE WHAT IT READS IS OF BULK AT MOST 1048576: true; the input reads as it did. -/
def polyQuotientsUptoRow : OpenClaim := { program := "ytjjnfobeeflnhaa", sum := "9e8deb1d5928cfce68cbe30e6e06d0d965d727ae17dd38c1d086af0a3ebb8b32", func := "junto/juntolaw02.PolyQuotients", spec := "polyQuotients", unfollowed := true, recurses := true, apart := false, narrowed := true }
def PolyQuotientsUptoSaid : Prop := polyQuotientsUptoRow.holds Try.pinned (OpenSpec.upto polyQuotientsSpec)

/-- 'juntolaw02.PolyApart', WHERE WHAT IT READS IS OF BULK AT MOST 1048576: true; the input reads as it did. -/
def polyApartUptoRow : OpenClaim := { program := "ytjjnfobeeflnhaa", sum := "9e8deb1d5928cfce68cbe30e6e06d0d965d727ae17dd38c1d086af0a3ebb8b32", func := "junto/juntolaw02.PolyApart", spec := "polyApart", unfollowed := true, recurses := true, apart := false, narrowed := true }
def PolyApartUptoSaid : Prop := polyApartUptoRow.holds Try.pinned (OpenSpec.upto polyApartSpec)

/-- 'juntolaw04.ShareSecrets', WHERE WHAT IT READS IS OF BULK AT MOST 1048576: true; the input reads as it did. -/
def shareSecretsUptoRow : OpenClaim := { program := "ytjjnfobeeflnhaa", sum := "9e8deb1d5928cfce68cbe30e6e06d0d965d727ae17dd38c1d086af0a3ebb8b32", func := "junto/juntolaw04.ShareSecrets", spec := "shareSecrets", unfollowed := true, recurses := true, apart := false, narrowed := true }
def ShareSecretsUptoSaid : Prop := shareSecretsUptoRow.holds Try.pinned (OpenSpec.upto shareSecretsSpec)

/-- 'juntolaw04.ShareBack', WHERE WHAT IT READS IS OF BULK AT MOST 1048576: true; the input reads as it did. -/
def shareBackUptoRow : OpenClaim := { program := "ytjjnfobeeflnhaa", sum := "9e8deb1d5928cfce68cbe30e6e06d0d965d727ae17dd38c1d086af0a3ebb8b32", func := "junto/juntolaw04.ShareBack", spec := "shareBack", unfollowed := true, recurses := true, apart := false, narrowed := true }
def ShareBackUptoSaid : Prop := shareBackUptoRow.holds Try.pinned (OpenSpec.upto shareBackSpec)

end Rows
end Go.Proofs.Ytjjnfobeeflnhaa
