/-
  No cell of these rows narrows 'for every input' (looked for: loops, veiled, ifaces, maps, wideKeys, modest, calm, conditions, laid).
  DERIVED. THE GIVEN ROWS OF THIS SEAT. 9 by the template 'for every input the law returns true; each argument reads behind the call as it read before'; 0 by the template 'total and deterministic' (their statements: YtmlbliggbkfjnaaTotals.lean).
  GIVEN WITH THE SEED: the statements are not yours to turn. If you find one false, say at which input.
  Laid BY PROGRAM, IN A SANDBOX (cutbox-rows.mjs): the forced cells as the released guide's own fill.sh prints them over the translation e96f8b4fc09a77ed… (all of the seat's roots in one cut). By AI agents, Wed Nov 11 2026. No macro, syntax, notation, axiom, sorry.
-/
import Derived.Test.YtmlbliggbkfjnaaChecked
import GoSem.Claim
import GoSem.ClaimJoined
import GoSem.ClaimMapViews
import Derived.JoinedTies
import Derived.KernelRfl
namespace Go.Proofs.Ytmlbliggbkfjnaa
/- THE CELL 'sum', in the pinned program and in every row, IS THE sha256 OF THE DUMP (.gsa) THAT YtmlbliggbkfjnaaProg.lean LOADS. Nothing in Lean hashes anything: it is a label: what it is worth is what the hold of that sum in a sandbox is worth. -/
noncomputable def Try.pinned : Pinned := { name := "ytmlbliggbkfjnaa", sum := "e96f8b4fc09a77edecaa4745ebb913e0066af328c16b8e1ef8ac935a41c14e02", checked := Try.checked }
namespace Rows
def none {H : Type} : Left H := { results := [], args := [] }

/-- 'juntolaw16.TuneLevels': WHATEVER THE INPUT: true; the input reads as it did. -/
def tuneLevelsSpec : ChangeSpec := { name := "tuneLevels", fn := fun _ => fun
  | [d] => { results := [.lit (.bool true)], args := [d] }
  | _ => none }
def tuneLevelsRow : OpenClaim := { program := "ytmlbliggbkfjnaa", sum := "e96f8b4fc09a77edecaa4745ebb913e0066af328c16b8e1ef8ac935a41c14e02", func := "junto/juntolaw16.TuneLevels", spec := "tuneLevels", unfollowed := true, recurses := true, plainKeys := false, apart := false }
def TuneLevelsSaid : Prop := tuneLevelsRow.holds Try.pinned (OpenSpec.ofChange tuneLevelsSpec)

/-- ITS FALSE NEIGHBOUR: 'it returns false'. Refute it at one input. -/
def tuneLevelsWrong : ChangeSpec := { name := "tuneLevels", fn := fun _ => fun
  | [d] => { results := [.lit (.bool false)], args := [d] }
  | _ => none }
def TuneLevelsWrongFalsely : Prop := tuneLevelsRow.holds Try.pinned (OpenSpec.ofChange tuneLevelsWrong)

/-- 'juntolaw16.TuneFolds': WHATEVER THE INPUT: true; the input reads as it did. -/
def tuneFoldsSpec : ChangeSpec := { name := "tuneFolds", fn := fun _ => fun
  | [d1, d2] => { results := [.lit (.bool true)], args := [d1, d2] }
  | _ => none }
def tuneFoldsRow : OpenClaim := { program := "ytmlbliggbkfjnaa", sum := "e96f8b4fc09a77edecaa4745ebb913e0066af328c16b8e1ef8ac935a41c14e02", func := "junto/juntolaw16.TuneFolds", spec := "tuneFolds", unfollowed := true, recurses := true, plainKeys := false, apart := false }
def TuneFoldsSaid : Prop := tuneFoldsRow.holds Try.pinned (OpenSpec.ofChange tuneFoldsSpec)

/-- ITS FALSE NEIGHBOUR: 'it returns false'. Refute it at one input. -/
def tuneFoldsWrong : ChangeSpec := { name := "tuneFolds", fn := fun _ => fun
  | [d1, d2] => { results := [.lit (.bool false)], args := [d1, d2] }
  | _ => none }
def TuneFoldsWrongFalsely : Prop := tuneFoldsRow.holds Try.pinned (OpenSpec.ofChange tuneFoldsWrong)

/-- 'juntolaw16.TuneShares': WHATEVER THE INPUT: true; the input reads as it did. -/
def tuneSharesSpec : ChangeSpec := { name := "tuneShares", fn := fun _ => fun
  | [d1, d2] => { results := [.lit (.bool true)], args := [d1, d2] }
  | _ => none }
def tuneSharesRow : OpenClaim := { program := "ytmlbliggbkfjnaa", sum := "e96f8b4fc09a77edecaa4745ebb913e0066af328c16b8e1ef8ac935a41c14e02", func := "junto/juntolaw16.TuneShares", spec := "tuneShares", unfollowed := true, recurses := true, plainKeys := false, apart := false }
def TuneSharesSaid : Prop := tuneSharesRow.holds Try.pinned (OpenSpec.ofChange tuneSharesSpec)

/-- ITS FALSE NEIGHBOUR: 'it returns false'. Refute it at one input. -/
def tuneSharesWrong : ChangeSpec := { name := "tuneShares", fn := fun _ => fun
  | [d1, d2] => { results := [.lit (.bool false)], args := [d1, d2] }
  | _ => none }
def TuneSharesWrongFalsely : Prop := tuneSharesRow.holds Try.pinned (OpenSpec.ofChange tuneSharesWrong)

/-- 'juntolaw16.TunePrunes': WHATEVER THE INPUT: true; the input reads as it did. -/
def tunePrunesSpec : ChangeSpec := { name := "tunePrunes", fn := fun _ => fun
  | [d1, d2] => { results := [.lit (.bool true)], args := [d1, d2] }
  | _ => none }
def tunePrunesRow : OpenClaim := { program := "ytmlbliggbkfjnaa", sum := "e96f8b4fc09a77edecaa4745ebb913e0066af328c16b8e1ef8ac935a41c14e02", func := "junto/juntolaw16.TunePrunes", spec := "tunePrunes", unfollowed := true, recurses := true, plainKeys := false, apart := false }
def TunePrunesSaid : Prop := tunePrunesRow.holds Try.pinned (OpenSpec.ofChange tunePrunesSpec)

/-- ITS FALSE NEIGHBOUR: 'it returns false'. Refute it at one input. -/
def tunePrunesWrong : ChangeSpec := { name := "tunePrunes", fn := fun _ => fun
  | [d1, d2] => { results := [.lit (.bool false)], args := [d1, d2] }
  | _ => none }
def TunePrunesWrongFalsely : Prop := tunePrunesRow.holds Try.pinned (OpenSpec.ofChange tunePrunesWrong)

/-- 'juntolaw16.TuneTunes': WHATEVER THE INPUT: true; the input reads as it did. -/
def tuneTunesSpec : ChangeSpec := { name := "tuneTunes", fn := fun _ => fun
  | [d1, d2] => { results := [.lit (.bool true)], args := [d1, d2] }
  | _ => none }
def tuneTunesRow : OpenClaim := { program := "ytmlbliggbkfjnaa", sum := "e96f8b4fc09a77edecaa4745ebb913e0066af328c16b8e1ef8ac935a41c14e02", func := "junto/juntolaw16.TuneTunes", spec := "tuneTunes", unfollowed := true, recurses := true, plainKeys := false, apart := false }
def TuneTunesSaid : Prop := tuneTunesRow.holds Try.pinned (OpenSpec.ofChange tuneTunesSpec)

/-- ITS FALSE NEIGHBOUR: 'it returns false'. Refute it at one input. -/
def tuneTunesWrong : ChangeSpec := { name := "tuneTunes", fn := fun _ => fun
  | [d1, d2] => { results := [.lit (.bool false)], args := [d1, d2] }
  | _ => none }
def TuneTunesWrongFalsely : Prop := tuneTunesRow.holds Try.pinned (OpenSpec.ofChange tuneTunesWrong)

/-- 'juntolaw16.TuneSame': WHATEVER THE INPUT: true; the input reads as it did. -/
def tuneSameSpec : ChangeSpec := { name := "tuneSame", fn := fun _ => fun
  | [d1, d2, d3] => { results := [.lit (.bool true)], args := [d1, d2, d3] }
  | _ => none }
def tuneSameRow : OpenClaim := { program := "ytmlbliggbkfjnaa", sum := "e96f8b4fc09a77edecaa4745ebb913e0066af328c16b8e1ef8ac935a41c14e02", func := "junto/juntolaw16.TuneSame", spec := "tuneSame", unfollowed := true, recurses := true, plainKeys := false, apart := false }
def TuneSameSaid : Prop := tuneSameRow.holds Try.pinned (OpenSpec.ofChange tuneSameSpec)

/-- ITS FALSE NEIGHBOUR: 'it returns false'. Refute it at one input. -/
def tuneSameWrong : ChangeSpec := { name := "tuneSame", fn := fun _ => fun
  | [d1, d2, d3] => { results := [.lit (.bool false)], args := [d1, d2, d3] }
  | _ => none }
def TuneSameWrongFalsely : Prop := tuneSameRow.holds Try.pinned (OpenSpec.ofChange tuneSameWrong)

/-- 'juntolaw16.TuneLess': WHATEVER THE INPUT: true; the input reads as it did. -/
def tuneLessSpec : ChangeSpec := { name := "tuneLess", fn := fun _ => fun
  | [d1, d2] => { results := [.lit (.bool true)], args := [d1, d2] }
  | _ => none }
def tuneLessRow : OpenClaim := { program := "ytmlbliggbkfjnaa", sum := "e96f8b4fc09a77edecaa4745ebb913e0066af328c16b8e1ef8ac935a41c14e02", func := "junto/juntolaw16.TuneLess", spec := "tuneLess", unfollowed := true, recurses := true, plainKeys := false, apart := false }
def TuneLessSaid : Prop := tuneLessRow.holds Try.pinned (OpenSpec.ofChange tuneLessSpec)

/-- ITS FALSE NEIGHBOUR: 'it returns false'. Refute it at one input. -/
def tuneLessWrong : ChangeSpec := { name := "tuneLess", fn := fun _ => fun
  | [d1, d2] => { results := [.lit (.bool false)], args := [d1, d2] }
  | _ => none }
def TuneLessWrongFalsely : Prop := tuneLessRow.holds Try.pinned (OpenSpec.ofChange tuneLessWrong)

/-- 'juntolaw16.TuneDone': WHATEVER THE INPUT: true; the input reads as it did. -/
def tuneDoneSpec : ChangeSpec := { name := "tuneDone", fn := fun _ => fun
  | [d1, d2] => { results := [.lit (.bool true)], args := [d1, d2] }
  | _ => none }
def tuneDoneRow : OpenClaim := { program := "ytmlbliggbkfjnaa", sum := "e96f8b4fc09a77edecaa4745ebb913e0066af328c16b8e1ef8ac935a41c14e02", func := "junto/juntolaw16.TuneDone", spec := "tuneDone", unfollowed := true, recurses := true, plainKeys := false, apart := false }
def TuneDoneSaid : Prop := tuneDoneRow.holds Try.pinned (OpenSpec.ofChange tuneDoneSpec)

/-- ITS FALSE NEIGHBOUR: 'it returns false'. Refute it at one input. -/
def tuneDoneWrong : ChangeSpec := { name := "tuneDone", fn := fun _ => fun
  | [d1, d2] => { results := [.lit (.bool false)], args := [d1, d2] }
  | _ => none }
def TuneDoneWrongFalsely : Prop := tuneDoneRow.holds Try.pinned (OpenSpec.ofChange tuneDoneWrong)

/-- 'juntolaw16.TuneRounds': WHATEVER THE INPUT: true; the input reads as it did. -/
def tuneRoundsSpec : ChangeSpec := { name := "tuneRounds", fn := fun _ => fun
  | [d1, d2] => { results := [.lit (.bool true)], args := [d1, d2] }
  | _ => none }
def tuneRoundsRow : OpenClaim := { program := "ytmlbliggbkfjnaa", sum := "e96f8b4fc09a77edecaa4745ebb913e0066af328c16b8e1ef8ac935a41c14e02", func := "junto/juntolaw16.TuneRounds", spec := "tuneRounds", unfollowed := true, recurses := true, plainKeys := false, apart := false }
def TuneRoundsSaid : Prop := tuneRoundsRow.holds Try.pinned (OpenSpec.ofChange tuneRoundsSpec)

/-- ITS FALSE NEIGHBOUR: 'it returns false'. Refute it at one input. -/
def tuneRoundsWrong : ChangeSpec := { name := "tuneRounds", fn := fun _ => fun
  | [d1, d2] => { results := [.lit (.bool false)], args := [d1, d2] }
  | _ => none }
def TuneRoundsWrongFalsely : Prop := tuneRoundsRow.holds Try.pinned (OpenSpec.ofChange tuneRoundsWrong)

/- THE SECOND FORM. 'bulk': how many values and letters a reading holds, each counted each time it is reached (what is shared counts as often as it is met; a slice's spare places count too). A statement '..UptoSaid' is the law's where the arguments, and the package variables that the reading takes, are together of bulk at most 1048576: NARROWER than '..Said'. Prove '..Said' where nothing that the law and all that it calls make is longer than what came in: it says more and counts as full. Else prove '..UptoSaid'. A law counts once. -/
mutual
def uptoBulk {H : Type} : DataW H → Nat
  | .lit (.string bytes) => bytes.length + 1
  | .lit _ => 1
  | .nil => 1
  | .ptr d => uptoBulk d + 1
  | .slice elems spare => uptoBulkAll elems + uptoBulkAll spare + 1
  | .agg parts => uptoBulkAll parts + 1
  | .iface _ d => uptoBulk d + 1
  | .map entries => uptoBulkEntries entries + 1
  | .held _ => 1
def uptoBulkAll {H : Type} : List (DataW H) → Nat
  | [] => 0
  | d :: r => uptoBulk d + uptoBulkAll r
def uptoBulkEntries {H : Type} : List (Lit × DataW H) → Nat
  | [] => 0
  | x :: r => uptoBulkEntry x + uptoBulkEntries r
def uptoBulkEntry {H : Type} : Lit × DataW H → Nat
  | (.string bytes, d) => bytes.length + uptoBulk d + 1
  | (_, d) => uptoBulk d + 1
 end
def uptoSmall : (H : Type) → List (DataW H) → Bool := fun _ ds => decide (uptoBulkAll ds ≤ 1048576)
def OpenSpec.upto (s : _root_.Go.ChangeSpec) : _root_.Go.OpenSpec := { _root_.Go.OpenSpec.ofChange s with cond := some uptoSmall }

/-- 'juntolaw16.TuneLevels', WHERE WHAT IT READS IS OF BULK AT MOST 1048576: true; the input reads as it did. -/
def tuneLevelsUptoRow : OpenClaim := { program := "ytmlbliggbkfjnaa", sum := "e96f8b4fc09a77edecaa4745ebb913e0066af328c16b8e1ef8ac935a41c14e02", func := "junto/juntolaw16.TuneLevels", spec := "tuneLevels", unfollowed := true, recurses := true, plainKeys := false, apart := false, narrowed := true }
def TuneLevelsUptoSaid : Prop := tuneLevelsUptoRow.holds Try.pinned (OpenSpec.upto tuneLevelsSpec)

/-- 'juntolaw16.TuneFolds', WHERE WHAT IT READS IS OF BULK AT MOST 1048576: true; the input reads as it did. -/
def tuneFoldsUptoRow : OpenClaim := { program := "ytmlbliggbkfjnaa", sum := "e96f8b4fc09a77edecaa4745ebb913e0066af328c16b8e1ef8ac935a41c14e02", func := "junto/juntolaw16.TuneFolds", spec := "tuneFolds", unfollowed := true, recurses := true, plainKeys := false, apart := false, narrowed := true }
def TuneFoldsUptoSaid : Prop := tuneFoldsUptoRow.holds Try.pinned (OpenSpec.upto tuneFoldsSpec)

/-- 'juntolaw16.TuneShares', WHERE WHAT IT READS IS OF BULK AT MOST 1048576: true; the input reads as it did. -/
def tuneSharesUptoRow : OpenClaim := { program := "ytmlbliggbkfjnaa", sum := "e96f8b4fc09a77edecaa4745ebb913e0066af328c16b8e1ef8ac935a41c14e02", func := "junto/juntolaw16.TuneShares", spec := "tuneShares", unfollowed := true, recurses := true, plainKeys := false, apart := false, narrowed := true }
def TuneSharesUptoSaid : Prop := tuneSharesUptoRow.holds Try.pinned (OpenSpec.upto tuneSharesSpec)

/-- 'juntolaw16.TunePrunes', WHERE WHAT IT READS IS OF BULK AT MOST 1048576: true; the input reads as it did. -/
def tunePrunesUptoRow : OpenClaim := { program := "ytmlbliggbkfjnaa", sum := "e96f8b4fc09a77edecaa4745ebb913e0066af328c16b8e1ef8ac935a41c14e02", func := "junto/juntolaw16.TunePrunes", spec := "tunePrunes", unfollowed := true, recurses := true, plainKeys := false, apart := false, narrowed := true }
def TunePrunesUptoSaid : Prop := tunePrunesUptoRow.holds Try.pinned (OpenSpec.upto tunePrunesSpec)

/-- 'juntolaw16.TuneTunes', WHERE WHAT IT READS IS OF BULK AT MOST 1048576: true; the input reads as it did. -/
def tuneTunesUptoRow : OpenClaim := { program := "ytmlbliggbkfjnaa", sum := "e96f8b4fc09a77edecaa4745ebb913e0066af328c16b8e1ef8ac935a41c14e02", func := "junto/juntolaw16.TuneTunes", spec := "tuneTunes", unfollowed := true, recurses := true, plainKeys := false, apart := false, narrowed := true }
def TuneTunesUptoSaid : Prop := tuneTunesUptoRow.holds Try.pinned (OpenSpec.upto tuneTunesSpec)

/-- 'juntolaw16.TuneSame', WHERE WHAT IT READS IS OF BULK AT MOST 1048576: true; the input reads as it did. -/
def tuneSameUptoRow : OpenClaim := { program := "ytmlbliggbkfjnaa", sum := "e96f8b4fc09a77edecaa4745ebb913e0066af328c16b8e1ef8ac935a41c14e02", func := "junto/juntolaw16.TuneSame", spec := "tuneSame", unfollowed := true, recurses := true, plainKeys := false, apart := false, narrowed := true }
def TuneSameUptoSaid : Prop := tuneSameUptoRow.holds Try.pinned (OpenSpec.upto tuneSameSpec)

/-- 'juntolaw16.TuneLess', WHERE WHAT IT READS IS OF BULK AT MOST 1048576: true; the input reads as it did. -/
def tuneLessUptoRow : OpenClaim := { program := "ytmlbliggbkfjnaa", sum := "e96f8b4fc09a77edecaa4745ebb913e0066af328c16b8e1ef8ac935a41c14e02", func := "junto/juntolaw16.TuneLess", spec := "tuneLess", unfollowed := true, recurses := true, plainKeys := false, apart := false, narrowed := true }
def TuneLessUptoSaid : Prop := tuneLessUptoRow.holds Try.pinned (OpenSpec.upto tuneLessSpec)

/-- 'juntolaw16.TuneDone', WHERE WHAT IT READS IS OF BULK AT MOST 1048576: true; the input reads as it did. -/
def tuneDoneUptoRow : OpenClaim := { program := "ytmlbliggbkfjnaa", sum := "e96f8b4fc09a77edecaa4745ebb913e0066af328c16b8e1ef8ac935a41c14e02", func := "junto/juntolaw16.TuneDone", spec := "tuneDone", unfollowed := true, recurses := true, plainKeys := false, apart := false, narrowed := true }
def TuneDoneUptoSaid : Prop := tuneDoneUptoRow.holds Try.pinned (OpenSpec.upto tuneDoneSpec)

/-- 'juntolaw16.TuneRounds', WHERE WHAT IT READS IS OF BULK AT MOST 1048576: true; the input reads as it did. -/
def tuneRoundsUptoRow : OpenClaim := { program := "ytmlbliggbkfjnaa", sum := "e96f8b4fc09a77edecaa4745ebb913e0066af328c16b8e1ef8ac935a41c14e02", func := "junto/juntolaw16.TuneRounds", spec := "tuneRounds", unfollowed := true, recurses := true, plainKeys := false, apart := false, narrowed := true }
def TuneRoundsUptoSaid : Prop := tuneRoundsUptoRow.holds Try.pinned (OpenSpec.upto tuneRoundsSpec)

end Rows
end Go.Proofs.Ytmlbliggbkfjnaa
