/-
  DERIVED. GIVEN WITH THE SEED: THE CARDS: each row of YtefhaojjohddaaaGreatDoorRows.lean that lists a variable, with what it lists TIED to the program's text (the seventh form; the later family's looks); each row that meets fmt, with fmt's text TOLD by the authors' own Lean function (tested against real Go, not proved from fmt's source: count such statements apart). THE CARD IS WHAT COUNTS. Prove the row's statement (the work); the ties are given (YtefhaojjohddaaaGreatDoorTie.lean); close each card by the builder's one call (the guide's Derived/Test/ToyasCard.lean, 'card_holds'). Laid BY PROGRAM, IN A SANDBOX (cutbox-door.mjs). By AI agents, Wed Nov 11 2026. No macro, syntax, notation, axiom, sorry.
-/
import Derived.Test.YtefhaojjohddaaaGreatDoorRows
import GoSem.ClaimSeven
namespace Go.Proofs.YtefhaojjohddaaaGreatDoor
namespace Rows

/-- THE TIED CARD OF 'juntolaw10.CheckTypes'. -/
def checkTypesCard : Claim7 := { stood := { row := checkTypesRow, standIns := [], harness := (true, "0156f14c0dc15db6296d7a58e9abe46c8e32931e183022a01e7069d4872d65f3"), looks := true }, kinds := [], alts := [], laidByText := true, laidKinds := [.listed, .data], laidTests := true, laidLooks := .later }
def CheckTypesCardSaid : Prop := Claim7.holds Tryz.pinned (.plain (OpenSpec.ofChange checkTypesSpec)) checkTypesCard

/-- THE TIED CARD OF 'juntolaw10.CheckSigns'. -/
def checkSignsCard : Claim7 := { stood := { row := checkSignsRow, standIns := [], harness := (true, "0156f14c0dc15db6296d7a58e9abe46c8e32931e183022a01e7069d4872d65f3"), looks := true }, kinds := [], alts := [], laidByText := true, laidKinds := [.listed, .data], laidTests := true, laidLooks := .later }
def CheckSignsCardSaid : Prop := Claim7.holds Tryz.pinned (.plain (OpenSpec.ofChange checkSignsSpec)) checkSignsCard

/-- THE TIED CARD OF 'juntolaw10.CheckLists'. -/
def checkListsCard : Claim7 := { stood := { row := checkListsRow, standIns := [], harness := (true, "0156f14c0dc15db6296d7a58e9abe46c8e32931e183022a01e7069d4872d65f3"), looks := true }, kinds := [], alts := [], laidByText := true, laidKinds := [.listed, .data], laidTests := true, laidLooks := .later }
def CheckListsCardSaid : Prop := Claim7.holds Tryz.pinned (.plain (OpenSpec.ofChange checkListsSpec)) checkListsCard

/-- THE TIED CARD OF 'juntolaw10.CheckCalls'. -/
def checkCallsCard : Claim7 := { stood := { row := checkCallsRow, standIns := [], harness := (true, "0156f14c0dc15db6296d7a58e9abe46c8e32931e183022a01e7069d4872d65f3"), looks := true }, kinds := [], alts := [], laidByText := true, laidKinds := [.listed, .data], laidTests := true, laidLooks := .later }
def CheckCallsCardSaid : Prop := Claim7.holds Tryz.pinned (.plain (OpenSpec.ofChange checkCallsSpec)) checkCallsCard

/-- THE TIED CARD OF 'juntolaw10.CheckPrograms'. -/
def checkProgramsCard : Claim7 := { stood := { row := checkProgramsRow, standIns := [], harness := (true, "0156f14c0dc15db6296d7a58e9abe46c8e32931e183022a01e7069d4872d65f3"), looks := true }, kinds := [], alts := [], laidByText := true, laidKinds := [.listed, .data], laidTests := true, laidLooks := .later }
def CheckProgramsCardSaid : Prop := Claim7.holds Tryz.pinned (.plain (OpenSpec.ofChange checkProgramsSpec)) checkProgramsCard

/-- THE TIED CARD OF 'juntolaw10.CheckNames'. -/
def checkNamesCard : Claim7 := { stood := { row := checkNamesRow, standIns := [], harness := (true, "0156f14c0dc15db6296d7a58e9abe46c8e32931e183022a01e7069d4872d65f3"), looks := true }, kinds := [], alts := [], laidByText := true, laidKinds := [.listed, .data], laidTests := true, laidLooks := .later }
def CheckNamesCardSaid : Prop := Claim7.holds Tryz.pinned (.plain (OpenSpec.ofChange checkNamesSpec)) checkNamesCard

/-- THE TIED CARD OF 'juntolaw10.CheckSecrets'. -/
def checkSecretsCard : Claim7 := { stood := { row := checkSecretsRow, standIns := [], harness := (true, "0156f14c0dc15db6296d7a58e9abe46c8e32931e183022a01e7069d4872d65f3"), looks := true }, kinds := [], alts := [], laidByText := true, laidKinds := [.listed, .data], laidTests := true, laidLooks := .later }
def CheckSecretsCardSaid : Prop := Claim7.holds Tryz.pinned (.plain (OpenSpec.ofChange checkSecretsSpec)) checkSecretsCard

/-- THE SECOND FORM's CARD OF 'juntolaw10.CheckTypes'. -/
def checkTypesUptoCard : Claim7 := { stood := { row := checkTypesUptoRow, standIns := [], harness := (true, "0156f14c0dc15db6296d7a58e9abe46c8e32931e183022a01e7069d4872d65f3"), looks := true }, kinds := [], alts := [], laidByText := true, laidKinds := [.listed, .data], laidTests := true, laidLooks := .later }
def CheckTypesUptoCardSaid : Prop := Claim7.holds Tryz.pinned (.plain (OpenSpec.upto checkTypesSpec)) checkTypesUptoCard

/-- THE SECOND FORM's CARD OF 'juntolaw10.CheckSigns'. -/
def checkSignsUptoCard : Claim7 := { stood := { row := checkSignsUptoRow, standIns := [], harness := (true, "0156f14c0dc15db6296d7a58e9abe46c8e32931e183022a01e7069d4872d65f3"), looks := true }, kinds := [], alts := [], laidByText := true, laidKinds := [.listed, .data], laidTests := true, laidLooks := .later }
def CheckSignsUptoCardSaid : Prop := Claim7.holds Tryz.pinned (.plain (OpenSpec.upto checkSignsSpec)) checkSignsUptoCard

/-- THE SECOND FORM's CARD OF 'juntolaw10.CheckLists'. -/
def checkListsUptoCard : Claim7 := { stood := { row := checkListsUptoRow, standIns := [], harness := (true, "0156f14c0dc15db6296d7a58e9abe46c8e32931e183022a01e7069d4872d65f3"), looks := true }, kinds := [], alts := [], laidByText := true, laidKinds := [.listed, .data], laidTests := true, laidLooks := .later }
def CheckListsUptoCardSaid : Prop := Claim7.holds Tryz.pinned (.plain (OpenSpec.upto checkListsSpec)) checkListsUptoCard

/-- THE SECOND FORM's CARD OF 'juntolaw10.CheckCalls'. -/
def checkCallsUptoCard : Claim7 := { stood := { row := checkCallsUptoRow, standIns := [], harness := (true, "0156f14c0dc15db6296d7a58e9abe46c8e32931e183022a01e7069d4872d65f3"), looks := true }, kinds := [], alts := [], laidByText := true, laidKinds := [.listed, .data], laidTests := true, laidLooks := .later }
def CheckCallsUptoCardSaid : Prop := Claim7.holds Tryz.pinned (.plain (OpenSpec.upto checkCallsSpec)) checkCallsUptoCard

/-- THE SECOND FORM's CARD OF 'juntolaw10.CheckPrograms'. -/
def checkProgramsUptoCard : Claim7 := { stood := { row := checkProgramsUptoRow, standIns := [], harness := (true, "0156f14c0dc15db6296d7a58e9abe46c8e32931e183022a01e7069d4872d65f3"), looks := true }, kinds := [], alts := [], laidByText := true, laidKinds := [.listed, .data], laidTests := true, laidLooks := .later }
def CheckProgramsUptoCardSaid : Prop := Claim7.holds Tryz.pinned (.plain (OpenSpec.upto checkProgramsSpec)) checkProgramsUptoCard

/-- THE SECOND FORM's CARD OF 'juntolaw10.CheckNames'. -/
def checkNamesUptoCard : Claim7 := { stood := { row := checkNamesUptoRow, standIns := [], harness := (true, "0156f14c0dc15db6296d7a58e9abe46c8e32931e183022a01e7069d4872d65f3"), looks := true }, kinds := [], alts := [], laidByText := true, laidKinds := [.listed, .data], laidTests := true, laidLooks := .later }
def CheckNamesUptoCardSaid : Prop := Claim7.holds Tryz.pinned (.plain (OpenSpec.upto checkNamesSpec)) checkNamesUptoCard

/-- THE SECOND FORM's CARD OF 'juntolaw10.CheckSecrets'. -/
def checkSecretsUptoCard : Claim7 := { stood := { row := checkSecretsUptoRow, standIns := [], harness := (true, "0156f14c0dc15db6296d7a58e9abe46c8e32931e183022a01e7069d4872d65f3"), looks := true }, kinds := [], alts := [], laidByText := true, laidKinds := [.listed, .data], laidTests := true, laidLooks := .later }
def CheckSecretsUptoCardSaid : Prop := Claim7.holds Tryz.pinned (.plain (OpenSpec.upto checkSecretsSpec)) checkSecretsUptoCard
end Rows
end Go.Proofs.YtefhaojjohddaaaGreatDoor
