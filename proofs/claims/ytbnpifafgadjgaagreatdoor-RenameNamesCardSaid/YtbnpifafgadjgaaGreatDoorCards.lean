/-
  DERIVED. GIVEN WITH THE SEED: THE CARDS: each row of YtbnpifafgadjgaaGreatDoorRows.lean that lists a variable, with what it lists TIED to the program's text (the seventh form; the later family's looks); each row that meets fmt, with fmt's text TOLD by the authors' own Lean function (tested against real Go, not proved from fmt's source: count such statements apart). THE CARD IS WHAT COUNTS. Prove the row's statement (the work); the ties are given (YtbnpifafgadjgaaGreatDoorTie.lean); close each card by the builder's one call (the guide's Derived/Test/ToyasCard.lean, 'card_holds'). Laid BY PROGRAM, IN A SANDBOX (cutbox-door.mjs). By AI agents, Wed Nov 11 2026. No macro, syntax, notation, axiom, sorry.
-/
import Derived.Test.YtbnpifafgadjgaaGreatDoorRows
import GoSem.ClaimSeven
namespace Go.Proofs.YtbnpifafgadjgaaGreatDoor
namespace Rows

/-- THE TIED CARD OF 'rostrumlaw23.DefineNames'. -/
def defineNamesCard : Claim7 := { stood := { row := defineNamesRow, standIns := [], harness := (true, "3cb3e29d48c168794f7ff7d52335a4e7b384f14d21a1336e9579676705557272"), looks := true }, kinds := [], alts := [], laidByText := true, laidKinds := [.data, .data, .data, .data, .sentinel, .sentinel, .listed, .data, .pinned], laidTests := true, laidLooks := .later }
def DefineNamesCardSaid : Prop := Claim7.holds Tryz.pinned (.plain (OpenSpec.ofChange defineNamesSpec)) defineNamesCard

/-- THE TIED CARD OF 'rostrumlaw22.RenameNames'. -/
def renameNamesCard : Claim7 := { stood := { row := renameNamesRow, standIns := [], harness := (true, "3cb3e29d48c168794f7ff7d52335a4e7b384f14d21a1336e9579676705557272"), looks := true }, kinds := [], alts := [], laidByText := true, laidKinds := [.data, .data, .data, .data, .sentinel, .sentinel, .listed, .data, .pinned], laidTests := true, laidLooks := .later }
def RenameNamesCardSaid : Prop := Claim7.holds Tryz.pinned (.plain (OpenSpec.ofChange renameNamesSpec)) renameNamesCard

/-- THE SECOND FORM's CARD OF 'rostrumlaw23.DefineNames'. -/
def defineNamesUptoCard : Claim7 := { stood := { row := defineNamesUptoRow, standIns := [], harness := (true, "3cb3e29d48c168794f7ff7d52335a4e7b384f14d21a1336e9579676705557272"), looks := true }, kinds := [], alts := [], laidByText := true, laidKinds := [.data, .data, .data, .data, .sentinel, .sentinel, .listed, .data, .pinned], laidTests := true, laidLooks := .later }
def DefineNamesUptoCardSaid : Prop := Claim7.holds Tryz.pinned (.plain (OpenSpec.upto defineNamesSpec)) defineNamesUptoCard

/-- THE SECOND FORM's CARD OF 'rostrumlaw22.RenameNames'. -/
def renameNamesUptoCard : Claim7 := { stood := { row := renameNamesUptoRow, standIns := [], harness := (true, "3cb3e29d48c168794f7ff7d52335a4e7b384f14d21a1336e9579676705557272"), looks := true }, kinds := [], alts := [], laidByText := true, laidKinds := [.data, .data, .data, .data, .sentinel, .sentinel, .listed, .data, .pinned], laidTests := true, laidLooks := .later }
def RenameNamesUptoCardSaid : Prop := Claim7.holds Tryz.pinned (.plain (OpenSpec.upto renameNamesSpec)) renameNamesUptoCard
end Rows
end Go.Proofs.YtbnpifafgadjgaaGreatDoor
