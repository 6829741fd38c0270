/-
  DERIVED. GIVEN WITH THE SEED: THE CARDS: each row of YtlnkjacbdolhnaaGreatDoorRows.lean that lists a variable, with what it lists TIED to the program's text (the seventh form; the later family's looks); each row that meets fmt, with fmt's text TOLD by the authors' own Lean function (tested against real Go, not proved from fmt's source: count such statements apart). THE CARD IS WHAT COUNTS. Prove the row's statement (the work); the ties are given (YtlnkjacbdolhnaaGreatDoorTie.lean); close each card by the builder's one call (the guide's Derived/Test/ToyasCard.lean, 'card_holds'). Laid BY PROGRAM, IN A SANDBOX (cutbox-door.mjs). By AI agents, Wed Nov 11 2026. No macro, syntax, notation, axiom, sorry.
-/
import Derived.Test.YtlnkjacbdolhnaaGreatDoorRows
import GoSem.ClaimSeven
namespace Go.Proofs.YtlnkjacbdolhnaaGreatDoor
namespace Rows

/-- THE TIED CARD OF 'rostrumlaw08.LspMore'. -/
def lspMoreCard : Claim7 := { stood := { row := lspMoreRow, standIns := [], harness := (true, "596c6938a43ecc6921bcf4e0e15baf4a92d70dcaff617caab4f673f16bf43b82"), looks := true }, kinds := [], alts := [], laidByText := true, laidKinds := [.data, .data, .data, .data, .sentinel, .sentinel, .pinned], laidTests := true, laidLooks := .later }
def LspMoreCardSaid : Prop := Claim7.holds Tryz.pinned (.plain (OpenSpec.ofChange lspMoreSpec)) lspMoreCard

/-- THE TIED CARD OF 'rostrumlaw05.JsonNames'. -/
def jsonNamesCard : Claim7 := { stood := { row := jsonNamesRow, standIns := [], harness := (true, "596c6938a43ecc6921bcf4e0e15baf4a92d70dcaff617caab4f673f16bf43b82"), looks := true }, kinds := [], alts := [], laidByText := true, laidKinds := [.data, .data, .data, .data, .sentinel, .sentinel, .pinned, .pinned], laidTests := true, laidLooks := .later }
def JsonNamesCardSaid : Prop := Claim7.holds Tryz.pinned (.plain (OpenSpec.ofChange jsonNamesSpec)) jsonNamesCard

/-- THE TIED CARD OF 'rostrumlaw28.StateReads'. -/
def stateReadsCard : Claim7 := { stood := { row := stateReadsRow, standIns := [], harness := (true, "596c6938a43ecc6921bcf4e0e15baf4a92d70dcaff617caab4f673f16bf43b82"), looks := true }, kinds := [], alts := [], laidByText := true, laidKinds := [.data, .data, .data, .data, .sentinel, .sentinel, .pinned, .pinned], laidTests := true, laidLooks := .later }
def StateReadsCardSaid : Prop := Claim7.holds Tryz.pinned (.plain (OpenSpec.ofChange stateReadsSpec)) stateReadsCard

/-- THE SECOND FORM's CARD OF 'rostrumlaw08.LspMore'. -/
def lspMoreUptoCard : Claim7 := { stood := { row := lspMoreUptoRow, standIns := [], harness := (true, "596c6938a43ecc6921bcf4e0e15baf4a92d70dcaff617caab4f673f16bf43b82"), looks := true }, kinds := [], alts := [], laidByText := true, laidKinds := [.data, .data, .data, .data, .sentinel, .sentinel, .pinned], laidTests := true, laidLooks := .later }
def LspMoreUptoCardSaid : Prop := Claim7.holds Tryz.pinned (.plain (OpenSpec.upto lspMoreSpec)) lspMoreUptoCard

/-- THE SECOND FORM's CARD OF 'rostrumlaw05.JsonNames'. -/
def jsonNamesUptoCard : Claim7 := { stood := { row := jsonNamesUptoRow, standIns := [], harness := (true, "596c6938a43ecc6921bcf4e0e15baf4a92d70dcaff617caab4f673f16bf43b82"), looks := true }, kinds := [], alts := [], laidByText := true, laidKinds := [.data, .data, .data, .data, .sentinel, .sentinel, .pinned, .pinned], laidTests := true, laidLooks := .later }
def JsonNamesUptoCardSaid : Prop := Claim7.holds Tryz.pinned (.plain (OpenSpec.upto jsonNamesSpec)) jsonNamesUptoCard

/-- THE SECOND FORM's CARD OF 'rostrumlaw28.StateReads'. -/
def stateReadsUptoCard : Claim7 := { stood := { row := stateReadsUptoRow, standIns := [], harness := (true, "596c6938a43ecc6921bcf4e0e15baf4a92d70dcaff617caab4f673f16bf43b82"), looks := true }, kinds := [], alts := [], laidByText := true, laidKinds := [.data, .data, .data, .data, .sentinel, .sentinel, .pinned, .pinned], laidTests := true, laidLooks := .later }
def StateReadsUptoCardSaid : Prop := Claim7.holds Tryz.pinned (.plain (OpenSpec.upto stateReadsSpec)) stateReadsUptoCard
end Rows
end Go.Proofs.YtlnkjacbdolhnaaGreatDoor
