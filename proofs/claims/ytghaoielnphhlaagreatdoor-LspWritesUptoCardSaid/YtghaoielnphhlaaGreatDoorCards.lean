/-
  DERIVED. GIVEN WITH THE SEED: THE CARDS: each row of YtghaoielnphhlaaGreatDoorRows.lean that lists a variable, with what it lists TIED to the program's text (the seventh form; the later family's looks); each row that meets fmt, with fmt's text TOLD by the authors' own Lean function (tested against real Go, not proved from fmt's source: count such statements apart). THE CARD IS WHAT COUNTS. Prove the row's statement (the work); the ties are given (YtghaoielnphhlaaGreatDoorTie.lean); close each card by the builder's one call (the guide's Derived/Test/ToyasCard.lean, 'card_holds'). Laid BY PROGRAM, IN A SANDBOX (cutbox-door.mjs). By AI agents, Wed Nov 11 2026. No macro, syntax, notation, axiom, sorry.
-/
import Derived.Test.YtghaoielnphhlaaGreatDoorRows
import GoSem.ClaimSeven
namespace Go.Proofs.YtghaoielnphhlaaGreatDoor
namespace Rows

/-- THE TIED CARD OF 'rostrumlaw08.LspMore'. -/
def lspMoreCard : Claim7 := { stood := { row := lspMoreRow, standIns := [], harness := (true, "ac4c7be3d97ac9d77bcf2e54849f08bec5a2fd5c4127267857627b167e6550c3"), looks := true }, kinds := [], alts := [], laidByText := true, laidKinds := [.data, .data, .data, .data, .sentinel, .sentinel, .pinned], laidTests := true, laidLooks := .later }
def LspMoreCardSaid : Prop := Claim7.holds Tryz.pinned (.plain (OpenSpec.ofChange lspMoreSpec)) lspMoreCard

/-- THE TIED CARD OF 'rostrumlaw08.LspWrites'. -/
def lspWritesCard : Claim7 := { stood := { row := lspWritesRow, standIns := [], harness := (true, "ac4c7be3d97ac9d77bcf2e54849f08bec5a2fd5c4127267857627b167e6550c3"), looks := true }, kinds := [], alts := [], laidByText := true, laidKinds := [.data, .data, .data, .data, .sentinel, .sentinel, .pinned], laidTests := true, laidLooks := .later }
def LspWritesCardSaid : Prop := Claim7.holds Tryz.pinned (.plain (OpenSpec.ofChange lspWritesSpec)) lspWritesCard

/-- THE TIED CARD OF 'rostrumlaw05.JsonNames'. -/
def jsonNamesCard : Claim7 := { stood := { row := jsonNamesRow, standIns := [], harness := (true, "ac4c7be3d97ac9d77bcf2e54849f08bec5a2fd5c4127267857627b167e6550c3"), looks := true }, kinds := [], alts := [], laidByText := true, laidKinds := [.data, .data, .data, .data, .sentinel, .sentinel, .pinned, .pinned], laidTests := true, laidLooks := .later }
def JsonNamesCardSaid : Prop := Claim7.holds Tryz.pinned (.plain (OpenSpec.ofChange jsonNamesSpec)) jsonNamesCard

/-- THE SECOND FORM's CARD OF 'rostrumlaw08.LspMore'. -/
def lspMoreUptoCard : Claim7 := { stood := { row := lspMoreUptoRow, standIns := [], harness := (true, "ac4c7be3d97ac9d77bcf2e54849f08bec5a2fd5c4127267857627b167e6550c3"), looks := true }, kinds := [], alts := [], laidByText := true, laidKinds := [.data, .data, .data, .data, .sentinel, .sentinel, .pinned], laidTests := true, laidLooks := .later }
def LspMoreUptoCardSaid : Prop := Claim7.holds Tryz.pinned (.plain (OpenSpec.upto lspMoreSpec)) lspMoreUptoCard

/-- THE SECOND FORM's CARD OF 'rostrumlaw08.LspWrites'. -/
def lspWritesUptoCard : Claim7 := { stood := { row := lspWritesUptoRow, standIns := [], harness := (true, "ac4c7be3d97ac9d77bcf2e54849f08bec5a2fd5c4127267857627b167e6550c3"), looks := true }, kinds := [], alts := [], laidByText := true, laidKinds := [.data, .data, .data, .data, .sentinel, .sentinel, .pinned], laidTests := true, laidLooks := .later }
def LspWritesUptoCardSaid : Prop := Claim7.holds Tryz.pinned (.plain (OpenSpec.upto lspWritesSpec)) lspWritesUptoCard

/-- THE SECOND FORM's CARD OF 'rostrumlaw05.JsonNames'. -/
def jsonNamesUptoCard : Claim7 := { stood := { row := jsonNamesUptoRow, standIns := [], harness := (true, "ac4c7be3d97ac9d77bcf2e54849f08bec5a2fd5c4127267857627b167e6550c3"), looks := true }, kinds := [], alts := [], laidByText := true, laidKinds := [.data, .data, .data, .data, .sentinel, .sentinel, .pinned, .pinned], laidTests := true, laidLooks := .later }
def JsonNamesUptoCardSaid : Prop := Claim7.holds Tryz.pinned (.plain (OpenSpec.upto jsonNamesSpec)) jsonNamesUptoCard
end Rows
end Go.Proofs.YtghaoielnphhlaaGreatDoor
