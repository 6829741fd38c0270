/-
  DERIVED. GIVEN WITH THE SEED: THE CARDS: each row of YtambgppdjlhdaaaGreatDoorRows.lean that lists a variable, with what it lists TIED to the program's text (the seventh form; the later family's looks); each row that meets fmt, with fmt's text TOLD by the authors' own Lean function (tested against real Go, not proved from fmt's source: count such statements apart). THE CARD IS WHAT COUNTS. Prove the row's statement (the work); the ties are given (YtambgppdjlhdaaaGreatDoorTie.lean); close each card by the builder's one call (the guide's Derived/Test/ToyasCard.lean, 'card_holds'). Laid BY PROGRAM, IN A SANDBOX (cutbox-door.mjs). By AI agents, Wed Nov 11 2026. No macro, syntax, notation, axiom, sorry.
-/
import Derived.Test.YtambgppdjlhdaaaGreatDoorRows
import GoSem.ClaimSeven
namespace Go.Proofs.YtambgppdjlhdaaaGreatDoor
namespace Rows

/-- THE TIED CARD OF 'rostrumlaw17.InferNames'. -/
def inferNamesCard : Claim7 := { stood := { row := inferNamesRow, standIns := [], harness := (true, "af0791c6cde660ac78e148142de81f65121c0447498cdb3cdab2e65b6c0f5176"), looks := true }, kinds := [], alts := [], laidByText := true, laidKinds := [.data, .data, .data, .data, .sentinel, .sentinel, .listed, .data, .pinned], laidTests := true, laidLooks := .later }
def InferNamesCardSaid : Prop := Claim7.holds Tryz.pinned (.plain (OpenSpec.ofChange inferNamesSpec)) inferNamesCard

/-- THE TIED CARD OF 'rostrumlaw24.DiagNames'. -/
def diagNamesCard : Claim7 := { stood := { row := diagNamesRow, standIns := [], harness := (true, "af0791c6cde660ac78e148142de81f65121c0447498cdb3cdab2e65b6c0f5176"), looks := true }, kinds := [], alts := [], laidByText := true, laidKinds := [.data, .data, .data, .data, .sentinel, .sentinel, .listed, .data, .pinned], laidTests := true, laidLooks := .later }
def DiagNamesCardSaid : Prop := Claim7.holds Tryz.pinned (.plain (OpenSpec.ofChange diagNamesSpec)) diagNamesCard

/-- THE SECOND FORM's CARD OF 'rostrumlaw17.InferNames'. -/
def inferNamesUptoCard : Claim7 := { stood := { row := inferNamesUptoRow, standIns := [], harness := (true, "af0791c6cde660ac78e148142de81f65121c0447498cdb3cdab2e65b6c0f5176"), looks := true }, kinds := [], alts := [], laidByText := true, laidKinds := [.data, .data, .data, .data, .sentinel, .sentinel, .listed, .data, .pinned], laidTests := true, laidLooks := .later }
def InferNamesUptoCardSaid : Prop := Claim7.holds Tryz.pinned (.plain (OpenSpec.upto inferNamesSpec)) inferNamesUptoCard

/-- THE SECOND FORM's CARD OF 'rostrumlaw24.DiagNames'. -/
def diagNamesUptoCard : Claim7 := { stood := { row := diagNamesUptoRow, standIns := [], harness := (true, "af0791c6cde660ac78e148142de81f65121c0447498cdb3cdab2e65b6c0f5176"), looks := true }, kinds := [], alts := [], laidByText := true, laidKinds := [.data, .data, .data, .data, .sentinel, .sentinel, .listed, .data, .pinned], laidTests := true, laidLooks := .later }
def DiagNamesUptoCardSaid : Prop := Claim7.holds Tryz.pinned (.plain (OpenSpec.upto diagNamesSpec)) diagNamesUptoCard
end Rows
end Go.Proofs.YtambgppdjlhdaaaGreatDoor
