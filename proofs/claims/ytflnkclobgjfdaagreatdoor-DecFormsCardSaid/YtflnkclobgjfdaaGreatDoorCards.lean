/-
  DERIVED. GIVEN WITH THE SEED: THE CARDS: each row of YtflnkclobgjfdaaGreatDoorRows.lean that lists a variable, with what it lists TIED to the program's text (the seventh form; the later family's looks); each row that meets fmt, with fmt's text TOLD by the authors' own Lean function (tested against real Go, not proved from fmt's source: count such statements apart). THE CARD IS WHAT COUNTS. Prove the row's statement (the work); the ties are given (YtflnkclobgjfdaaGreatDoorTie.lean); close each card by the builder's one call (the guide's Derived/Test/ToyasCard.lean, 'card_holds'). Laid BY PROGRAM, IN A SANDBOX (cutbox-door.mjs). By AI agents, Wed Nov 11 2026. No macro, syntax, notation, axiom, sorry.
-/
import Derived.Test.YtflnkclobgjfdaaGreatDoorRows
import GoSem.ClaimSeven
namespace Go.Proofs.YtflnkclobgjfdaaGreatDoor
namespace Rows

/-- THE TIED CARD OF 'rostrumlaw04.DecForms'. -/
def decFormsCard : Claim7 := { stood := { row := decFormsRow, standIns := [], harness := (true, "7fe06548fbe383ced06415823836f8cd0a98acca87bc0eda224b5852ee957cfd"), looks := true }, kinds := [], alts := [], laidByText := true, laidKinds := [.data, .data, .data, .data, .sentinel, .sentinel, .pinned], laidTests := true, laidLooks := .later }
def DecFormsCardSaid : Prop := Claim7.holds Tryz.pinned (.plain (OpenSpec.ofChange decFormsSpec)) decFormsCard

/-- THE SECOND FORM's CARD OF 'rostrumlaw04.DecForms'. -/
def decFormsUptoCard : Claim7 := { stood := { row := decFormsUptoRow, standIns := [], harness := (true, "7fe06548fbe383ced06415823836f8cd0a98acca87bc0eda224b5852ee957cfd"), looks := true }, kinds := [], alts := [], laidByText := true, laidKinds := [.data, .data, .data, .data, .sentinel, .sentinel, .pinned], laidTests := true, laidLooks := .later }
def DecFormsUptoCardSaid : Prop := Claim7.holds Tryz.pinned (.plain (OpenSpec.upto decFormsSpec)) decFormsUptoCard
end Rows
end Go.Proofs.YtflnkclobgjfdaaGreatDoor
