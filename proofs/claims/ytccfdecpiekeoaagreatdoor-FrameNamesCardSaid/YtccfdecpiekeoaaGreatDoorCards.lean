/-
  DERIVED. GIVEN WITH THE SEED: THE CARDS: each row of YtccfdecpiekeoaaGreatDoorRows.lean that lists a variable, with what it lists TIED to the program's text (the seventh form; the later family's looks); each row that meets fmt, with fmt's text TOLD by the authors' own Lean function (tested against real Go, not proved from fmt's source: count such statements apart). THE CARD IS WHAT COUNTS. Prove the row's statement (the work); the ties are given (YtccfdecpiekeoaaGreatDoorTie.lean); close each card by the builder's one call (the guide's Derived/Test/ToyasCard.lean, 'card_holds'). Laid BY PROGRAM, IN A SANDBOX (cutbox-door.mjs). By AI agents, Wed Nov 11 2026. No macro, syntax, notation, axiom, sorry.
-/
import Derived.Test.YtccfdecpiekeoaaGreatDoorRows
import GoSem.ClaimSeven
namespace Go.Proofs.YtccfdecpiekeoaaGreatDoor
namespace Rows

/-- THE TIED CARD OF 'rostrumlaw06.FrameWrites'. -/
def frameWritesCard : Claim7 := { stood := { row := frameWritesRow, standIns := [], harness := (true, "6cb505340749bdd5f8208cea0d92a8a38d0a9e577f3e51c6d7ba90f0c6120fa2"), looks := true }, kinds := [], alts := [], laidByText := true, laidKinds := [.data, .data, .data, .data, .sentinel, .sentinel, .data, .data, .pinned, .pinned], laidTests := true, laidLooks := .later }
def FrameWritesCardSaid : Prop := Claim7.holds Tryz.pinned (.plain (OpenSpec.ofChange frameWritesSpec)) frameWritesCard

/-- THE TIED CARD OF 'rostrumlaw06.FrameChunks'. -/
def frameChunksCard : Claim7 := { stood := { row := frameChunksRow, standIns := [], harness := (true, "6cb505340749bdd5f8208cea0d92a8a38d0a9e577f3e51c6d7ba90f0c6120fa2"), looks := true }, kinds := [], alts := [], laidByText := true, laidKinds := [.data, .data, .data, .data, .sentinel, .sentinel, .data, .data, .pinned, .pinned], laidTests := true, laidLooks := .later }
def FrameChunksCardSaid : Prop := Claim7.holds Tryz.pinned (.plain (OpenSpec.ofChange frameChunksSpec)) frameChunksCard

/-- THE TIED CARD OF 'rostrumlaw06.FrameBack'. -/
def frameBackCard : Claim7 := { stood := { row := frameBackRow, standIns := [], harness := (true, "6cb505340749bdd5f8208cea0d92a8a38d0a9e577f3e51c6d7ba90f0c6120fa2"), looks := true }, kinds := [], alts := [], laidByText := true, laidKinds := [.data, .data, .data, .data, .sentinel, .sentinel, .data, .data, .pinned, .pinned], laidTests := true, laidLooks := .later }
def FrameBackCardSaid : Prop := Claim7.holds Tryz.pinned (.plain (OpenSpec.ofChange frameBackSpec)) frameBackCard

/-- THE TIED CARD OF 'rostrumlaw06.FrameAgain'. -/
def frameAgainCard : Claim7 := { stood := { row := frameAgainRow, standIns := [], harness := (true, "6cb505340749bdd5f8208cea0d92a8a38d0a9e577f3e51c6d7ba90f0c6120fa2"), looks := true }, kinds := [], alts := [], laidByText := true, laidKinds := [.data, .data, .data, .data, .sentinel, .sentinel, .data, .data, .pinned, .pinned], laidTests := true, laidLooks := .later }
def FrameAgainCardSaid : Prop := Claim7.holds Tryz.pinned (.plain (OpenSpec.ofChange frameAgainSpec)) frameAgainCard

/-- THE TIED CARD OF 'rostrumlaw06.FrameFeeds'. -/
def frameFeedsCard : Claim7 := { stood := { row := frameFeedsRow, standIns := [], harness := (true, "6cb505340749bdd5f8208cea0d92a8a38d0a9e577f3e51c6d7ba90f0c6120fa2"), looks := true }, kinds := [], alts := [], laidByText := true, laidKinds := [.data, .data, .data, .data, .sentinel, .sentinel, .data, .data, .pinned, .pinned], laidTests := true, laidLooks := .later }
def FrameFeedsCardSaid : Prop := Claim7.holds Tryz.pinned (.plain (OpenSpec.ofChange frameFeedsSpec)) frameFeedsCard

/-- THE TIED CARD OF 'rostrumlaw06.FrameNames'. -/
def frameNamesCard : Claim7 := { stood := { row := frameNamesRow, standIns := [], harness := (true, "6cb505340749bdd5f8208cea0d92a8a38d0a9e577f3e51c6d7ba90f0c6120fa2"), looks := true }, kinds := [], alts := [], laidByText := true, laidKinds := [.data, .data, .data, .data, .sentinel, .sentinel, .data, .data, .pinned, .pinned], laidTests := true, laidLooks := .later }
def FrameNamesCardSaid : Prop := Claim7.holds Tryz.pinned (.plain (OpenSpec.ofChange frameNamesSpec)) frameNamesCard

/-- THE SECOND FORM's CARD OF 'rostrumlaw06.FrameWrites'. -/
def frameWritesUptoCard : Claim7 := { stood := { row := frameWritesUptoRow, standIns := [], harness := (true, "6cb505340749bdd5f8208cea0d92a8a38d0a9e577f3e51c6d7ba90f0c6120fa2"), looks := true }, kinds := [], alts := [], laidByText := true, laidKinds := [.data, .data, .data, .data, .sentinel, .sentinel, .data, .data, .pinned, .pinned], laidTests := true, laidLooks := .later }
def FrameWritesUptoCardSaid : Prop := Claim7.holds Tryz.pinned (.plain (OpenSpec.upto frameWritesSpec)) frameWritesUptoCard

/-- THE SECOND FORM's CARD OF 'rostrumlaw06.FrameChunks'. -/
def frameChunksUptoCard : Claim7 := { stood := { row := frameChunksUptoRow, standIns := [], harness := (true, "6cb505340749bdd5f8208cea0d92a8a38d0a9e577f3e51c6d7ba90f0c6120fa2"), looks := true }, kinds := [], alts := [], laidByText := true, laidKinds := [.data, .data, .data, .data, .sentinel, .sentinel, .data, .data, .pinned, .pinned], laidTests := true, laidLooks := .later }
def FrameChunksUptoCardSaid : Prop := Claim7.holds Tryz.pinned (.plain (OpenSpec.upto frameChunksSpec)) frameChunksUptoCard

/-- THE SECOND FORM's CARD OF 'rostrumlaw06.FrameBack'. -/
def frameBackUptoCard : Claim7 := { stood := { row := frameBackUptoRow, standIns := [], harness := (true, "6cb505340749bdd5f8208cea0d92a8a38d0a9e577f3e51c6d7ba90f0c6120fa2"), looks := true }, kinds := [], alts := [], laidByText := true, laidKinds := [.data, .data, .data, .data, .sentinel, .sentinel, .data, .data, .pinned, .pinned], laidTests := true, laidLooks := .later }
def FrameBackUptoCardSaid : Prop := Claim7.holds Tryz.pinned (.plain (OpenSpec.upto frameBackSpec)) frameBackUptoCard

/-- THE SECOND FORM's CARD OF 'rostrumlaw06.FrameAgain'. -/
def frameAgainUptoCard : Claim7 := { stood := { row := frameAgainUptoRow, standIns := [], harness := (true, "6cb505340749bdd5f8208cea0d92a8a38d0a9e577f3e51c6d7ba90f0c6120fa2"), looks := true }, kinds := [], alts := [], laidByText := true, laidKinds := [.data, .data, .data, .data, .sentinel, .sentinel, .data, .data, .pinned, .pinned], laidTests := true, laidLooks := .later }
def FrameAgainUptoCardSaid : Prop := Claim7.holds Tryz.pinned (.plain (OpenSpec.upto frameAgainSpec)) frameAgainUptoCard

/-- THE SECOND FORM's CARD OF 'rostrumlaw06.FrameFeeds'. -/
def frameFeedsUptoCard : Claim7 := { stood := { row := frameFeedsUptoRow, standIns := [], harness := (true, "6cb505340749bdd5f8208cea0d92a8a38d0a9e577f3e51c6d7ba90f0c6120fa2"), looks := true }, kinds := [], alts := [], laidByText := true, laidKinds := [.data, .data, .data, .data, .sentinel, .sentinel, .data, .data, .pinned, .pinned], laidTests := true, laidLooks := .later }
def FrameFeedsUptoCardSaid : Prop := Claim7.holds Tryz.pinned (.plain (OpenSpec.upto frameFeedsSpec)) frameFeedsUptoCard

/-- THE SECOND FORM's CARD OF 'rostrumlaw06.FrameNames'. -/
def frameNamesUptoCard : Claim7 := { stood := { row := frameNamesUptoRow, standIns := [], harness := (true, "6cb505340749bdd5f8208cea0d92a8a38d0a9e577f3e51c6d7ba90f0c6120fa2"), looks := true }, kinds := [], alts := [], laidByText := true, laidKinds := [.data, .data, .data, .data, .sentinel, .sentinel, .data, .data, .pinned, .pinned], laidTests := true, laidLooks := .later }
def FrameNamesUptoCardSaid : Prop := Claim7.holds Tryz.pinned (.plain (OpenSpec.upto frameNamesSpec)) frameNamesUptoCard
end Rows
end Go.Proofs.YtccfdecpiekeoaaGreatDoor
