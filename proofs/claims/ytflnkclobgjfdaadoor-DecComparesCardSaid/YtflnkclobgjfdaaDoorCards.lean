/-
  DERIVED. GIVEN WITH THE SEED: THE CARDS: each row of YtflnkclobgjfdaaDoorRows.lean that lists a variable, with what it lists TIED to the program's text (the seventh form; the later family's looks); each row that meets fmt, with fmt's text TOLD by the authors' own Lean function (tested against real Go, not proved from fmt's source: count such statements apart). THE CARD IS WHAT COUNTS. Prove the row's statement (the work); the ties are given (YtflnkclobgjfdaaDoorTie.lean); close each card by the builder's one call (the guide's Derived/Test/ToyasCard.lean, 'card_holds'). Laid BY PROGRAM, IN A SANDBOX (cutbox-door.mjs). By AI agents, Wed Nov 11 2026. No macro, syntax, notation, axiom, sorry.
-/
import Derived.Test.YtflnkclobgjfdaaDoorRows
import GoSem.ClaimSeven
namespace Go.Proofs.YtflnkclobgjfdaaDoor
namespace Rows

/-- THE TIED CARD OF 'rostrumlaw04.DecCompares'. -/
def decComparesCard : Claim7 := { stood := { row := decComparesRow, standIns := [], harness := (true, "9d543b14246bd28b4559fd30707f156631811d17ebc41201c0a0557f91c15df2"), looks := true }, kinds := [], alts := [], laidByText := true, laidKinds := [.data, .data, .data, .data, .sentinel, .sentinel, .pinned], laidTests := true, laidLooks := .later }
def DecComparesCardSaid : Prop := Claim7.holds Tryd.pinned (.plain (OpenSpec.ofChange decComparesSpec)) decComparesCard

/-- THE TIED CARD OF 'rostrumlaw04.DecNames'. -/
def decNamesCard : Claim7 := { stood := { row := decNamesRow, standIns := [], harness := (true, "9d543b14246bd28b4559fd30707f156631811d17ebc41201c0a0557f91c15df2"), looks := true }, kinds := [], alts := [], laidByText := true, laidKinds := [.data, .data, .data, .data, .sentinel, .sentinel, .pinned], laidTests := true, laidLooks := .later }
def DecNamesCardSaid : Prop := Claim7.holds Tryd.pinned (.plain (OpenSpec.ofChange decNamesSpec)) decNamesCard

/-- THE TIED CARD OF 'rostrumlaw04.DecBack'. -/
def decBackCard : Claim7 := { stood := { row := decBackRow, standIns := [], harness := (true, "9d543b14246bd28b4559fd30707f156631811d17ebc41201c0a0557f91c15df2"), looks := true }, kinds := [], alts := [], laidByText := true, laidKinds := [.data, .data, .data, .data, .sentinel, .sentinel, .pinned], laidTests := true, laidLooks := .later }
def DecBackCardSaid : Prop := Claim7.holds Tryd.pinned (.plain (OpenSpec.ofChange decBackSpec)) decBackCard

/-- THE TIED CARD OF 'rostrumlaw04.DecOrder'. -/
def decOrderCard : Claim7 := { stood := { row := decOrderRow, standIns := [], harness := (true, "9d543b14246bd28b4559fd30707f156631811d17ebc41201c0a0557f91c15df2"), looks := true }, kinds := [], alts := [], laidByText := true, laidKinds := [.data, .data, .data, .data, .sentinel, .sentinel, .pinned], laidTests := true, laidLooks := .later }
def DecOrderCardSaid : Prop := Claim7.holds Tryd.pinned (.plain (OpenSpec.ofChange decOrderSpec)) decOrderCard

/-- THE TIED CARD OF 'rostrumlaw04.DecMoved'. -/
def decMovedCard : Claim7 := { stood := { row := decMovedRow, standIns := [], harness := (true, "9d543b14246bd28b4559fd30707f156631811d17ebc41201c0a0557f91c15df2"), looks := true }, kinds := [], alts := [], laidByText := true, laidKinds := [.data, .data, .data, .data, .sentinel, .sentinel, .pinned], laidTests := true, laidLooks := .later }
def DecMovedCardSaid : Prop := Claim7.holds Tryd.pinned (.plain (OpenSpec.ofChange decMovedSpec)) decMovedCard

/-- THE SECOND FORM's CARD OF 'rostrumlaw04.DecCompares'. -/
def decComparesUptoCard : Claim7 := { stood := { row := decComparesUptoRow, standIns := [], harness := (true, "9d543b14246bd28b4559fd30707f156631811d17ebc41201c0a0557f91c15df2"), looks := true }, kinds := [], alts := [], laidByText := true, laidKinds := [.data, .data, .data, .data, .sentinel, .sentinel, .pinned], laidTests := true, laidLooks := .later }
def DecComparesUptoCardSaid : Prop := Claim7.holds Tryd.pinned (.plain (OpenSpec.upto decComparesSpec)) decComparesUptoCard

/-- THE SECOND FORM's CARD OF 'rostrumlaw04.DecNames'. -/
def decNamesUptoCard : Claim7 := { stood := { row := decNamesUptoRow, standIns := [], harness := (true, "9d543b14246bd28b4559fd30707f156631811d17ebc41201c0a0557f91c15df2"), looks := true }, kinds := [], alts := [], laidByText := true, laidKinds := [.data, .data, .data, .data, .sentinel, .sentinel, .pinned], laidTests := true, laidLooks := .later }
def DecNamesUptoCardSaid : Prop := Claim7.holds Tryd.pinned (.plain (OpenSpec.upto decNamesSpec)) decNamesUptoCard

/-- THE SECOND FORM's CARD OF 'rostrumlaw04.DecBack'. -/
def decBackUptoCard : Claim7 := { stood := { row := decBackUptoRow, standIns := [], harness := (true, "9d543b14246bd28b4559fd30707f156631811d17ebc41201c0a0557f91c15df2"), looks := true }, kinds := [], alts := [], laidByText := true, laidKinds := [.data, .data, .data, .data, .sentinel, .sentinel, .pinned], laidTests := true, laidLooks := .later }
def DecBackUptoCardSaid : Prop := Claim7.holds Tryd.pinned (.plain (OpenSpec.upto decBackSpec)) decBackUptoCard

/-- THE SECOND FORM's CARD OF 'rostrumlaw04.DecOrder'. -/
def decOrderUptoCard : Claim7 := { stood := { row := decOrderUptoRow, standIns := [], harness := (true, "9d543b14246bd28b4559fd30707f156631811d17ebc41201c0a0557f91c15df2"), looks := true }, kinds := [], alts := [], laidByText := true, laidKinds := [.data, .data, .data, .data, .sentinel, .sentinel, .pinned], laidTests := true, laidLooks := .later }
def DecOrderUptoCardSaid : Prop := Claim7.holds Tryd.pinned (.plain (OpenSpec.upto decOrderSpec)) decOrderUptoCard

/-- THE SECOND FORM's CARD OF 'rostrumlaw04.DecMoved'. -/
def decMovedUptoCard : Claim7 := { stood := { row := decMovedUptoRow, standIns := [], harness := (true, "9d543b14246bd28b4559fd30707f156631811d17ebc41201c0a0557f91c15df2"), looks := true }, kinds := [], alts := [], laidByText := true, laidKinds := [.data, .data, .data, .data, .sentinel, .sentinel, .pinned], laidTests := true, laidLooks := .later }
def DecMovedUptoCardSaid : Prop := Claim7.holds Tryd.pinned (.plain (OpenSpec.upto decMovedSpec)) decMovedUptoCard
end Rows
end Go.Proofs.YtflnkclobgjfdaaDoor
