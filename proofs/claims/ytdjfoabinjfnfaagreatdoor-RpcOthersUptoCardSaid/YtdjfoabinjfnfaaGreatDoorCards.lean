/-
  DERIVED. GIVEN WITH THE SEED: THE CARDS: each row of YtdjfoabinjfnfaaGreatDoorRows.lean that lists a variable, with what it lists TIED to the program's text (the seventh form; the later family's looks); each row that meets fmt, with fmt's text TOLD by the authors' own Lean function (tested against real Go, not proved from fmt's source: count such statements apart). THE CARD IS WHAT COUNTS. Prove the row's statement (the work); the ties are given (YtdjfoabinjfnfaaGreatDoorTie.lean); close each card by the builder's one call (the guide's Derived/Test/ToyasCard.lean, 'card_holds'). Laid BY PROGRAM, IN A SANDBOX (cutbox-door.mjs). By AI agents, Wed Nov 11 2026. No macro, syntax, notation, axiom, sorry.
-/
import Derived.Test.YtdjfoabinjfnfaaGreatDoorRows
import GoSem.ClaimSeven
namespace Go.Proofs.YtdjfoabinjfnfaaGreatDoor
namespace Rows

/-- THE TIED CARD OF 'rostrumlaw08.LspMore'. -/
def lspMoreCard : Claim7 := { stood := { row := lspMoreRow, standIns := [], harness := (true, "0dc70ec05f4dccf4a6f1ecca859d61034d22e0897e243a8b2652c9e1c62ef9d8"), looks := true }, kinds := [], alts := [], laidByText := true, laidKinds := [.data, .data, .data, .data, .sentinel, .sentinel, .pinned], laidTests := true, laidLooks := .later }
def LspMoreCardSaid : Prop := Claim7.holds Tryz.pinned (.plain (OpenSpec.ofChange lspMoreSpec)) lspMoreCard

/-- THE TIED CARD OF 'rostrumlaw08.LspWrites'. -/
def lspWritesCard : Claim7 := { stood := { row := lspWritesRow, standIns := [], harness := (true, "0dc70ec05f4dccf4a6f1ecca859d61034d22e0897e243a8b2652c9e1c62ef9d8"), looks := true }, kinds := [], alts := [], laidByText := true, laidKinds := [.data, .data, .data, .data, .sentinel, .sentinel, .pinned], laidTests := true, laidLooks := .later }
def LspWritesCardSaid : Prop := Claim7.holds Tryz.pinned (.plain (OpenSpec.ofChange lspWritesSpec)) lspWritesCard

/-- THE TIED CARD OF 'rostrumlaw05.JsonNames'. -/
def jsonNamesCard : Claim7 := { stood := { row := jsonNamesRow, standIns := [], harness := (true, "0dc70ec05f4dccf4a6f1ecca859d61034d22e0897e243a8b2652c9e1c62ef9d8"), looks := true }, kinds := [], alts := [], laidByText := true, laidKinds := [.data, .data, .data, .data, .sentinel, .sentinel, .pinned, .pinned], laidTests := true, laidLooks := .later }
def JsonNamesCardSaid : Prop := Claim7.holds Tryz.pinned (.plain (OpenSpec.ofChange jsonNamesSpec)) jsonNamesCard

/-- THE TIED CARD OF 'rostrumlaw07.RpcBack'. -/
def rpcBackCard : Claim7 := { stood := { row := rpcBackRow, standIns := [], harness := (true, "0dc70ec05f4dccf4a6f1ecca859d61034d22e0897e243a8b2652c9e1c62ef9d8"), looks := true }, kinds := [], alts := [], laidByText := true, laidKinds := [.data, .data, .data, .data, .sentinel, .sentinel, .pinned, .pinned], laidTests := true, laidLooks := .later }
def RpcBackCardSaid : Prop := Claim7.holds Tryz.pinned (.plain (OpenSpec.ofChange rpcBackSpec)) rpcBackCard

/-- THE TIED CARD OF 'rostrumlaw07.RpcOthers'. -/
def rpcOthersCard : Claim7 := { stood := { row := rpcOthersRow, standIns := [], harness := (true, "0dc70ec05f4dccf4a6f1ecca859d61034d22e0897e243a8b2652c9e1c62ef9d8"), looks := true }, kinds := [], alts := [], laidByText := true, laidKinds := [.data, .data, .data, .data, .sentinel, .sentinel, .pinned, .pinned], laidTests := true, laidLooks := .later }
def RpcOthersCardSaid : Prop := Claim7.holds Tryz.pinned (.plain (OpenSpec.ofChange rpcOthersSpec)) rpcOthersCard

/-- THE SECOND FORM's CARD OF 'rostrumlaw08.LspMore'. -/
def lspMoreUptoCard : Claim7 := { stood := { row := lspMoreUptoRow, standIns := [], harness := (true, "0dc70ec05f4dccf4a6f1ecca859d61034d22e0897e243a8b2652c9e1c62ef9d8"), looks := true }, kinds := [], alts := [], laidByText := true, laidKinds := [.data, .data, .data, .data, .sentinel, .sentinel, .pinned], laidTests := true, laidLooks := .later }
def LspMoreUptoCardSaid : Prop := Claim7.holds Tryz.pinned (.plain (OpenSpec.upto lspMoreSpec)) lspMoreUptoCard

/-- THE SECOND FORM's CARD OF 'rostrumlaw08.LspWrites'. -/
def lspWritesUptoCard : Claim7 := { stood := { row := lspWritesUptoRow, standIns := [], harness := (true, "0dc70ec05f4dccf4a6f1ecca859d61034d22e0897e243a8b2652c9e1c62ef9d8"), looks := true }, kinds := [], alts := [], laidByText := true, laidKinds := [.data, .data, .data, .data, .sentinel, .sentinel, .pinned], laidTests := true, laidLooks := .later }
def LspWritesUptoCardSaid : Prop := Claim7.holds Tryz.pinned (.plain (OpenSpec.upto lspWritesSpec)) lspWritesUptoCard

/-- THE SECOND FORM's CARD OF 'rostrumlaw05.JsonNames'. -/
def jsonNamesUptoCard : Claim7 := { stood := { row := jsonNamesUptoRow, standIns := [], harness := (true, "0dc70ec05f4dccf4a6f1ecca859d61034d22e0897e243a8b2652c9e1c62ef9d8"), looks := true }, kinds := [], alts := [], laidByText := true, laidKinds := [.data, .data, .data, .data, .sentinel, .sentinel, .pinned, .pinned], laidTests := true, laidLooks := .later }
def JsonNamesUptoCardSaid : Prop := Claim7.holds Tryz.pinned (.plain (OpenSpec.upto jsonNamesSpec)) jsonNamesUptoCard

/-- THE SECOND FORM's CARD OF 'rostrumlaw07.RpcBack'. -/
def rpcBackUptoCard : Claim7 := { stood := { row := rpcBackUptoRow, standIns := [], harness := (true, "0dc70ec05f4dccf4a6f1ecca859d61034d22e0897e243a8b2652c9e1c62ef9d8"), looks := true }, kinds := [], alts := [], laidByText := true, laidKinds := [.data, .data, .data, .data, .sentinel, .sentinel, .pinned, .pinned], laidTests := true, laidLooks := .later }
def RpcBackUptoCardSaid : Prop := Claim7.holds Tryz.pinned (.plain (OpenSpec.upto rpcBackSpec)) rpcBackUptoCard

/-- THE SECOND FORM's CARD OF 'rostrumlaw07.RpcOthers'. -/
def rpcOthersUptoCard : Claim7 := { stood := { row := rpcOthersUptoRow, standIns := [], harness := (true, "0dc70ec05f4dccf4a6f1ecca859d61034d22e0897e243a8b2652c9e1c62ef9d8"), looks := true }, kinds := [], alts := [], laidByText := true, laidKinds := [.data, .data, .data, .data, .sentinel, .sentinel, .pinned, .pinned], laidTests := true, laidLooks := .later }
def RpcOthersUptoCardSaid : Prop := Claim7.holds Tryz.pinned (.plain (OpenSpec.upto rpcOthersSpec)) rpcOthersUptoCard
end Rows
end Go.Proofs.YtdjfoabinjfnfaaGreatDoor
