/-
  DERIVED. GIVEN WITH THE SEED: THE CARDS: each row of YtbegdpdldajolaaGreatDoorRows.lean that lists a variable, with what it lists TIED to the program's text (the seventh form; the later family's looks); each row that meets fmt, with fmt's text TOLD by the authors' own Lean function (tested against real Go, not proved from fmt's source: count such statements apart). THE CARD IS WHAT COUNTS. Prove the row's statement (the work); the ties are given (YtbegdpdldajolaaGreatDoorTie.lean); close each card by the builder's one call (the guide's Derived/Test/ToyasCard.lean, 'card_holds'). Laid BY PROGRAM, IN A SANDBOX (cutbox-door.mjs). By AI agents, Wed Nov 11 2026. No macro, syntax, notation, axiom, sorry.
-/
import Derived.Test.YtbegdpdldajolaaGreatDoorRows
import GoSem.ClaimSeven
namespace Go.Proofs.YtbegdpdldajolaaGreatDoor
namespace Rows

/-- THE TIED CARD OF 'rostrumlaw05.JsonWrites'. -/
def jsonWritesCard : Claim7 := { stood := { row := jsonWritesRow, standIns := [], harness := (true, "a9276bc8d157f3d6ac0d755b82d89e16ccc14cf7396e4594973a4de878734dc8"), looks := true }, kinds := [], alts := [], laidByText := true, laidKinds := [.data, .data, .data, .data, .sentinel, .sentinel, .pinned], laidTests := true, laidLooks := .later }
def JsonWritesCardSaid : Prop := Claim7.holds Tryz.pinned (.plain (OpenSpec.ofChange jsonWritesSpec)) jsonWritesCard

/-- THE TIED CARD OF 'rostrumlaw07.RpcReads'. -/
def rpcReadsCard : Claim7 := { stood := { row := rpcReadsRow, standIns := [], harness := (true, "a9276bc8d157f3d6ac0d755b82d89e16ccc14cf7396e4594973a4de878734dc8"), looks := true }, kinds := [], alts := [], laidByText := true, laidKinds := [.data, .data, .data, .data, .sentinel, .sentinel, .pinned], laidTests := true, laidLooks := .later }
def RpcReadsCardSaid : Prop := Claim7.holds Tryz.pinned (.plain (OpenSpec.ofChange rpcReadsSpec)) rpcReadsCard

/-- THE TIED CARD OF 'rostrumlaw05.JsonReads'. -/
def jsonReadsCard : Claim7 := { stood := { row := jsonReadsRow, standIns := [], harness := (true, "a9276bc8d157f3d6ac0d755b82d89e16ccc14cf7396e4594973a4de878734dc8"), looks := true }, kinds := [], alts := [], laidByText := true, laidKinds := [.data, .data, .data, .data, .sentinel, .sentinel, .pinned, .pinned], laidTests := true, laidLooks := .later }
def JsonReadsCardSaid : Prop := Claim7.holds Tryz.pinned (.plain (OpenSpec.ofChange jsonReadsSpec)) jsonReadsCard

/-- THE TIED CARD OF 'rostrumlaw05.JsonBack'. -/
def jsonBackCard : Claim7 := { stood := { row := jsonBackRow, standIns := [], harness := (true, "a9276bc8d157f3d6ac0d755b82d89e16ccc14cf7396e4594973a4de878734dc8"), looks := true }, kinds := [], alts := [], laidByText := true, laidKinds := [.data, .data, .data, .data, .sentinel, .sentinel, .pinned, .pinned], laidTests := true, laidLooks := .later }
def JsonBackCardSaid : Prop := Claim7.holds Tryz.pinned (.plain (OpenSpec.ofChange jsonBackSpec)) jsonBackCard

/-- THE TIED CARD OF 'rostrumlaw05.JsonBlanks'. -/
def jsonBlanksCard : Claim7 := { stood := { row := jsonBlanksRow, standIns := [], harness := (true, "a9276bc8d157f3d6ac0d755b82d89e16ccc14cf7396e4594973a4de878734dc8"), looks := true }, kinds := [], alts := [], laidByText := true, laidKinds := [.data, .data, .data, .data, .sentinel, .sentinel, .pinned, .pinned], laidTests := true, laidLooks := .later }
def JsonBlanksCardSaid : Prop := Claim7.holds Tryz.pinned (.plain (OpenSpec.ofChange jsonBlanksSpec)) jsonBlanksCard

/-- THE TIED CARD OF 'rostrumlaw05.JsonTexts'. -/
def jsonTextsCard : Claim7 := { stood := { row := jsonTextsRow, standIns := [], harness := (true, "a9276bc8d157f3d6ac0d755b82d89e16ccc14cf7396e4594973a4de878734dc8"), looks := true }, kinds := [], alts := [], laidByText := true, laidKinds := [.data, .data, .data, .data, .sentinel, .sentinel, .pinned, .pinned], laidTests := true, laidLooks := .later }
def JsonTextsCardSaid : Prop := Claim7.holds Tryz.pinned (.plain (OpenSpec.ofChange jsonTextsSpec)) jsonTextsCard

/-- THE TIED CARD OF 'rostrumlaw05.JsonNames'. -/
def jsonNamesCard : Claim7 := { stood := { row := jsonNamesRow, standIns := [], harness := (true, "a9276bc8d157f3d6ac0d755b82d89e16ccc14cf7396e4594973a4de878734dc8"), looks := true }, kinds := [], alts := [], laidByText := true, laidKinds := [.data, .data, .data, .data, .sentinel, .sentinel, .pinned, .pinned], laidTests := true, laidLooks := .later }
def JsonNamesCardSaid : Prop := Claim7.holds Tryz.pinned (.plain (OpenSpec.ofChange jsonNamesSpec)) jsonNamesCard

/-- THE TIED CARD OF 'rostrumlaw07.RpcBack'. -/
def rpcBackCard : Claim7 := { stood := { row := rpcBackRow, standIns := [], harness := (true, "a9276bc8d157f3d6ac0d755b82d89e16ccc14cf7396e4594973a4de878734dc8"), looks := true }, kinds := [], alts := [], laidByText := true, laidKinds := [.data, .data, .data, .data, .sentinel, .sentinel, .pinned, .pinned], laidTests := true, laidLooks := .later }
def RpcBackCardSaid : Prop := Claim7.holds Tryz.pinned (.plain (OpenSpec.ofChange rpcBackSpec)) rpcBackCard

/-- THE TIED CARD OF 'rostrumlaw07.RpcOthers'. -/
def rpcOthersCard : Claim7 := { stood := { row := rpcOthersRow, standIns := [], harness := (true, "a9276bc8d157f3d6ac0d755b82d89e16ccc14cf7396e4594973a4de878734dc8"), looks := true }, kinds := [], alts := [], laidByText := true, laidKinds := [.data, .data, .data, .data, .sentinel, .sentinel, .pinned, .pinned], laidTests := true, laidLooks := .later }
def RpcOthersCardSaid : Prop := Claim7.holds Tryz.pinned (.plain (OpenSpec.ofChange rpcOthersSpec)) rpcOthersCard

/-- THE TIED CARD OF 'rostrumlaw07.RpcNames'. -/
def rpcNamesCard : Claim7 := { stood := { row := rpcNamesRow, standIns := [], harness := (true, "a9276bc8d157f3d6ac0d755b82d89e16ccc14cf7396e4594973a4de878734dc8"), looks := true }, kinds := [], alts := [], laidByText := true, laidKinds := [.data, .data, .data, .data, .sentinel, .sentinel, .pinned, .pinned], laidTests := true, laidLooks := .later }
def RpcNamesCardSaid : Prop := Claim7.holds Tryz.pinned (.plain (OpenSpec.ofChange rpcNamesSpec)) rpcNamesCard

/-- THE SECOND FORM's CARD OF 'rostrumlaw05.JsonWrites'. -/
def jsonWritesUptoCard : Claim7 := { stood := { row := jsonWritesUptoRow, standIns := [], harness := (true, "a9276bc8d157f3d6ac0d755b82d89e16ccc14cf7396e4594973a4de878734dc8"), looks := true }, kinds := [], alts := [], laidByText := true, laidKinds := [.data, .data, .data, .data, .sentinel, .sentinel, .pinned], laidTests := true, laidLooks := .later }
def JsonWritesUptoCardSaid : Prop := Claim7.holds Tryz.pinned (.plain (OpenSpec.upto jsonWritesSpec)) jsonWritesUptoCard

/-- THE SECOND FORM's CARD OF 'rostrumlaw07.RpcReads'. -/
def rpcReadsUptoCard : Claim7 := { stood := { row := rpcReadsUptoRow, standIns := [], harness := (true, "a9276bc8d157f3d6ac0d755b82d89e16ccc14cf7396e4594973a4de878734dc8"), looks := true }, kinds := [], alts := [], laidByText := true, laidKinds := [.data, .data, .data, .data, .sentinel, .sentinel, .pinned], laidTests := true, laidLooks := .later }
def RpcReadsUptoCardSaid : Prop := Claim7.holds Tryz.pinned (.plain (OpenSpec.upto rpcReadsSpec)) rpcReadsUptoCard

/-- THE SECOND FORM's CARD OF 'rostrumlaw05.JsonReads'. -/
def jsonReadsUptoCard : Claim7 := { stood := { row := jsonReadsUptoRow, standIns := [], harness := (true, "a9276bc8d157f3d6ac0d755b82d89e16ccc14cf7396e4594973a4de878734dc8"), looks := true }, kinds := [], alts := [], laidByText := true, laidKinds := [.data, .data, .data, .data, .sentinel, .sentinel, .pinned, .pinned], laidTests := true, laidLooks := .later }
def JsonReadsUptoCardSaid : Prop := Claim7.holds Tryz.pinned (.plain (OpenSpec.upto jsonReadsSpec)) jsonReadsUptoCard

/-- THE SECOND FORM's CARD OF 'rostrumlaw05.JsonBack'. -/
def jsonBackUptoCard : Claim7 := { stood := { row := jsonBackUptoRow, standIns := [], harness := (true, "a9276bc8d157f3d6ac0d755b82d89e16ccc14cf7396e4594973a4de878734dc8"), looks := true }, kinds := [], alts := [], laidByText := true, laidKinds := [.data, .data, .data, .data, .sentinel, .sentinel, .pinned, .pinned], laidTests := true, laidLooks := .later }
def JsonBackUptoCardSaid : Prop := Claim7.holds Tryz.pinned (.plain (OpenSpec.upto jsonBackSpec)) jsonBackUptoCard

/-- THE SECOND FORM's CARD OF 'rostrumlaw05.JsonBlanks'. -/
def jsonBlanksUptoCard : Claim7 := { stood := { row := jsonBlanksUptoRow, standIns := [], harness := (true, "a9276bc8d157f3d6ac0d755b82d89e16ccc14cf7396e4594973a4de878734dc8"), looks := true }, kinds := [], alts := [], laidByText := true, laidKinds := [.data, .data, .data, .data, .sentinel, .sentinel, .pinned, .pinned], laidTests := true, laidLooks := .later }
def JsonBlanksUptoCardSaid : Prop := Claim7.holds Tryz.pinned (.plain (OpenSpec.upto jsonBlanksSpec)) jsonBlanksUptoCard

/-- THE SECOND FORM's CARD OF 'rostrumlaw05.JsonTexts'. -/
def jsonTextsUptoCard : Claim7 := { stood := { row := jsonTextsUptoRow, standIns := [], harness := (true, "a9276bc8d157f3d6ac0d755b82d89e16ccc14cf7396e4594973a4de878734dc8"), looks := true }, kinds := [], alts := [], laidByText := true, laidKinds := [.data, .data, .data, .data, .sentinel, .sentinel, .pinned, .pinned], laidTests := true, laidLooks := .later }
def JsonTextsUptoCardSaid : Prop := Claim7.holds Tryz.pinned (.plain (OpenSpec.upto jsonTextsSpec)) jsonTextsUptoCard

/-- THE SECOND FORM's CARD OF 'rostrumlaw05.JsonNames'. -/
def jsonNamesUptoCard : Claim7 := { stood := { row := jsonNamesUptoRow, standIns := [], harness := (true, "a9276bc8d157f3d6ac0d755b82d89e16ccc14cf7396e4594973a4de878734dc8"), looks := true }, kinds := [], alts := [], laidByText := true, laidKinds := [.data, .data, .data, .data, .sentinel, .sentinel, .pinned, .pinned], laidTests := true, laidLooks := .later }
def JsonNamesUptoCardSaid : Prop := Claim7.holds Tryz.pinned (.plain (OpenSpec.upto jsonNamesSpec)) jsonNamesUptoCard

/-- THE SECOND FORM's CARD OF 'rostrumlaw07.RpcBack'. -/
def rpcBackUptoCard : Claim7 := { stood := { row := rpcBackUptoRow, standIns := [], harness := (true, "a9276bc8d157f3d6ac0d755b82d89e16ccc14cf7396e4594973a4de878734dc8"), looks := true }, kinds := [], alts := [], laidByText := true, laidKinds := [.data, .data, .data, .data, .sentinel, .sentinel, .pinned, .pinned], laidTests := true, laidLooks := .later }
def RpcBackUptoCardSaid : Prop := Claim7.holds Tryz.pinned (.plain (OpenSpec.upto rpcBackSpec)) rpcBackUptoCard

/-- THE SECOND FORM's CARD OF 'rostrumlaw07.RpcOthers'. -/
def rpcOthersUptoCard : Claim7 := { stood := { row := rpcOthersUptoRow, standIns := [], harness := (true, "a9276bc8d157f3d6ac0d755b82d89e16ccc14cf7396e4594973a4de878734dc8"), looks := true }, kinds := [], alts := [], laidByText := true, laidKinds := [.data, .data, .data, .data, .sentinel, .sentinel, .pinned, .pinned], laidTests := true, laidLooks := .later }
def RpcOthersUptoCardSaid : Prop := Claim7.holds Tryz.pinned (.plain (OpenSpec.upto rpcOthersSpec)) rpcOthersUptoCard

/-- THE SECOND FORM's CARD OF 'rostrumlaw07.RpcNames'. -/
def rpcNamesUptoCard : Claim7 := { stood := { row := rpcNamesUptoRow, standIns := [], harness := (true, "a9276bc8d157f3d6ac0d755b82d89e16ccc14cf7396e4594973a4de878734dc8"), looks := true }, kinds := [], alts := [], laidByText := true, laidKinds := [.data, .data, .data, .data, .sentinel, .sentinel, .pinned, .pinned], laidTests := true, laidLooks := .later }
def RpcNamesUptoCardSaid : Prop := Claim7.holds Tryz.pinned (.plain (OpenSpec.upto rpcNamesSpec)) rpcNamesUptoCard
end Rows
end Go.Proofs.YtbegdpdldajolaaGreatDoor
