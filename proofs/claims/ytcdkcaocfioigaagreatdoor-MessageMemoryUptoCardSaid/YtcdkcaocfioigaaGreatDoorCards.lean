/-
  DERIVED. GIVEN WITH THE SEED: THE CARDS: each row of YtcdkcaocfioigaaGreatDoorRows.lean that lists a variable, with what it lists TIED to the program's text (the seventh form; the later family's looks); each row that meets fmt, with fmt's text TOLD by the authors' own Lean function (tested against real Go, not proved from fmt's source: count such statements apart). THE CARD IS WHAT COUNTS. Prove the row's statement (the work); the ties are given (YtcdkcaocfioigaaGreatDoorTie.lean); close each card by the builder's one call (the guide's Derived/Test/ToyasCard.lean, 'card_holds'). Laid BY PROGRAM, IN A SANDBOX (cutbox-door.mjs). By AI agents, Wed Nov 11 2026. No macro, syntax, notation, axiom, sorry.
-/
import Derived.Test.YtcdkcaocfioigaaGreatDoorRows
import GoSem.ClaimSeven
namespace Go.Proofs.YtcdkcaocfioigaaGreatDoor
namespace Rows

/-- THE TIED CARD OF 'turnpikelaw12.MessagePrints'. -/
def messagePrintsCard : Claim7 := { stood := { row := messagePrintsRow, standIns := [], harness := (true, "03cfb971eaaac5256a933ff761a7de734e928175ea143322d6898bc1dcc95932"), looks := false }, kinds := [], alts := [], laidByText := true, laidKinds := [.data, .data, .data, .data, .data, .pinned], laidTests := true, laidLooks := .later }
def MessagePrintsCardSaid : Prop := Claim7.holds Tryz.pinned (.plain (OpenSpec.ofChange messagePrintsSpec)) messagePrintsCard

/-- THE TIED CARD OF 'turnpikelaw12.MessageBack'. -/
def messageBackCard : Claim7 := { stood := { row := messageBackRow, standIns := [], harness := (true, "03cfb971eaaac5256a933ff761a7de734e928175ea143322d6898bc1dcc95932"), looks := false }, kinds := [], alts := [], laidByText := true, laidKinds := [.data, .data, .data, .data, .data, .pinned], laidTests := true, laidLooks := .later }
def MessageBackCardSaid : Prop := Claim7.holds Tryz.pinned (.plain (OpenSpec.ofChange messageBackSpec)) messageBackCard

/-- THE TIED CARD OF 'turnpikelaw12.MessageHead'. -/
def messageHeadCard : Claim7 := { stood := { row := messageHeadRow, standIns := [], harness := (true, "03cfb971eaaac5256a933ff761a7de734e928175ea143322d6898bc1dcc95932"), looks := false }, kinds := [], alts := [], laidByText := true, laidKinds := [.data, .data, .data, .data, .data, .pinned], laidTests := true, laidLooks := .later }
def MessageHeadCardSaid : Prop := Claim7.holds Tryz.pinned (.plain (OpenSpec.ofChange messageHeadSpec)) messageHeadCard

/-- THE TIED CARD OF 'turnpikelaw12.MessageMemory'. -/
def messageMemoryCard : Claim7 := { stood := { row := messageMemoryRow, standIns := [], harness := (true, "03cfb971eaaac5256a933ff761a7de734e928175ea143322d6898bc1dcc95932"), looks := false }, kinds := [], alts := [], laidByText := true, laidKinds := [.data, .data, .data, .data, .data, .pinned], laidTests := true, laidLooks := .later }
def MessageMemoryCardSaid : Prop := Claim7.holds Tryz.pinned (.plain (OpenSpec.ofChange messageMemorySpec)) messageMemoryCard

/-- THE TIED CARD OF 'turnpikelaw12.MessageReasons'. -/
def messageReasonsCard : Claim7 := { stood := { row := messageReasonsRow, standIns := [], harness := (true, "03cfb971eaaac5256a933ff761a7de734e928175ea143322d6898bc1dcc95932"), looks := false }, kinds := [], alts := [], laidByText := true, laidKinds := [.data, .data, .data, .data, .data, .pinned], laidTests := true, laidLooks := .later }
def MessageReasonsCardSaid : Prop := Claim7.holds Tryz.pinned (.plain (OpenSpec.ofChange messageReasonsSpec)) messageReasonsCard

/-- THE TIED CARD OF 'turnpikelaw12.MessageRow'. -/
def messageRowCard : Claim7 := { stood := { row := messageRowRow, standIns := [], harness := (true, "03cfb971eaaac5256a933ff761a7de734e928175ea143322d6898bc1dcc95932"), looks := false }, kinds := [], alts := [], laidByText := true, laidKinds := [.data, .data, .data, .data, .data, .pinned], laidTests := true, laidLooks := .later }
def MessageRowCardSaid : Prop := Claim7.holds Tryz.pinned (.plain (OpenSpec.ofChange messageRowSpec)) messageRowCard

/-- THE TIED CARD OF 'turnpikelaw12.MessageReads'. -/
def messageReadsCard : Claim7 := { stood := { row := messageReadsRow, standIns := [], harness := (true, "03cfb971eaaac5256a933ff761a7de734e928175ea143322d6898bc1dcc95932"), looks := false }, kinds := [], alts := [], laidByText := true, laidKinds := [.data, .data, .data, .data, .data, .pinned], laidTests := true, laidLooks := .later }
def MessageReadsCardSaid : Prop := Claim7.holds Tryz.pinned (.plain (OpenSpec.ofChange messageReadsSpec)) messageReadsCard

/-- THE TIED CARD OF 'turnpikelaw12.MessageTwo'. -/
def messageTwoCard : Claim7 := { stood := { row := messageTwoRow, standIns := [], harness := (true, "03cfb971eaaac5256a933ff761a7de734e928175ea143322d6898bc1dcc95932"), looks := false }, kinds := [], alts := [], laidByText := true, laidKinds := [.data, .data, .data, .data, .data, .pinned], laidTests := true, laidLooks := .later }
def MessageTwoCardSaid : Prop := Claim7.holds Tryz.pinned (.plain (OpenSpec.ofChange messageTwoSpec)) messageTwoCard

/-- THE TIED CARD OF 'turnpikelaw12.MessageCuts'. -/
def messageCutsCard : Claim7 := { stood := { row := messageCutsRow, standIns := [], harness := (true, "03cfb971eaaac5256a933ff761a7de734e928175ea143322d6898bc1dcc95932"), looks := false }, kinds := [], alts := [], laidByText := true, laidKinds := [.data, .data, .data, .data, .data, .pinned], laidTests := true, laidLooks := .later }
def MessageCutsCardSaid : Prop := Claim7.holds Tryz.pinned (.plain (OpenSpec.ofChange messageCutsSpec)) messageCutsCard

/-- THE SECOND FORM's CARD OF 'turnpikelaw12.MessagePrints'. -/
def messagePrintsUptoCard : Claim7 := { stood := { row := messagePrintsUptoRow, standIns := [], harness := (true, "03cfb971eaaac5256a933ff761a7de734e928175ea143322d6898bc1dcc95932"), looks := false }, kinds := [], alts := [], laidByText := true, laidKinds := [.data, .data, .data, .data, .data, .pinned], laidTests := true, laidLooks := .later }
def MessagePrintsUptoCardSaid : Prop := Claim7.holds Tryz.pinned (.plain (OpenSpec.upto messagePrintsSpec)) messagePrintsUptoCard

/-- THE SECOND FORM's CARD OF 'turnpikelaw12.MessageBack'. -/
def messageBackUptoCard : Claim7 := { stood := { row := messageBackUptoRow, standIns := [], harness := (true, "03cfb971eaaac5256a933ff761a7de734e928175ea143322d6898bc1dcc95932"), looks := false }, kinds := [], alts := [], laidByText := true, laidKinds := [.data, .data, .data, .data, .data, .pinned], laidTests := true, laidLooks := .later }
def MessageBackUptoCardSaid : Prop := Claim7.holds Tryz.pinned (.plain (OpenSpec.upto messageBackSpec)) messageBackUptoCard

/-- THE SECOND FORM's CARD OF 'turnpikelaw12.MessageHead'. -/
def messageHeadUptoCard : Claim7 := { stood := { row := messageHeadUptoRow, standIns := [], harness := (true, "03cfb971eaaac5256a933ff761a7de734e928175ea143322d6898bc1dcc95932"), looks := false }, kinds := [], alts := [], laidByText := true, laidKinds := [.data, .data, .data, .data, .data, .pinned], laidTests := true, laidLooks := .later }
def MessageHeadUptoCardSaid : Prop := Claim7.holds Tryz.pinned (.plain (OpenSpec.upto messageHeadSpec)) messageHeadUptoCard

/-- THE SECOND FORM's CARD OF 'turnpikelaw12.MessageMemory'. -/
def messageMemoryUptoCard : Claim7 := { stood := { row := messageMemoryUptoRow, standIns := [], harness := (true, "03cfb971eaaac5256a933ff761a7de734e928175ea143322d6898bc1dcc95932"), looks := false }, kinds := [], alts := [], laidByText := true, laidKinds := [.data, .data, .data, .data, .data, .pinned], laidTests := true, laidLooks := .later }
def MessageMemoryUptoCardSaid : Prop := Claim7.holds Tryz.pinned (.plain (OpenSpec.upto messageMemorySpec)) messageMemoryUptoCard

/-- THE SECOND FORM's CARD OF 'turnpikelaw12.MessageReasons'. -/
def messageReasonsUptoCard : Claim7 := { stood := { row := messageReasonsUptoRow, standIns := [], harness := (true, "03cfb971eaaac5256a933ff761a7de734e928175ea143322d6898bc1dcc95932"), looks := false }, kinds := [], alts := [], laidByText := true, laidKinds := [.data, .data, .data, .data, .data, .pinned], laidTests := true, laidLooks := .later }
def MessageReasonsUptoCardSaid : Prop := Claim7.holds Tryz.pinned (.plain (OpenSpec.upto messageReasonsSpec)) messageReasonsUptoCard

/-- THE SECOND FORM's CARD OF 'turnpikelaw12.MessageRow'. -/
def messageRowUptoCard : Claim7 := { stood := { row := messageRowUptoRow, standIns := [], harness := (true, "03cfb971eaaac5256a933ff761a7de734e928175ea143322d6898bc1dcc95932"), looks := false }, kinds := [], alts := [], laidByText := true, laidKinds := [.data, .data, .data, .data, .data, .pinned], laidTests := true, laidLooks := .later }
def MessageRowUptoCardSaid : Prop := Claim7.holds Tryz.pinned (.plain (OpenSpec.upto messageRowSpec)) messageRowUptoCard

/-- THE SECOND FORM's CARD OF 'turnpikelaw12.MessageReads'. -/
def messageReadsUptoCard : Claim7 := { stood := { row := messageReadsUptoRow, standIns := [], harness := (true, "03cfb971eaaac5256a933ff761a7de734e928175ea143322d6898bc1dcc95932"), looks := false }, kinds := [], alts := [], laidByText := true, laidKinds := [.data, .data, .data, .data, .data, .pinned], laidTests := true, laidLooks := .later }
def MessageReadsUptoCardSaid : Prop := Claim7.holds Tryz.pinned (.plain (OpenSpec.upto messageReadsSpec)) messageReadsUptoCard

/-- THE SECOND FORM's CARD OF 'turnpikelaw12.MessageTwo'. -/
def messageTwoUptoCard : Claim7 := { stood := { row := messageTwoUptoRow, standIns := [], harness := (true, "03cfb971eaaac5256a933ff761a7de734e928175ea143322d6898bc1dcc95932"), looks := false }, kinds := [], alts := [], laidByText := true, laidKinds := [.data, .data, .data, .data, .data, .pinned], laidTests := true, laidLooks := .later }
def MessageTwoUptoCardSaid : Prop := Claim7.holds Tryz.pinned (.plain (OpenSpec.upto messageTwoSpec)) messageTwoUptoCard

/-- THE SECOND FORM's CARD OF 'turnpikelaw12.MessageCuts'. -/
def messageCutsUptoCard : Claim7 := { stood := { row := messageCutsUptoRow, standIns := [], harness := (true, "03cfb971eaaac5256a933ff761a7de734e928175ea143322d6898bc1dcc95932"), looks := false }, kinds := [], alts := [], laidByText := true, laidKinds := [.data, .data, .data, .data, .data, .pinned], laidTests := true, laidLooks := .later }
def MessageCutsUptoCardSaid : Prop := Claim7.holds Tryz.pinned (.plain (OpenSpec.upto messageCutsSpec)) messageCutsUptoCard
end Rows
end Go.Proofs.YtcdkcaocfioigaaGreatDoor
