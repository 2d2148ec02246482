/-
  DERIVED. GIVEN WITH THE SEED: THE CARDS: each row of YtjphdipbajfojaaDoorRows.lean that lists a variable, with what it lists TIED to the program's text (the seventh form; the later family's looks); each row that meets fmt, with fmt's text TOLD by the authors' own Lean function (tested against real Go, not proved from fmt's source: count such statements apart). THE CARD IS WHAT COUNTS. Prove the row's statement (the work); the ties are given (YtjphdipbajfojaaDoorTie.lean); close each card by the builder's one call (the guide's Derived/Test/ToyasCard.lean, 'card_holds'). Laid BY PROGRAM, IN A SANDBOX (cutbox-door.mjs). By AI agents, Wed Nov 11 2026. No macro, syntax, notation, axiom, sorry.
-/
import Derived.Test.YtjphdipbajfojaaDoorRows
import GoSem.ClaimSeven
namespace Go.Proofs.YtjphdipbajfojaaDoor
namespace Rows

/-- THE TIED CARD OF 'turnpikelaw01.OctetSame'. -/
def octetSameCard : Claim7 := { stood := { row := octetSameRow, standIns := [], harness := (true, "579c595d9f1b4f3055e01dbcd65248d17f04a856482a66b7c4e90749b2f43527"), looks := false }, kinds := [], alts := [], laidByText := true, laidKinds := [.data], laidTests := true, laidLooks := .later }
def OctetSameCardSaid : Prop := Claim7.holds Tryd.pinned (.plain (OpenSpec.ofChange octetSameSpec)) octetSameCard

/-- THE TIED CARD OF 'turnpikelaw01.OctetNumbers'. -/
def octetNumbersCard : Claim7 := { stood := { row := octetNumbersRow, standIns := [], harness := (true, "579c595d9f1b4f3055e01dbcd65248d17f04a856482a66b7c4e90749b2f43527"), looks := false }, kinds := [], alts := [], laidByText := true, laidKinds := [.data], laidTests := true, laidLooks := .later }
def OctetNumbersCardSaid : Prop := Claim7.holds Tryd.pinned (.plain (OpenSpec.ofChange octetNumbersSpec)) octetNumbersCard

/-- THE TIED CARD OF 'turnpikelaw01.OctetQuotes'. -/
def octetQuotesCard : Claim7 := { stood := { row := octetQuotesRow, standIns := [], harness := (true, "579c595d9f1b4f3055e01dbcd65248d17f04a856482a66b7c4e90749b2f43527"), looks := false }, kinds := [], alts := [], laidByText := true, laidKinds := [.data], laidTests := true, laidLooks := .later }
def OctetQuotesCardSaid : Prop := Claim7.holds Tryd.pinned (.plain (OpenSpec.ofChange octetQuotesSpec)) octetQuotesCard

/-- THE TIED CARD OF 'turnpikelaw01.OctetBack'. -/
def octetBackCard : Claim7 := { stood := { row := octetBackRow, standIns := [], harness := (true, "579c595d9f1b4f3055e01dbcd65248d17f04a856482a66b7c4e90749b2f43527"), looks := false }, kinds := [], alts := [], laidByText := true, laidKinds := [.data], laidTests := true, laidLooks := .later }
def OctetBackCardSaid : Prop := Claim7.holds Tryd.pinned (.plain (OpenSpec.ofChange octetBackSpec)) octetBackCard

/-- THE TIED CARD OF 'turnpikelaw01.OctetParams'. -/
def octetParamsCard : Claim7 := { stood := { row := octetParamsRow, standIns := [], harness := (true, "579c595d9f1b4f3055e01dbcd65248d17f04a856482a66b7c4e90749b2f43527"), looks := false }, kinds := [], alts := [], laidByText := true, laidKinds := [.data], laidTests := true, laidLooks := .later }
def OctetParamsCardSaid : Prop := Claim7.holds Tryd.pinned (.plain (OpenSpec.ofChange octetParamsSpec)) octetParamsCard

/-- THE TIED CARD OF 'turnpikelaw01.OctetPrints'. -/
def octetPrintsCard : Claim7 := { stood := { row := octetPrintsRow, standIns := [], harness := (true, "579c595d9f1b4f3055e01dbcd65248d17f04a856482a66b7c4e90749b2f43527"), looks := false }, kinds := [], alts := [], laidByText := true, laidKinds := [.data], laidTests := true, laidLooks := .later }
def OctetPrintsCardSaid : Prop := Claim7.holds Tryd.pinned (.plain (OpenSpec.ofChange octetPrintsSpec)) octetPrintsCard

/-- THE TIED CARD OF 'turnpikelaw01.OctetCounts'. -/
def octetCountsCard : Claim7 := { stood := { row := octetCountsRow, standIns := [], harness := (true, "579c595d9f1b4f3055e01dbcd65248d17f04a856482a66b7c4e90749b2f43527"), looks := false }, kinds := [], alts := [], laidByText := true, laidKinds := [.data, .data, .data, .data], laidTests := true, laidLooks := .later }
def OctetCountsCardSaid : Prop := Claim7.holds Tryd.pinned (.plain (OpenSpec.ofChange octetCountsSpec)) octetCountsCard

/-- THE TIED CARD OF 'turnpikelaw01.OctetClasses'. -/
def octetClassesCard : Claim7 := { stood := { row := octetClassesRow, standIns := [], harness := (true, "579c595d9f1b4f3055e01dbcd65248d17f04a856482a66b7c4e90749b2f43527"), looks := false }, kinds := [], alts := [], laidByText := true, laidKinds := [.data, .data, .pinned], laidTests := true, laidLooks := .later }
def OctetClassesCardSaid : Prop := Claim7.holds Tryd.pinned (.plain (OpenSpec.ofChange octetClassesSpec)) octetClassesCard

/-- THE TIED CARD OF 'turnpikelaw01.OctetSplit'. -/
def octetSplitCard : Claim7 := { stood := { row := octetSplitRow, standIns := [], harness := (true, "579c595d9f1b4f3055e01dbcd65248d17f04a856482a66b7c4e90749b2f43527"), looks := false }, kinds := [], alts := [], laidByText := true, laidKinds := [.data, .data, .pinned], laidTests := true, laidLooks := .later }
def OctetSplitCardSaid : Prop := Claim7.holds Tryd.pinned (.plain (OpenSpec.ofChange octetSplitSpec)) octetSplitCard

/-- THE TIED CARD OF 'turnpikelaw01.OctetLists'. -/
def octetListsCard : Claim7 := { stood := { row := octetListsRow, standIns := [], harness := (true, "579c595d9f1b4f3055e01dbcd65248d17f04a856482a66b7c4e90749b2f43527"), looks := false }, kinds := [], alts := [], laidByText := true, laidKinds := [.data, .data, .pinned], laidTests := true, laidLooks := .later }
def OctetListsCardSaid : Prop := Claim7.holds Tryd.pinned (.plain (OpenSpec.ofChange octetListsSpec)) octetListsCard

/-- THE TIED CARD OF 'turnpikelaw01.OctetJoins'. -/
def octetJoinsCard : Claim7 := { stood := { row := octetJoinsRow, standIns := [], harness := (true, "579c595d9f1b4f3055e01dbcd65248d17f04a856482a66b7c4e90749b2f43527"), looks := false }, kinds := [], alts := [], laidByText := true, laidKinds := [.data, .data, .pinned], laidTests := true, laidLooks := .later }
def OctetJoinsCardSaid : Prop := Claim7.holds Tryd.pinned (.plain (OpenSpec.ofChange octetJoinsSpec)) octetJoinsCard

/-- THE TIED CARD OF 'turnpikelaw01.OctetMemory'. -/
def octetMemoryCard : Claim7 := { stood := { row := octetMemoryRow, standIns := [], harness := (true, "579c595d9f1b4f3055e01dbcd65248d17f04a856482a66b7c4e90749b2f43527"), looks := false }, kinds := [], alts := [], laidByText := true, laidKinds := [.data, .data, .data, .data, .data, .pinned], laidTests := true, laidLooks := .later }
def OctetMemoryCardSaid : Prop := Claim7.holds Tryd.pinned (.plain (OpenSpec.ofChange octetMemorySpec)) octetMemoryCard

/-- THE SECOND FORM's CARD OF 'turnpikelaw01.OctetSame'. -/
def octetSameUptoCard : Claim7 := { stood := { row := octetSameUptoRow, standIns := [], harness := (true, "579c595d9f1b4f3055e01dbcd65248d17f04a856482a66b7c4e90749b2f43527"), looks := false }, kinds := [], alts := [], laidByText := true, laidKinds := [.data], laidTests := true, laidLooks := .later }
def OctetSameUptoCardSaid : Prop := Claim7.holds Tryd.pinned (.plain (OpenSpec.upto octetSameSpec)) octetSameUptoCard

/-- THE SECOND FORM's CARD OF 'turnpikelaw01.OctetNumbers'. -/
def octetNumbersUptoCard : Claim7 := { stood := { row := octetNumbersUptoRow, standIns := [], harness := (true, "579c595d9f1b4f3055e01dbcd65248d17f04a856482a66b7c4e90749b2f43527"), looks := false }, kinds := [], alts := [], laidByText := true, laidKinds := [.data], laidTests := true, laidLooks := .later }
def OctetNumbersUptoCardSaid : Prop := Claim7.holds Tryd.pinned (.plain (OpenSpec.upto octetNumbersSpec)) octetNumbersUptoCard

/-- THE SECOND FORM's CARD OF 'turnpikelaw01.OctetQuotes'. -/
def octetQuotesUptoCard : Claim7 := { stood := { row := octetQuotesUptoRow, standIns := [], harness := (true, "579c595d9f1b4f3055e01dbcd65248d17f04a856482a66b7c4e90749b2f43527"), looks := false }, kinds := [], alts := [], laidByText := true, laidKinds := [.data], laidTests := true, laidLooks := .later }
def OctetQuotesUptoCardSaid : Prop := Claim7.holds Tryd.pinned (.plain (OpenSpec.upto octetQuotesSpec)) octetQuotesUptoCard

/-- THE SECOND FORM's CARD OF 'turnpikelaw01.OctetBack'. -/
def octetBackUptoCard : Claim7 := { stood := { row := octetBackUptoRow, standIns := [], harness := (true, "579c595d9f1b4f3055e01dbcd65248d17f04a856482a66b7c4e90749b2f43527"), looks := false }, kinds := [], alts := [], laidByText := true, laidKinds := [.data], laidTests := true, laidLooks := .later }
def OctetBackUptoCardSaid : Prop := Claim7.holds Tryd.pinned (.plain (OpenSpec.upto octetBackSpec)) octetBackUptoCard

/-- THE SECOND FORM's CARD OF 'turnpikelaw01.OctetParams'. -/
def octetParamsUptoCard : Claim7 := { stood := { row := octetParamsUptoRow, standIns := [], harness := (true, "579c595d9f1b4f3055e01dbcd65248d17f04a856482a66b7c4e90749b2f43527"), looks := false }, kinds := [], alts := [], laidByText := true, laidKinds := [.data], laidTests := true, laidLooks := .later }
def OctetParamsUptoCardSaid : Prop := Claim7.holds Tryd.pinned (.plain (OpenSpec.upto octetParamsSpec)) octetParamsUptoCard

/-- THE SECOND FORM's CARD OF 'turnpikelaw01.OctetPrints'. -/
def octetPrintsUptoCard : Claim7 := { stood := { row := octetPrintsUptoRow, standIns := [], harness := (true, "579c595d9f1b4f3055e01dbcd65248d17f04a856482a66b7c4e90749b2f43527"), looks := false }, kinds := [], alts := [], laidByText := true, laidKinds := [.data], laidTests := true, laidLooks := .later }
def OctetPrintsUptoCardSaid : Prop := Claim7.holds Tryd.pinned (.plain (OpenSpec.upto octetPrintsSpec)) octetPrintsUptoCard

/-- THE SECOND FORM's CARD OF 'turnpikelaw01.OctetCounts'. -/
def octetCountsUptoCard : Claim7 := { stood := { row := octetCountsUptoRow, standIns := [], harness := (true, "579c595d9f1b4f3055e01dbcd65248d17f04a856482a66b7c4e90749b2f43527"), looks := false }, kinds := [], alts := [], laidByText := true, laidKinds := [.data, .data, .data, .data], laidTests := true, laidLooks := .later }
def OctetCountsUptoCardSaid : Prop := Claim7.holds Tryd.pinned (.plain (OpenSpec.upto octetCountsSpec)) octetCountsUptoCard

/-- THE SECOND FORM's CARD OF 'turnpikelaw01.OctetClasses'. -/
def octetClassesUptoCard : Claim7 := { stood := { row := octetClassesUptoRow, standIns := [], harness := (true, "579c595d9f1b4f3055e01dbcd65248d17f04a856482a66b7c4e90749b2f43527"), looks := false }, kinds := [], alts := [], laidByText := true, laidKinds := [.data, .data, .pinned], laidTests := true, laidLooks := .later }
def OctetClassesUptoCardSaid : Prop := Claim7.holds Tryd.pinned (.plain (OpenSpec.upto octetClassesSpec)) octetClassesUptoCard

/-- THE SECOND FORM's CARD OF 'turnpikelaw01.OctetSplit'. -/
def octetSplitUptoCard : Claim7 := { stood := { row := octetSplitUptoRow, standIns := [], harness := (true, "579c595d9f1b4f3055e01dbcd65248d17f04a856482a66b7c4e90749b2f43527"), looks := false }, kinds := [], alts := [], laidByText := true, laidKinds := [.data, .data, .pinned], laidTests := true, laidLooks := .later }
def OctetSplitUptoCardSaid : Prop := Claim7.holds Tryd.pinned (.plain (OpenSpec.upto octetSplitSpec)) octetSplitUptoCard

/-- THE SECOND FORM's CARD OF 'turnpikelaw01.OctetLists'. -/
def octetListsUptoCard : Claim7 := { stood := { row := octetListsUptoRow, standIns := [], harness := (true, "579c595d9f1b4f3055e01dbcd65248d17f04a856482a66b7c4e90749b2f43527"), looks := false }, kinds := [], alts := [], laidByText := true, laidKinds := [.data, .data, .pinned], laidTests := true, laidLooks := .later }
def OctetListsUptoCardSaid : Prop := Claim7.holds Tryd.pinned (.plain (OpenSpec.upto octetListsSpec)) octetListsUptoCard

/-- THE SECOND FORM's CARD OF 'turnpikelaw01.OctetJoins'. -/
def octetJoinsUptoCard : Claim7 := { stood := { row := octetJoinsUptoRow, standIns := [], harness := (true, "579c595d9f1b4f3055e01dbcd65248d17f04a856482a66b7c4e90749b2f43527"), looks := false }, kinds := [], alts := [], laidByText := true, laidKinds := [.data, .data, .pinned], laidTests := true, laidLooks := .later }
def OctetJoinsUptoCardSaid : Prop := Claim7.holds Tryd.pinned (.plain (OpenSpec.upto octetJoinsSpec)) octetJoinsUptoCard

/-- THE SECOND FORM's CARD OF 'turnpikelaw01.OctetMemory'. -/
def octetMemoryUptoCard : Claim7 := { stood := { row := octetMemoryUptoRow, standIns := [], harness := (true, "579c595d9f1b4f3055e01dbcd65248d17f04a856482a66b7c4e90749b2f43527"), looks := false }, kinds := [], alts := [], laidByText := true, laidKinds := [.data, .data, .data, .data, .data, .pinned], laidTests := true, laidLooks := .later }
def OctetMemoryUptoCardSaid : Prop := Claim7.holds Tryd.pinned (.plain (OpenSpec.upto octetMemorySpec)) octetMemoryUptoCard
end Rows
end Go.Proofs.YtjphdipbajfojaaDoor
