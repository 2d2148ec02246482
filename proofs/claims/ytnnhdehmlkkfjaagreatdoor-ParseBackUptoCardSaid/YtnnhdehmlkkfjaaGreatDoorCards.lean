/-
  DERIVED. GIVEN WITH THE SEED: THE CARDS: each row of YtnnhdehmlkkfjaaGreatDoorRows.lean that lists a variable, with what it lists TIED to the program's text (the seventh form; the later family's looks); each row that meets fmt, with fmt's text TOLD by the authors' own Lean function (tested against real Go, not proved from fmt's source: count such statements apart). THE CARD IS WHAT COUNTS. Prove the row's statement (the work); the ties are given (YtnnhdehmlkkfjaaGreatDoorTie.lean); close each card by the builder's one call (the guide's Derived/Test/ToyasCard.lean, 'card_holds'). Laid BY PROGRAM, IN A SANDBOX (cutbox-door.mjs). By AI agents, Wed Nov 11 2026. No macro, syntax, notation, axiom, sorry.
-/
import Derived.Test.YtnnhdehmlkkfjaaGreatDoorRows
import GoSem.ClaimSeven
namespace Go.Proofs.YtnnhdehmlkkfjaaGreatDoor
namespace Rows

/-- THE TIED CARD OF 'turnpikelaw11.ParseWholes'. -/
def parseWholesCard : Claim7 := { stood := { row := parseWholesRow, standIns := [], harness := (true, "fe856689a437b72d0d9682c9f4d9bca03118744e82e96710ac6b8358cee642db"), looks := true }, kinds := [], alts := [], laidByText := true, laidKinds := [.data, .data, .data, .data, .data, .pinned], laidTests := true, laidLooks := .later }
def ParseWholesCardSaid : Prop := Claim7.holds Tryz.pinned (.plain (OpenSpec.ofChange parseWholesSpec)) parseWholesCard

/-- THE TIED CARD OF 'turnpikelaw11.ParseLimits'. -/
def parseLimitsCard : Claim7 := { stood := { row := parseLimitsRow, standIns := [], harness := (true, "fe856689a437b72d0d9682c9f4d9bca03118744e82e96710ac6b8358cee642db"), looks := true }, kinds := [], alts := [], laidByText := true, laidKinds := [.data, .data, .data, .data, .data, .pinned], laidTests := true, laidLooks := .later }
def ParseLimitsCardSaid : Prop := Claim7.holds Tryz.pinned (.plain (OpenSpec.ofChange parseLimitsSpec)) parseLimitsCard

/-- THE TIED CARD OF 'turnpikelaw11.ParseCuts'. -/
def parseCutsCard : Claim7 := { stood := { row := parseCutsRow, standIns := [], harness := (true, "fe856689a437b72d0d9682c9f4d9bca03118744e82e96710ac6b8358cee642db"), looks := true }, kinds := [], alts := [], laidByText := true, laidKinds := [.data, .data, .data, .data, .data, .pinned], laidTests := true, laidLooks := .later }
def ParseCutsCardSaid : Prop := Claim7.holds Tryz.pinned (.plain (OpenSpec.ofChange parseCutsSpec)) parseCutsCard

/-- THE TIED CARD OF 'turnpikelaw11.ParseMemory'. -/
def parseMemoryCard : Claim7 := { stood := { row := parseMemoryRow, standIns := [], harness := (true, "fe856689a437b72d0d9682c9f4d9bca03118744e82e96710ac6b8358cee642db"), looks := true }, kinds := [], alts := [], laidByText := true, laidKinds := [.data, .data, .data, .data, .data, .pinned], laidTests := true, laidLooks := .later }
def ParseMemoryCardSaid : Prop := Claim7.holds Tryz.pinned (.plain (OpenSpec.ofChange parseMemorySpec)) parseMemoryCard

/-- THE TIED CARD OF 'turnpikelaw11.ParsePlays'. -/
def parsePlaysCard : Claim7 := { stood := { row := parsePlaysRow, standIns := [], harness := (true, "fe856689a437b72d0d9682c9f4d9bca03118744e82e96710ac6b8358cee642db"), looks := true }, kinds := [], alts := [], laidByText := true, laidKinds := [.data, .data, .data, .data, .data, .pinned], laidTests := true, laidLooks := .later }
def ParsePlaysCardSaid : Prop := Claim7.holds Tryz.pinned (.plain (OpenSpec.ofChange parsePlaysSpec)) parsePlaysCard

/-- THE TIED CARD OF 'turnpikelaw11.ParseNil'. -/
def parseNilCard : Claim7 := { stood := { row := parseNilRow, standIns := [], harness := (true, "fe856689a437b72d0d9682c9f4d9bca03118744e82e96710ac6b8358cee642db"), looks := true }, kinds := [], alts := [], laidByText := true, laidKinds := [.data, .data, .data, .data, .data, .pinned], laidTests := true, laidLooks := .later }
def ParseNilCardSaid : Prop := Claim7.holds Tryz.pinned (.plain (OpenSpec.ofChange parseNilSpec)) parseNilCard

/-- THE TIED CARD OF 'turnpikelaw11.ParsePrints'. -/
def parsePrintsCard : Claim7 := { stood := { row := parsePrintsRow, standIns := [], harness := (true, "fe856689a437b72d0d9682c9f4d9bca03118744e82e96710ac6b8358cee642db"), looks := true }, kinds := [], alts := [], laidByText := true, laidKinds := [.data, .data, .data, .data, .data, .pinned], laidTests := true, laidLooks := .later }
def ParsePrintsCardSaid : Prop := Claim7.holds Tryz.pinned (.plain (OpenSpec.ofChange parsePrintsSpec)) parsePrintsCard

/-- THE TIED CARD OF 'turnpikelaw11.ParseBack'. -/
def parseBackCard : Claim7 := { stood := { row := parseBackRow, standIns := [], harness := (true, "fe856689a437b72d0d9682c9f4d9bca03118744e82e96710ac6b8358cee642db"), looks := true }, kinds := [], alts := [], laidByText := true, laidKinds := [.data, .data, .data, .data, .data, .pinned], laidTests := true, laidLooks := .later }
def ParseBackCardSaid : Prop := Claim7.holds Tryz.pinned (.plain (OpenSpec.ofChange parseBackSpec)) parseBackCard

/-- THE TIED CARD OF 'turnpikelaw11.ParseRow'. -/
def parseRowCard : Claim7 := { stood := { row := parseRowRow, standIns := [], harness := (true, "fe856689a437b72d0d9682c9f4d9bca03118744e82e96710ac6b8358cee642db"), looks := true }, kinds := [], alts := [], laidByText := true, laidKinds := [.data, .data, .data, .data, .data, .pinned], laidTests := true, laidLooks := .later }
def ParseRowCardSaid : Prop := Claim7.holds Tryz.pinned (.plain (OpenSpec.ofChange parseRowSpec)) parseRowCard

/-- THE SECOND FORM's CARD OF 'turnpikelaw11.ParseWholes'. -/
def parseWholesUptoCard : Claim7 := { stood := { row := parseWholesUptoRow, standIns := [], harness := (true, "fe856689a437b72d0d9682c9f4d9bca03118744e82e96710ac6b8358cee642db"), looks := true }, kinds := [], alts := [], laidByText := true, laidKinds := [.data, .data, .data, .data, .data, .pinned], laidTests := true, laidLooks := .later }
def ParseWholesUptoCardSaid : Prop := Claim7.holds Tryz.pinned (.plain (OpenSpec.upto parseWholesSpec)) parseWholesUptoCard

/-- THE SECOND FORM's CARD OF 'turnpikelaw11.ParseLimits'. -/
def parseLimitsUptoCard : Claim7 := { stood := { row := parseLimitsUptoRow, standIns := [], harness := (true, "fe856689a437b72d0d9682c9f4d9bca03118744e82e96710ac6b8358cee642db"), looks := true }, kinds := [], alts := [], laidByText := true, laidKinds := [.data, .data, .data, .data, .data, .pinned], laidTests := true, laidLooks := .later }
def ParseLimitsUptoCardSaid : Prop := Claim7.holds Tryz.pinned (.plain (OpenSpec.upto parseLimitsSpec)) parseLimitsUptoCard

/-- THE SECOND FORM's CARD OF 'turnpikelaw11.ParseCuts'. -/
def parseCutsUptoCard : Claim7 := { stood := { row := parseCutsUptoRow, standIns := [], harness := (true, "fe856689a437b72d0d9682c9f4d9bca03118744e82e96710ac6b8358cee642db"), looks := true }, kinds := [], alts := [], laidByText := true, laidKinds := [.data, .data, .data, .data, .data, .pinned], laidTests := true, laidLooks := .later }
def ParseCutsUptoCardSaid : Prop := Claim7.holds Tryz.pinned (.plain (OpenSpec.upto parseCutsSpec)) parseCutsUptoCard

/-- THE SECOND FORM's CARD OF 'turnpikelaw11.ParseMemory'. -/
def parseMemoryUptoCard : Claim7 := { stood := { row := parseMemoryUptoRow, standIns := [], harness := (true, "fe856689a437b72d0d9682c9f4d9bca03118744e82e96710ac6b8358cee642db"), looks := true }, kinds := [], alts := [], laidByText := true, laidKinds := [.data, .data, .data, .data, .data, .pinned], laidTests := true, laidLooks := .later }
def ParseMemoryUptoCardSaid : Prop := Claim7.holds Tryz.pinned (.plain (OpenSpec.upto parseMemorySpec)) parseMemoryUptoCard

/-- THE SECOND FORM's CARD OF 'turnpikelaw11.ParsePlays'. -/
def parsePlaysUptoCard : Claim7 := { stood := { row := parsePlaysUptoRow, standIns := [], harness := (true, "fe856689a437b72d0d9682c9f4d9bca03118744e82e96710ac6b8358cee642db"), looks := true }, kinds := [], alts := [], laidByText := true, laidKinds := [.data, .data, .data, .data, .data, .pinned], laidTests := true, laidLooks := .later }
def ParsePlaysUptoCardSaid : Prop := Claim7.holds Tryz.pinned (.plain (OpenSpec.upto parsePlaysSpec)) parsePlaysUptoCard

/-- THE SECOND FORM's CARD OF 'turnpikelaw11.ParseNil'. -/
def parseNilUptoCard : Claim7 := { stood := { row := parseNilUptoRow, standIns := [], harness := (true, "fe856689a437b72d0d9682c9f4d9bca03118744e82e96710ac6b8358cee642db"), looks := true }, kinds := [], alts := [], laidByText := true, laidKinds := [.data, .data, .data, .data, .data, .pinned], laidTests := true, laidLooks := .later }
def ParseNilUptoCardSaid : Prop := Claim7.holds Tryz.pinned (.plain (OpenSpec.upto parseNilSpec)) parseNilUptoCard

/-- THE SECOND FORM's CARD OF 'turnpikelaw11.ParsePrints'. -/
def parsePrintsUptoCard : Claim7 := { stood := { row := parsePrintsUptoRow, standIns := [], harness := (true, "fe856689a437b72d0d9682c9f4d9bca03118744e82e96710ac6b8358cee642db"), looks := true }, kinds := [], alts := [], laidByText := true, laidKinds := [.data, .data, .data, .data, .data, .pinned], laidTests := true, laidLooks := .later }
def ParsePrintsUptoCardSaid : Prop := Claim7.holds Tryz.pinned (.plain (OpenSpec.upto parsePrintsSpec)) parsePrintsUptoCard

/-- THE SECOND FORM's CARD OF 'turnpikelaw11.ParseBack'. -/
def parseBackUptoCard : Claim7 := { stood := { row := parseBackUptoRow, standIns := [], harness := (true, "fe856689a437b72d0d9682c9f4d9bca03118744e82e96710ac6b8358cee642db"), looks := true }, kinds := [], alts := [], laidByText := true, laidKinds := [.data, .data, .data, .data, .data, .pinned], laidTests := true, laidLooks := .later }
def ParseBackUptoCardSaid : Prop := Claim7.holds Tryz.pinned (.plain (OpenSpec.upto parseBackSpec)) parseBackUptoCard

/-- THE SECOND FORM's CARD OF 'turnpikelaw11.ParseRow'. -/
def parseRowUptoCard : Claim7 := { stood := { row := parseRowUptoRow, standIns := [], harness := (true, "fe856689a437b72d0d9682c9f4d9bca03118744e82e96710ac6b8358cee642db"), looks := true }, kinds := [], alts := [], laidByText := true, laidKinds := [.data, .data, .data, .data, .data, .pinned], laidTests := true, laidLooks := .later }
def ParseRowUptoCardSaid : Prop := Claim7.holds Tryz.pinned (.plain (OpenSpec.upto parseRowSpec)) parseRowUptoCard
end Rows
end Go.Proofs.YtnnhdehmlkkfjaaGreatDoor
