/-
  DERIVED. GIVEN WITH THE SEED: THE CARDS: each row of YtimhofphmgehgaaDoorRows.lean that lists a variable, with what it lists TIED to the program's text (the seventh form; the later family's looks); each row that meets fmt, with fmt's text TOLD by the authors' own Lean function (tested against real Go, not proved from fmt's source: count such statements apart). THE CARD IS WHAT COUNTS. Prove the row's statement (the work); the ties are given (YtimhofphmgehgaaDoorTie.lean); close each card by the builder's one call (the guide's Derived/Test/ToyasCard.lean, 'card_holds'). Laid BY PROGRAM, IN A SANDBOX (cutbox-door.mjs). By AI agents, Wed Nov 11 2026. No macro, syntax, notation, axiom, sorry.
-/
import Derived.Test.YtimhofphmgehgaaDoorRows
import GoSem.ClaimSeven
namespace Go.Proofs.YtimhofphmgehgaaDoor
namespace Rows

/-- THE TIED CARD OF 'turnpikelaw10.ChunkSizes'. -/
def chunkSizesCard : Claim7 := { stood := { row := chunkSizesRow, standIns := [], harness := (true, "1a8e87d6fd58fe13c5528d7bf754ec569dfbb33786fa283c2975216020c2dec0"), looks := false }, kinds := [], alts := [], laidByText := true, laidKinds := [.data, .data, .pinned], laidTests := true, laidLooks := .later }
def ChunkSizesCardSaid : Prop := Claim7.holds Tryd.pinned (.plain (OpenSpec.ofChange chunkSizesSpec)) chunkSizesCard

/-- THE TIED CARD OF 'turnpikelaw10.ChunkTrails'. -/
def chunkTrailsCard : Claim7 := { stood := { row := chunkTrailsRow, standIns := [], harness := (true, "1a8e87d6fd58fe13c5528d7bf754ec569dfbb33786fa283c2975216020c2dec0"), looks := false }, kinds := [], alts := [], laidByText := true, laidKinds := [.data, .data, .pinned], laidTests := true, laidLooks := .later }
def ChunkTrailsCardSaid : Prop := Claim7.holds Tryd.pinned (.plain (OpenSpec.ofChange chunkTrailsSpec)) chunkTrailsCard

/-- THE TIED CARD OF 'turnpikelaw10.ChunkDecodes'. -/
def chunkDecodesCard : Claim7 := { stood := { row := chunkDecodesRow, standIns := [], harness := (true, "1a8e87d6fd58fe13c5528d7bf754ec569dfbb33786fa283c2975216020c2dec0"), looks := false }, kinds := [], alts := [], laidByText := true, laidKinds := [.data, .data, .pinned], laidTests := true, laidLooks := .later }
def ChunkDecodesCardSaid : Prop := Claim7.holds Tryd.pinned (.plain (OpenSpec.ofChange chunkDecodesSpec)) chunkDecodesCard

/-- THE TIED CARD OF 'turnpikelaw10.ChunkFeeds'. -/
def chunkFeedsCard : Claim7 := { stood := { row := chunkFeedsRow, standIns := [], harness := (true, "1a8e87d6fd58fe13c5528d7bf754ec569dfbb33786fa283c2975216020c2dec0"), looks := false }, kinds := [], alts := [], laidByText := true, laidKinds := [.data, .data, .pinned], laidTests := true, laidLooks := .later }
def ChunkFeedsCardSaid : Prop := Claim7.holds Tryd.pinned (.plain (OpenSpec.ofChange chunkFeedsSpec)) chunkFeedsCard

/-- THE TIED CARD OF 'turnpikelaw10.ChunkTwo'. -/
def chunkTwoCard : Claim7 := { stood := { row := chunkTwoRow, standIns := [], harness := (true, "1a8e87d6fd58fe13c5528d7bf754ec569dfbb33786fa283c2975216020c2dec0"), looks := false }, kinds := [], alts := [], laidByText := true, laidKinds := [.data, .data, .pinned], laidTests := true, laidLooks := .later }
def ChunkTwoCardSaid : Prop := Claim7.holds Tryd.pinned (.plain (OpenSpec.ofChange chunkTwoSpec)) chunkTwoCard

/-- THE TIED CARD OF 'turnpikelaw10.ChunkCuts'. -/
def chunkCutsCard : Claim7 := { stood := { row := chunkCutsRow, standIns := [], harness := (true, "1a8e87d6fd58fe13c5528d7bf754ec569dfbb33786fa283c2975216020c2dec0"), looks := false }, kinds := [], alts := [], laidByText := true, laidKinds := [.data, .data, .pinned], laidTests := true, laidLooks := .later }
def ChunkCutsCardSaid : Prop := Claim7.holds Tryd.pinned (.plain (OpenSpec.ofChange chunkCutsSpec)) chunkCutsCard

/-- THE TIED CARD OF 'turnpikelaw10.ChunkPrints'. -/
def chunkPrintsCard : Claim7 := { stood := { row := chunkPrintsRow, standIns := [], harness := (true, "1a8e87d6fd58fe13c5528d7bf754ec569dfbb33786fa283c2975216020c2dec0"), looks := false }, kinds := [], alts := [], laidByText := true, laidKinds := [.data, .data, .data, .data, .data, .pinned], laidTests := true, laidLooks := .later }
def ChunkPrintsCardSaid : Prop := Claim7.holds Tryd.pinned (.plain (OpenSpec.ofChange chunkPrintsSpec)) chunkPrintsCard

/-- THE TIED CARD OF 'turnpikelaw10.ChunkEncodes'. -/
def chunkEncodesCard : Claim7 := { stood := { row := chunkEncodesRow, standIns := [], harness := (true, "1a8e87d6fd58fe13c5528d7bf754ec569dfbb33786fa283c2975216020c2dec0"), looks := false }, kinds := [], alts := [], laidByText := true, laidKinds := [.data, .data, .data, .data, .data, .pinned], laidTests := true, laidLooks := .later }
def ChunkEncodesCardSaid : Prop := Claim7.holds Tryd.pinned (.plain (OpenSpec.ofChange chunkEncodesSpec)) chunkEncodesCard

/-- THE TIED CARD OF 'turnpikelaw10.ChunkBack'. -/
def chunkBackCard : Claim7 := { stood := { row := chunkBackRow, standIns := [], harness := (true, "1a8e87d6fd58fe13c5528d7bf754ec569dfbb33786fa283c2975216020c2dec0"), looks := false }, kinds := [], alts := [], laidByText := true, laidKinds := [.data, .data, .data, .data, .data, .pinned], laidTests := true, laidLooks := .later }
def ChunkBackCardSaid : Prop := Claim7.holds Tryd.pinned (.plain (OpenSpec.ofChange chunkBackSpec)) chunkBackCard

/-- THE TIED CARD OF 'turnpikelaw10.ChunkOpen'. -/
def chunkOpenCard : Claim7 := { stood := { row := chunkOpenRow, standIns := [], harness := (true, "1a8e87d6fd58fe13c5528d7bf754ec569dfbb33786fa283c2975216020c2dec0"), looks := false }, kinds := [], alts := [], laidByText := true, laidKinds := [.data, .data, .data, .data, .data, .pinned], laidTests := true, laidLooks := .later }
def ChunkOpenCardSaid : Prop := Claim7.holds Tryd.pinned (.plain (OpenSpec.ofChange chunkOpenSpec)) chunkOpenCard

/-- THE TIED CARD OF 'turnpikelaw10.ChunkMost'. -/
def chunkMostCard : Claim7 := { stood := { row := chunkMostRow, standIns := [], harness := (true, "1a8e87d6fd58fe13c5528d7bf754ec569dfbb33786fa283c2975216020c2dec0"), looks := false }, kinds := [], alts := [], laidByText := true, laidKinds := [.data, .data, .data, .data, .data, .pinned], laidTests := true, laidLooks := .later }
def ChunkMostCardSaid : Prop := Claim7.holds Tryd.pinned (.plain (OpenSpec.ofChange chunkMostSpec)) chunkMostCard

/-- THE TIED CARD OF 'turnpikelaw10.ChunkMemory'. -/
def chunkMemoryCard : Claim7 := { stood := { row := chunkMemoryRow, standIns := [], harness := (true, "1a8e87d6fd58fe13c5528d7bf754ec569dfbb33786fa283c2975216020c2dec0"), looks := false }, kinds := [], alts := [], laidByText := true, laidKinds := [.data, .data, .data, .data, .data, .pinned], laidTests := true, laidLooks := .later }
def ChunkMemoryCardSaid : Prop := Claim7.holds Tryd.pinned (.plain (OpenSpec.ofChange chunkMemorySpec)) chunkMemoryCard

/-- THE SECOND FORM's CARD OF 'turnpikelaw10.ChunkSizes'. -/
def chunkSizesUptoCard : Claim7 := { stood := { row := chunkSizesUptoRow, standIns := [], harness := (true, "1a8e87d6fd58fe13c5528d7bf754ec569dfbb33786fa283c2975216020c2dec0"), looks := false }, kinds := [], alts := [], laidByText := true, laidKinds := [.data, .data, .pinned], laidTests := true, laidLooks := .later }
def ChunkSizesUptoCardSaid : Prop := Claim7.holds Tryd.pinned (.plain (OpenSpec.upto chunkSizesSpec)) chunkSizesUptoCard

/-- THE SECOND FORM's CARD OF 'turnpikelaw10.ChunkTrails'. -/
def chunkTrailsUptoCard : Claim7 := { stood := { row := chunkTrailsUptoRow, standIns := [], harness := (true, "1a8e87d6fd58fe13c5528d7bf754ec569dfbb33786fa283c2975216020c2dec0"), looks := false }, kinds := [], alts := [], laidByText := true, laidKinds := [.data, .data, .pinned], laidTests := true, laidLooks := .later }
def ChunkTrailsUptoCardSaid : Prop := Claim7.holds Tryd.pinned (.plain (OpenSpec.upto chunkTrailsSpec)) chunkTrailsUptoCard

/-- THE SECOND FORM's CARD OF 'turnpikelaw10.ChunkDecodes'. -/
def chunkDecodesUptoCard : Claim7 := { stood := { row := chunkDecodesUptoRow, standIns := [], harness := (true, "1a8e87d6fd58fe13c5528d7bf754ec569dfbb33786fa283c2975216020c2dec0"), looks := false }, kinds := [], alts := [], laidByText := true, laidKinds := [.data, .data, .pinned], laidTests := true, laidLooks := .later }
def ChunkDecodesUptoCardSaid : Prop := Claim7.holds Tryd.pinned (.plain (OpenSpec.upto chunkDecodesSpec)) chunkDecodesUptoCard

/-- THE SECOND FORM's CARD OF 'turnpikelaw10.ChunkFeeds'. -/
def chunkFeedsUptoCard : Claim7 := { stood := { row := chunkFeedsUptoRow, standIns := [], harness := (true, "1a8e87d6fd58fe13c5528d7bf754ec569dfbb33786fa283c2975216020c2dec0"), looks := false }, kinds := [], alts := [], laidByText := true, laidKinds := [.data, .data, .pinned], laidTests := true, laidLooks := .later }
def ChunkFeedsUptoCardSaid : Prop := Claim7.holds Tryd.pinned (.plain (OpenSpec.upto chunkFeedsSpec)) chunkFeedsUptoCard

/-- THE SECOND FORM's CARD OF 'turnpikelaw10.ChunkTwo'. -/
def chunkTwoUptoCard : Claim7 := { stood := { row := chunkTwoUptoRow, standIns := [], harness := (true, "1a8e87d6fd58fe13c5528d7bf754ec569dfbb33786fa283c2975216020c2dec0"), looks := false }, kinds := [], alts := [], laidByText := true, laidKinds := [.data, .data, .pinned], laidTests := true, laidLooks := .later }
def ChunkTwoUptoCardSaid : Prop := Claim7.holds Tryd.pinned (.plain (OpenSpec.upto chunkTwoSpec)) chunkTwoUptoCard

/-- THE SECOND FORM's CARD OF 'turnpikelaw10.ChunkCuts'. -/
def chunkCutsUptoCard : Claim7 := { stood := { row := chunkCutsUptoRow, standIns := [], harness := (true, "1a8e87d6fd58fe13c5528d7bf754ec569dfbb33786fa283c2975216020c2dec0"), looks := false }, kinds := [], alts := [], laidByText := true, laidKinds := [.data, .data, .pinned], laidTests := true, laidLooks := .later }
def ChunkCutsUptoCardSaid : Prop := Claim7.holds Tryd.pinned (.plain (OpenSpec.upto chunkCutsSpec)) chunkCutsUptoCard

/-- THE SECOND FORM's CARD OF 'turnpikelaw10.ChunkPrints'. -/
def chunkPrintsUptoCard : Claim7 := { stood := { row := chunkPrintsUptoRow, standIns := [], harness := (true, "1a8e87d6fd58fe13c5528d7bf754ec569dfbb33786fa283c2975216020c2dec0"), looks := false }, kinds := [], alts := [], laidByText := true, laidKinds := [.data, .data, .data, .data, .data, .pinned], laidTests := true, laidLooks := .later }
def ChunkPrintsUptoCardSaid : Prop := Claim7.holds Tryd.pinned (.plain (OpenSpec.upto chunkPrintsSpec)) chunkPrintsUptoCard

/-- THE SECOND FORM's CARD OF 'turnpikelaw10.ChunkEncodes'. -/
def chunkEncodesUptoCard : Claim7 := { stood := { row := chunkEncodesUptoRow, standIns := [], harness := (true, "1a8e87d6fd58fe13c5528d7bf754ec569dfbb33786fa283c2975216020c2dec0"), looks := false }, kinds := [], alts := [], laidByText := true, laidKinds := [.data, .data, .data, .data, .data, .pinned], laidTests := true, laidLooks := .later }
def ChunkEncodesUptoCardSaid : Prop := Claim7.holds Tryd.pinned (.plain (OpenSpec.upto chunkEncodesSpec)) chunkEncodesUptoCard

/-- THE SECOND FORM's CARD OF 'turnpikelaw10.ChunkBack'. -/
def chunkBackUptoCard : Claim7 := { stood := { row := chunkBackUptoRow, standIns := [], harness := (true, "1a8e87d6fd58fe13c5528d7bf754ec569dfbb33786fa283c2975216020c2dec0"), looks := false }, kinds := [], alts := [], laidByText := true, laidKinds := [.data, .data, .data, .data, .data, .pinned], laidTests := true, laidLooks := .later }
def ChunkBackUptoCardSaid : Prop := Claim7.holds Tryd.pinned (.plain (OpenSpec.upto chunkBackSpec)) chunkBackUptoCard

/-- THE SECOND FORM's CARD OF 'turnpikelaw10.ChunkOpen'. -/
def chunkOpenUptoCard : Claim7 := { stood := { row := chunkOpenUptoRow, standIns := [], harness := (true, "1a8e87d6fd58fe13c5528d7bf754ec569dfbb33786fa283c2975216020c2dec0"), looks := false }, kinds := [], alts := [], laidByText := true, laidKinds := [.data, .data, .data, .data, .data, .pinned], laidTests := true, laidLooks := .later }
def ChunkOpenUptoCardSaid : Prop := Claim7.holds Tryd.pinned (.plain (OpenSpec.upto chunkOpenSpec)) chunkOpenUptoCard

/-- THE SECOND FORM's CARD OF 'turnpikelaw10.ChunkMost'. -/
def chunkMostUptoCard : Claim7 := { stood := { row := chunkMostUptoRow, standIns := [], harness := (true, "1a8e87d6fd58fe13c5528d7bf754ec569dfbb33786fa283c2975216020c2dec0"), looks := false }, kinds := [], alts := [], laidByText := true, laidKinds := [.data, .data, .data, .data, .data, .pinned], laidTests := true, laidLooks := .later }
def ChunkMostUptoCardSaid : Prop := Claim7.holds Tryd.pinned (.plain (OpenSpec.upto chunkMostSpec)) chunkMostUptoCard

/-- THE SECOND FORM's CARD OF 'turnpikelaw10.ChunkMemory'. -/
def chunkMemoryUptoCard : Claim7 := { stood := { row := chunkMemoryUptoRow, standIns := [], harness := (true, "1a8e87d6fd58fe13c5528d7bf754ec569dfbb33786fa283c2975216020c2dec0"), looks := false }, kinds := [], alts := [], laidByText := true, laidKinds := [.data, .data, .data, .data, .data, .pinned], laidTests := true, laidLooks := .later }
def ChunkMemoryUptoCardSaid : Prop := Claim7.holds Tryd.pinned (.plain (OpenSpec.upto chunkMemorySpec)) chunkMemoryUptoCard
end Rows
end Go.Proofs.YtimhofphmgehgaaDoor
