/-
  NARROWER THAN 'FOR EVERY INPUT', by the rows' own cells (each row's printed sentence says how): ChunkSizes: laid · ChunkTrails: laid · ChunkDecodes: laid · ChunkFeeds: laid · ChunkTwo: laid · ChunkCuts: laid · ChunkPrints: laid · ChunkEncodes: laid · ChunkBack: laid · ChunkOpen: laid · ChunkMost: laid · ChunkMemory: laid.
  DERIVED. THE GIVEN ROWS OF THIS SEAT. 12 by the template 'for every input the law returns true; each argument reads behind the call as it read before'; 0 by the template 'total and deterministic' (their statements: YtimhofphmgehgaaDoorTotals.lean).
  GIVEN WITH THE SEED: the statements are not yours to turn. If you find one false, say at which input.
  Laid BY PROGRAM, IN A SANDBOX (cutbox-rows.mjs): the forced cells as the released guide's own fill.sh prints them over the translation 3512be235610fb96… (all of the seat's roots in one cut). By AI agents, Wed Nov 11 2026. No macro, syntax, notation, axiom, sorry.
-/
import Derived.Test.YtimhofphmgehgaaDoorChecked
import GoSem.PinnedTables
import GoSem.Claim
import GoSem.ClaimJoined
import GoSem.ClaimMapViews
import Derived.JoinedTies
import Derived.KernelRfl
namespace Go.Proofs.YtimhofphmgehgaaDoor
/- THE CELL 'sum', in the pinned program and in every row, IS THE sha256 OF THE DUMP (.gsa) THAT YtimhofphmgehgaaDoorProg.lean LOADS. Nothing in Lean hashes anything: it is a label: what it is worth is what the hold of that sum in a sandbox is worth. -/
noncomputable def Tryd.pinned : Pinned := { name := "ytimhofphmgehgaadoor", sum := "3512be235610fb96a2e6cecbe6ece685c8e3dd9cf68ecf1fd7f61603537f94e3", checked := Tryd.checked }
namespace Rows
def none {H : Type} : Left H := { results := [], args := [] }

/- WHAT THE LISTED PACKAGE-LEVEL VARIABLES READ AS WHEN THE CALL BEGINS. Each datum BY PROGRAM (the guide's laid-datum.mjs) off the statement by which the dump's own 'gosem.cut.vars' lays the variable. In a bare row this is a premise. The card (YtimhofphmgehgaaDoorCards.lean) ties it to the program's text. -/
def laid_unicode_utf8_acceptRanges {H : Type} : DataW H := .agg [.agg [.lit (.int .u8 128), .lit (.int .u8 191)], .agg [.lit (.int .u8 160), .lit (.int .u8 191)], .agg [.lit (.int .u8 128), .lit (.int .u8 159)], .agg [.lit (.int .u8 144), .lit (.int .u8 191)], .agg [.lit (.int .u8 128), .lit (.int .u8 143)], .agg [.lit (.int .u8 0), .lit (.int .u8 0)], .agg [.lit (.int .u8 0), .lit (.int .u8 0)], .agg [.lit (.int .u8 0), .lit (.int .u8 0)], .agg [.lit (.int .u8 0), .lit (.int .u8 0)], .agg [.lit (.int .u8 0), .lit (.int .u8 0)], .agg [.lit (.int .u8 0), .lit (.int .u8 0)], .agg [.lit (.int .u8 0), .lit (.int .u8 0)], .agg [.lit (.int .u8 0), .lit (.int .u8 0)], .agg [.lit (.int .u8 0), .lit (.int .u8 0)], .agg [.lit (.int .u8 0), .lit (.int .u8 0)], .agg [.lit (.int .u8 0), .lit (.int .u8 0)]]
def laid_turnpike_octet_signs {H : Type} : DataW H := .agg [.lit (.int .u32 0), .lit (.int .u32 67071226), .lit (.int .u32 3355443198), .lit (.int .u32 1476395007)]
/-- One of Go's own tables, pinned by name: the form's constant. -/
def laid_unicode_utf8_first : DataW Unit := Go.Pinned.utf8First
def laid_math_bits_deBruijn32tab {H : Type} : DataW H := .agg [.lit (.int .u8 0), .lit (.int .u8 1), .lit (.int .u8 28), .lit (.int .u8 2), .lit (.int .u8 29), .lit (.int .u8 14), .lit (.int .u8 24), .lit (.int .u8 3), .lit (.int .u8 30), .lit (.int .u8 22), .lit (.int .u8 20), .lit (.int .u8 15), .lit (.int .u8 25), .lit (.int .u8 17), .lit (.int .u8 4), .lit (.int .u8 8), .lit (.int .u8 31), .lit (.int .u8 27), .lit (.int .u8 13), .lit (.int .u8 23), .lit (.int .u8 21), .lit (.int .u8 19), .lit (.int .u8 16), .lit (.int .u8 7), .lit (.int .u8 26), .lit (.int .u8 12), .lit (.int .u8 18), .lit (.int .u8 6), .lit (.int .u8 11), .lit (.int .u8 5), .lit (.int .u8 10), .lit (.int .u8 9)]
def laid_math_bits_deBruijn64tab {H : Type} : DataW H := .agg [.lit (.int .u8 0), .lit (.int .u8 1), .lit (.int .u8 56), .lit (.int .u8 2), .lit (.int .u8 57), .lit (.int .u8 49), .lit (.int .u8 28), .lit (.int .u8 3), .lit (.int .u8 61), .lit (.int .u8 58), .lit (.int .u8 42), .lit (.int .u8 50), .lit (.int .u8 38), .lit (.int .u8 29), .lit (.int .u8 17), .lit (.int .u8 4), .lit (.int .u8 62), .lit (.int .u8 47), .lit (.int .u8 59), .lit (.int .u8 36), .lit (.int .u8 45), .lit (.int .u8 43), .lit (.int .u8 51), .lit (.int .u8 22), .lit (.int .u8 53), .lit (.int .u8 39), .lit (.int .u8 33), .lit (.int .u8 30), .lit (.int .u8 24), .lit (.int .u8 18), .lit (.int .u8 12), .lit (.int .u8 5), .lit (.int .u8 63), .lit (.int .u8 55), .lit (.int .u8 48), .lit (.int .u8 27), .lit (.int .u8 60), .lit (.int .u8 41), .lit (.int .u8 37), .lit (.int .u8 16), .lit (.int .u8 46), .lit (.int .u8 35), .lit (.int .u8 44), .lit (.int .u8 21), .lit (.int .u8 52), .lit (.int .u8 32), .lit (.int .u8 23), .lit (.int .u8 11), .lit (.int .u8 54), .lit (.int .u8 26), .lit (.int .u8 40), .lit (.int .u8 15), .lit (.int .u8 34), .lit (.int .u8 20), .lit (.int .u8 31), .lit (.int .u8 10), .lit (.int .u8 25), .lit (.int .u8 14), .lit (.int .u8 19), .lit (.int .u8 9), .lit (.int .u8 13), .lit (.int .u8 8), .lit (.int .u8 7), .lit (.int .u8 6)]
def laid_internal_strconv_uint64pow10 {H : Type} : DataW H := .agg [.lit (.int .u64 1), .lit (.int .u64 10), .lit (.int .u64 100), .lit (.int .u64 1000), .lit (.int .u64 10000), .lit (.int .u64 100000), .lit (.int .u64 1000000), .lit (.int .u64 10000000), .lit (.int .u64 100000000), .lit (.int .u64 1000000000), .lit (.int .u64 10000000000), .lit (.int .u64 100000000000), .lit (.int .u64 1000000000000), .lit (.int .u64 10000000000000), .lit (.int .u64 100000000000000), .lit (.int .u64 1000000000000000), .lit (.int .u64 10000000000000000), .lit (.int .u64 100000000000000000), .lit (.int .u64 1000000000000000000), .lit (.int .u64 10000000000000000000)]

/-- 'turnpikelaw10.ChunkSizes': WHATEVER THE INPUT: true; the input reads as it did. -/
def chunkSizesSpec : ChangeSpec := { name := "chunkSizes", fn := fun _ => fun
  | [d] => { results := [.lit (.bool true)], args := [d] }
  | _ => none }
def chunkSizesRow : OpenClaim := { program := "ytimhofphmgehgaadoor", sum := "3512be235610fb96a2e6cecbe6ece685c8e3dd9cf68ecf1fd7f61603537f94e3", func := "turnpike/turnpikelaw10.ChunkSizes", spec := "chunkSizes", inPlace := ["internal/bytealg.IndexByteString", "internal/abi.NoEscape", "internal/bytealg.IndexString"], unfollowed := true, recurses := true, named := ["turnpike/octet.signs", "unicode/utf8.first", "unicode/utf8.acceptRanges", "internal/bytealg.MaxLen"], apart := false, laid := [("unicode/utf8.acceptRanges", laid_unicode_utf8_acceptRanges), ("turnpike/octet.signs", laid_turnpike_octet_signs), ("unicode/utf8.first", laid_unicode_utf8_first)] }
def ChunkSizesSaid : Prop := chunkSizesRow.holds Tryd.pinned (OpenSpec.ofChange chunkSizesSpec)

/-- ITS FALSE NEIGHBOUR: 'it returns false'. Refute it at one input. -/
def chunkSizesWrong : ChangeSpec := { name := "chunkSizes", fn := fun _ => fun
  | [d] => { results := [.lit (.bool false)], args := [d] }
  | _ => none }
def ChunkSizesWrongFalsely : Prop := chunkSizesRow.holds Tryd.pinned (OpenSpec.ofChange chunkSizesWrong)

/-- 'turnpikelaw10.ChunkTrails': WHATEVER THE INPUT: true; the input reads as it did. -/
def chunkTrailsSpec : ChangeSpec := { name := "chunkTrails", fn := fun _ => fun
  | [d] => { results := [.lit (.bool true)], args := [d] }
  | _ => none }
def chunkTrailsRow : OpenClaim := { program := "ytimhofphmgehgaadoor", sum := "3512be235610fb96a2e6cecbe6ece685c8e3dd9cf68ecf1fd7f61603537f94e3", func := "turnpike/turnpikelaw10.ChunkTrails", spec := "chunkTrails", inPlace := ["internal/bytealg.IndexByteString", "internal/abi.NoEscape", "internal/bytealg.IndexString"], unfollowed := true, recurses := true, named := ["turnpike/octet.signs", "unicode/utf8.first", "unicode/utf8.acceptRanges", "internal/bytealg.MaxLen"], apart := false, laid := [("unicode/utf8.acceptRanges", laid_unicode_utf8_acceptRanges), ("turnpike/octet.signs", laid_turnpike_octet_signs), ("unicode/utf8.first", laid_unicode_utf8_first)] }
def ChunkTrailsSaid : Prop := chunkTrailsRow.holds Tryd.pinned (OpenSpec.ofChange chunkTrailsSpec)

/-- ITS FALSE NEIGHBOUR: 'it returns false'. Refute it at one input. -/
def chunkTrailsWrong : ChangeSpec := { name := "chunkTrails", fn := fun _ => fun
  | [d] => { results := [.lit (.bool false)], args := [d] }
  | _ => none }
def ChunkTrailsWrongFalsely : Prop := chunkTrailsRow.holds Tryd.pinned (OpenSpec.ofChange chunkTrailsWrong)

/-- 'turnpikelaw10.ChunkDecodes': WHATEVER THE INPUT: true; the input reads as it did. -/
def chunkDecodesSpec : ChangeSpec := { name := "chunkDecodes", fn := fun _ => fun
  | [d1, d2] => { results := [.lit (.bool true)], args := [d1, d2] }
  | _ => none }
def chunkDecodesRow : OpenClaim := { program := "ytimhofphmgehgaadoor", sum := "3512be235610fb96a2e6cecbe6ece685c8e3dd9cf68ecf1fd7f61603537f94e3", func := "turnpike/turnpikelaw10.ChunkDecodes", spec := "chunkDecodes", inPlace := ["internal/bytealg.IndexByteString", "internal/abi.NoEscape", "internal/bytealg.IndexString"], unfollowed := true, recurses := true, named := ["turnpike/octet.signs", "unicode/utf8.first", "unicode/utf8.acceptRanges", "internal/bytealg.MaxLen"], apart := false, laid := [("unicode/utf8.acceptRanges", laid_unicode_utf8_acceptRanges), ("turnpike/octet.signs", laid_turnpike_octet_signs), ("unicode/utf8.first", laid_unicode_utf8_first)] }
def ChunkDecodesSaid : Prop := chunkDecodesRow.holds Tryd.pinned (OpenSpec.ofChange chunkDecodesSpec)

/-- ITS FALSE NEIGHBOUR: 'it returns false'. Refute it at one input. -/
def chunkDecodesWrong : ChangeSpec := { name := "chunkDecodes", fn := fun _ => fun
  | [d1, d2] => { results := [.lit (.bool false)], args := [d1, d2] }
  | _ => none }
def ChunkDecodesWrongFalsely : Prop := chunkDecodesRow.holds Tryd.pinned (OpenSpec.ofChange chunkDecodesWrong)

/-- 'turnpikelaw10.ChunkFeeds': WHATEVER THE INPUT: true; the input reads as it did. -/
def chunkFeedsSpec : ChangeSpec := { name := "chunkFeeds", fn := fun _ => fun
  | [d1, d2] => { results := [.lit (.bool true)], args := [d1, d2] }
  | _ => none }
def chunkFeedsRow : OpenClaim := { program := "ytimhofphmgehgaadoor", sum := "3512be235610fb96a2e6cecbe6ece685c8e3dd9cf68ecf1fd7f61603537f94e3", func := "turnpike/turnpikelaw10.ChunkFeeds", spec := "chunkFeeds", inPlace := ["internal/bytealg.IndexByteString", "internal/abi.NoEscape", "internal/bytealg.IndexString"], unfollowed := true, recurses := true, named := ["turnpike/octet.signs", "unicode/utf8.first", "unicode/utf8.acceptRanges", "internal/bytealg.MaxLen"], apart := false, laid := [("unicode/utf8.acceptRanges", laid_unicode_utf8_acceptRanges), ("turnpike/octet.signs", laid_turnpike_octet_signs), ("unicode/utf8.first", laid_unicode_utf8_first)] }
def ChunkFeedsSaid : Prop := chunkFeedsRow.holds Tryd.pinned (OpenSpec.ofChange chunkFeedsSpec)

/-- ITS FALSE NEIGHBOUR: 'it returns false'. Refute it at one input. -/
def chunkFeedsWrong : ChangeSpec := { name := "chunkFeeds", fn := fun _ => fun
  | [d1, d2] => { results := [.lit (.bool false)], args := [d1, d2] }
  | _ => none }
def ChunkFeedsWrongFalsely : Prop := chunkFeedsRow.holds Tryd.pinned (OpenSpec.ofChange chunkFeedsWrong)

/-- 'turnpikelaw10.ChunkTwo': WHATEVER THE INPUT: true; the input reads as it did. -/
def chunkTwoSpec : ChangeSpec := { name := "chunkTwo", fn := fun _ => fun
  | [d1, d2, d3] => { results := [.lit (.bool true)], args := [d1, d2, d3] }
  | _ => none }
def chunkTwoRow : OpenClaim := { program := "ytimhofphmgehgaadoor", sum := "3512be235610fb96a2e6cecbe6ece685c8e3dd9cf68ecf1fd7f61603537f94e3", func := "turnpike/turnpikelaw10.ChunkTwo", spec := "chunkTwo", inPlace := ["internal/bytealg.IndexByteString", "internal/abi.NoEscape", "internal/bytealg.IndexString"], unfollowed := true, recurses := true, named := ["turnpike/octet.signs", "unicode/utf8.first", "unicode/utf8.acceptRanges", "internal/bytealg.MaxLen"], apart := false, laid := [("unicode/utf8.acceptRanges", laid_unicode_utf8_acceptRanges), ("turnpike/octet.signs", laid_turnpike_octet_signs), ("unicode/utf8.first", laid_unicode_utf8_first)] }
def ChunkTwoSaid : Prop := chunkTwoRow.holds Tryd.pinned (OpenSpec.ofChange chunkTwoSpec)

/-- ITS FALSE NEIGHBOUR: 'it returns false'. Refute it at one input. -/
def chunkTwoWrong : ChangeSpec := { name := "chunkTwo", fn := fun _ => fun
  | [d1, d2, d3] => { results := [.lit (.bool false)], args := [d1, d2, d3] }
  | _ => none }
def ChunkTwoWrongFalsely : Prop := chunkTwoRow.holds Tryd.pinned (OpenSpec.ofChange chunkTwoWrong)

/-- 'turnpikelaw10.ChunkCuts': WHATEVER THE INPUT: true; the input reads as it did. -/
def chunkCutsSpec : ChangeSpec := { name := "chunkCuts", fn := fun _ => fun
  | [d1, d2, d3] => { results := [.lit (.bool true)], args := [d1, d2, d3] }
  | _ => none }
def chunkCutsRow : OpenClaim := { program := "ytimhofphmgehgaadoor", sum := "3512be235610fb96a2e6cecbe6ece685c8e3dd9cf68ecf1fd7f61603537f94e3", func := "turnpike/turnpikelaw10.ChunkCuts", spec := "chunkCuts", inPlace := ["internal/bytealg.IndexByteString", "internal/abi.NoEscape", "internal/bytealg.IndexString"], unfollowed := true, recurses := true, named := ["turnpike/octet.signs", "unicode/utf8.first", "unicode/utf8.acceptRanges", "internal/bytealg.MaxLen"], apart := false, laid := [("unicode/utf8.acceptRanges", laid_unicode_utf8_acceptRanges), ("turnpike/octet.signs", laid_turnpike_octet_signs), ("unicode/utf8.first", laid_unicode_utf8_first)] }
def ChunkCutsSaid : Prop := chunkCutsRow.holds Tryd.pinned (OpenSpec.ofChange chunkCutsSpec)

/-- ITS FALSE NEIGHBOUR: 'it returns false'. Refute it at one input. -/
def chunkCutsWrong : ChangeSpec := { name := "chunkCuts", fn := fun _ => fun
  | [d1, d2, d3] => { results := [.lit (.bool false)], args := [d1, d2, d3] }
  | _ => none }
def ChunkCutsWrongFalsely : Prop := chunkCutsRow.holds Tryd.pinned (OpenSpec.ofChange chunkCutsWrong)

/-- 'turnpikelaw10.ChunkPrints': WHATEVER THE INPUT: true; the input reads as it did. -/
def chunkPrintsSpec : ChangeSpec := { name := "chunkPrints", fn := fun _ => fun
  | [d1, d2] => { results := [.lit (.bool true)], args := [d1, d2] }
  | _ => none }
def chunkPrintsRow : OpenClaim := { program := "ytimhofphmgehgaadoor", sum := "3512be235610fb96a2e6cecbe6ece685c8e3dd9cf68ecf1fd7f61603537f94e3", func := "turnpike/turnpikelaw10.ChunkPrints", spec := "chunkPrints", inPlace := ["internal/bytealg.IndexByteString", "internal/abi.NoEscape", "internal/bytealg.IndexString"], unfollowed := true, recurses := true, named := ["turnpike/octet.signs", "unicode/utf8.first", "unicode/utf8.acceptRanges", "internal/strconv.uint64pow10", "math/bits.deBruijn32tab", "math/bits.deBruijn64tab", "internal/bytealg.MaxLen"], apart := false, laid := [("math/bits.deBruijn32tab", laid_math_bits_deBruijn32tab), ("math/bits.deBruijn64tab", laid_math_bits_deBruijn64tab), ("internal/strconv.uint64pow10", laid_internal_strconv_uint64pow10), ("unicode/utf8.acceptRanges", laid_unicode_utf8_acceptRanges), ("turnpike/octet.signs", laid_turnpike_octet_signs), ("unicode/utf8.first", laid_unicode_utf8_first)] }
def ChunkPrintsSaid : Prop := chunkPrintsRow.holds Tryd.pinned (OpenSpec.ofChange chunkPrintsSpec)

/-- ITS FALSE NEIGHBOUR: 'it returns false'. Refute it at one input. -/
def chunkPrintsWrong : ChangeSpec := { name := "chunkPrints", fn := fun _ => fun
  | [d1, d2] => { results := [.lit (.bool false)], args := [d1, d2] }
  | _ => none }
def ChunkPrintsWrongFalsely : Prop := chunkPrintsRow.holds Tryd.pinned (OpenSpec.ofChange chunkPrintsWrong)

/-- 'turnpikelaw10.ChunkEncodes': WHATEVER THE INPUT: true; the input reads as it did. -/
def chunkEncodesSpec : ChangeSpec := { name := "chunkEncodes", fn := fun _ => fun
  | [d1, d2, d3] => { results := [.lit (.bool true)], args := [d1, d2, d3] }
  | _ => none }
def chunkEncodesRow : OpenClaim := { program := "ytimhofphmgehgaadoor", sum := "3512be235610fb96a2e6cecbe6ece685c8e3dd9cf68ecf1fd7f61603537f94e3", func := "turnpike/turnpikelaw10.ChunkEncodes", spec := "chunkEncodes", inPlace := ["internal/bytealg.IndexByteString", "internal/abi.NoEscape", "internal/bytealg.IndexString"], unfollowed := true, recurses := true, named := ["turnpike/octet.signs", "unicode/utf8.first", "unicode/utf8.acceptRanges", "internal/strconv.uint64pow10", "math/bits.deBruijn32tab", "math/bits.deBruijn64tab", "internal/bytealg.MaxLen"], apart := false, laid := [("math/bits.deBruijn32tab", laid_math_bits_deBruijn32tab), ("math/bits.deBruijn64tab", laid_math_bits_deBruijn64tab), ("internal/strconv.uint64pow10", laid_internal_strconv_uint64pow10), ("unicode/utf8.acceptRanges", laid_unicode_utf8_acceptRanges), ("turnpike/octet.signs", laid_turnpike_octet_signs), ("unicode/utf8.first", laid_unicode_utf8_first)] }
def ChunkEncodesSaid : Prop := chunkEncodesRow.holds Tryd.pinned (OpenSpec.ofChange chunkEncodesSpec)

/-- ITS FALSE NEIGHBOUR: 'it returns false'. Refute it at one input. -/
def chunkEncodesWrong : ChangeSpec := { name := "chunkEncodes", fn := fun _ => fun
  | [d1, d2, d3] => { results := [.lit (.bool false)], args := [d1, d2, d3] }
  | _ => none }
def ChunkEncodesWrongFalsely : Prop := chunkEncodesRow.holds Tryd.pinned (OpenSpec.ofChange chunkEncodesWrong)

/-- 'turnpikelaw10.ChunkBack': WHATEVER THE INPUT: true; the input reads as it did. -/
def chunkBackSpec : ChangeSpec := { name := "chunkBack", fn := fun _ => fun
  | [d1, d2] => { results := [.lit (.bool true)], args := [d1, d2] }
  | _ => none }
def chunkBackRow : OpenClaim := { program := "ytimhofphmgehgaadoor", sum := "3512be235610fb96a2e6cecbe6ece685c8e3dd9cf68ecf1fd7f61603537f94e3", func := "turnpike/turnpikelaw10.ChunkBack", spec := "chunkBack", inPlace := ["internal/bytealg.IndexByteString", "internal/abi.NoEscape", "internal/bytealg.IndexString"], unfollowed := true, recurses := true, named := ["turnpike/octet.signs", "unicode/utf8.first", "unicode/utf8.acceptRanges", "internal/strconv.uint64pow10", "math/bits.deBruijn32tab", "math/bits.deBruijn64tab", "internal/bytealg.MaxLen"], apart := false, laid := [("math/bits.deBruijn32tab", laid_math_bits_deBruijn32tab), ("math/bits.deBruijn64tab", laid_math_bits_deBruijn64tab), ("internal/strconv.uint64pow10", laid_internal_strconv_uint64pow10), ("unicode/utf8.acceptRanges", laid_unicode_utf8_acceptRanges), ("turnpike/octet.signs", laid_turnpike_octet_signs), ("unicode/utf8.first", laid_unicode_utf8_first)] }
def ChunkBackSaid : Prop := chunkBackRow.holds Tryd.pinned (OpenSpec.ofChange chunkBackSpec)

/-- ITS FALSE NEIGHBOUR: 'it returns false'. Refute it at one input. -/
def chunkBackWrong : ChangeSpec := { name := "chunkBack", fn := fun _ => fun
  | [d1, d2] => { results := [.lit (.bool false)], args := [d1, d2] }
  | _ => none }
def ChunkBackWrongFalsely : Prop := chunkBackRow.holds Tryd.pinned (OpenSpec.ofChange chunkBackWrong)

/-- 'turnpikelaw10.ChunkOpen': WHATEVER THE INPUT: true; the input reads as it did. -/
def chunkOpenSpec : ChangeSpec := { name := "chunkOpen", fn := fun _ => fun
  | [d1, d2] => { results := [.lit (.bool true)], args := [d1, d2] }
  | _ => none }
def chunkOpenRow : OpenClaim := { program := "ytimhofphmgehgaadoor", sum := "3512be235610fb96a2e6cecbe6ece685c8e3dd9cf68ecf1fd7f61603537f94e3", func := "turnpike/turnpikelaw10.ChunkOpen", spec := "chunkOpen", inPlace := ["internal/bytealg.IndexByteString", "internal/abi.NoEscape", "internal/bytealg.IndexString"], unfollowed := true, recurses := true, named := ["turnpike/octet.signs", "unicode/utf8.first", "unicode/utf8.acceptRanges", "internal/strconv.uint64pow10", "math/bits.deBruijn32tab", "math/bits.deBruijn64tab", "internal/bytealg.MaxLen"], apart := false, laid := [("math/bits.deBruijn32tab", laid_math_bits_deBruijn32tab), ("math/bits.deBruijn64tab", laid_math_bits_deBruijn64tab), ("internal/strconv.uint64pow10", laid_internal_strconv_uint64pow10), ("unicode/utf8.acceptRanges", laid_unicode_utf8_acceptRanges), ("turnpike/octet.signs", laid_turnpike_octet_signs), ("unicode/utf8.first", laid_unicode_utf8_first)] }
def ChunkOpenSaid : Prop := chunkOpenRow.holds Tryd.pinned (OpenSpec.ofChange chunkOpenSpec)

/-- ITS FALSE NEIGHBOUR: 'it returns false'. Refute it at one input. -/
def chunkOpenWrong : ChangeSpec := { name := "chunkOpen", fn := fun _ => fun
  | [d1, d2] => { results := [.lit (.bool false)], args := [d1, d2] }
  | _ => none }
def ChunkOpenWrongFalsely : Prop := chunkOpenRow.holds Tryd.pinned (OpenSpec.ofChange chunkOpenWrong)

/-- 'turnpikelaw10.ChunkMost': WHATEVER THE INPUT: true; the input reads as it did. -/
def chunkMostSpec : ChangeSpec := { name := "chunkMost", fn := fun _ => fun
  | [d1, d2] => { results := [.lit (.bool true)], args := [d1, d2] }
  | _ => none }
def chunkMostRow : OpenClaim := { program := "ytimhofphmgehgaadoor", sum := "3512be235610fb96a2e6cecbe6ece685c8e3dd9cf68ecf1fd7f61603537f94e3", func := "turnpike/turnpikelaw10.ChunkMost", spec := "chunkMost", inPlace := ["internal/bytealg.IndexByteString", "internal/abi.NoEscape", "internal/bytealg.IndexString"], unfollowed := true, recurses := true, named := ["turnpike/octet.signs", "unicode/utf8.first", "unicode/utf8.acceptRanges", "internal/strconv.uint64pow10", "math/bits.deBruijn32tab", "math/bits.deBruijn64tab", "internal/bytealg.MaxLen"], apart := false, laid := [("math/bits.deBruijn32tab", laid_math_bits_deBruijn32tab), ("math/bits.deBruijn64tab", laid_math_bits_deBruijn64tab), ("internal/strconv.uint64pow10", laid_internal_strconv_uint64pow10), ("unicode/utf8.acceptRanges", laid_unicode_utf8_acceptRanges), ("turnpike/octet.signs", laid_turnpike_octet_signs), ("unicode/utf8.first", laid_unicode_utf8_first)] }
def ChunkMostSaid : Prop := chunkMostRow.holds Tryd.pinned (OpenSpec.ofChange chunkMostSpec)

/-- ITS FALSE NEIGHBOUR: 'it returns false'. Refute it at one input. -/
def chunkMostWrong : ChangeSpec := { name := "chunkMost", fn := fun _ => fun
  | [d1, d2] => { results := [.lit (.bool false)], args := [d1, d2] }
  | _ => none }
def ChunkMostWrongFalsely : Prop := chunkMostRow.holds Tryd.pinned (OpenSpec.ofChange chunkMostWrong)

/-- 'turnpikelaw10.ChunkMemory': WHATEVER THE INPUT: true; the input reads as it did. -/
def chunkMemorySpec : ChangeSpec := { name := "chunkMemory", fn := fun _ => fun
  | [d] => { results := [.lit (.bool true)], args := [d] }
  | _ => none }
def chunkMemoryRow : OpenClaim := { program := "ytimhofphmgehgaadoor", sum := "3512be235610fb96a2e6cecbe6ece685c8e3dd9cf68ecf1fd7f61603537f94e3", func := "turnpike/turnpikelaw10.ChunkMemory", spec := "chunkMemory", inPlace := ["internal/bytealg.IndexByteString", "internal/abi.NoEscape", "internal/bytealg.IndexString"], unfollowed := true, recurses := true, named := ["turnpike/octet.signs", "unicode/utf8.first", "unicode/utf8.acceptRanges", "internal/strconv.uint64pow10", "math/bits.deBruijn32tab", "math/bits.deBruijn64tab", "internal/bytealg.MaxLen"], apart := false, laid := [("math/bits.deBruijn32tab", laid_math_bits_deBruijn32tab), ("math/bits.deBruijn64tab", laid_math_bits_deBruijn64tab), ("internal/strconv.uint64pow10", laid_internal_strconv_uint64pow10), ("unicode/utf8.acceptRanges", laid_unicode_utf8_acceptRanges), ("turnpike/octet.signs", laid_turnpike_octet_signs), ("unicode/utf8.first", laid_unicode_utf8_first)] }
def ChunkMemorySaid : Prop := chunkMemoryRow.holds Tryd.pinned (OpenSpec.ofChange chunkMemorySpec)

/-- ITS FALSE NEIGHBOUR: 'it returns false'. Refute it at one input. -/
def chunkMemoryWrong : ChangeSpec := { name := "chunkMemory", fn := fun _ => fun
  | [d] => { results := [.lit (.bool false)], args := [d] }
  | _ => none }
def ChunkMemoryWrongFalsely : Prop := chunkMemoryRow.holds Tryd.pinned (OpenSpec.ofChange chunkMemoryWrong)

/- THE SECOND FORM. 'bulk': how many values and letters a reading holds, each counted each time it is reached (what is shared counts as often as it is met; a slice's spare places count too). A statement '..UptoSaid' is the law's where the arguments, and the package variables that the reading takes, are together of bulk at most 1048576: NARROWER than '..Said'. Prove '..Said' where nothing that the law and all that it calls make is longer than what came in: it says more and counts as full. Else prove '..UptoSaid'. A law counts once. -/
mutual
def uptoBulk {H : Type} : DataW H → Nat
  | .lit (.string bytes) => bytes.length + 1
  | .lit _ => 1
  | .nil => 1
  | .ptr d => uptoBulk d + 1
  | .slice elems spare => uptoBulkAll elems + uptoBulkAll spare + 1
  | .agg parts => uptoBulkAll parts + 1
  | .iface _ d => uptoBulk d + 1
  | .map entries => uptoBulkEntries entries + 1
  | .held _ => 1
def uptoBulkAll {H : Type} : List (DataW H) → Nat
  | [] => 0
  | d :: r => uptoBulk d + uptoBulkAll r
def uptoBulkEntries {H : Type} : List (Lit × DataW H) → Nat
  | [] => 0
  | x :: r => uptoBulkEntry x + uptoBulkEntries r
def uptoBulkEntry {H : Type} : Lit × DataW H → Nat
  | (.string bytes, d) => bytes.length + uptoBulk d + 1
  | (_, d) => uptoBulk d + 1
 end
def uptoSmall : (H : Type) → List (DataW H) → Bool := fun _ ds => decide (uptoBulkAll ds ≤ 1048576)
def OpenSpec.upto (s : _root_.Go.ChangeSpec) : _root_.Go.OpenSpec := { _root_.Go.OpenSpec.ofChange s with cond := some uptoSmall }

/-- 'turnpikelaw10.ChunkSizes', WHERE WHAT IT READS IS OF BULK AT MOST 1048576: true; the input reads as it did. -/
def chunkSizesUptoRow : OpenClaim := { program := "ytimhofphmgehgaadoor", sum := "3512be235610fb96a2e6cecbe6ece685c8e3dd9cf68ecf1fd7f61603537f94e3", func := "turnpike/turnpikelaw10.ChunkSizes", spec := "chunkSizes", inPlace := ["internal/bytealg.IndexByteString", "internal/abi.NoEscape", "internal/bytealg.IndexString"], unfollowed := true, recurses := true, named := ["turnpike/octet.signs", "unicode/utf8.first", "unicode/utf8.acceptRanges", "internal/bytealg.MaxLen"], apart := false, laid := [("unicode/utf8.acceptRanges", laid_unicode_utf8_acceptRanges), ("turnpike/octet.signs", laid_turnpike_octet_signs), ("unicode/utf8.first", laid_unicode_utf8_first)], narrowed := true }
def ChunkSizesUptoSaid : Prop := chunkSizesUptoRow.holds Tryd.pinned (OpenSpec.upto chunkSizesSpec)

/-- 'turnpikelaw10.ChunkTrails', WHERE WHAT IT READS IS OF BULK AT MOST 1048576: true; the input reads as it did. -/
def chunkTrailsUptoRow : OpenClaim := { program := "ytimhofphmgehgaadoor", sum := "3512be235610fb96a2e6cecbe6ece685c8e3dd9cf68ecf1fd7f61603537f94e3", func := "turnpike/turnpikelaw10.ChunkTrails", spec := "chunkTrails", inPlace := ["internal/bytealg.IndexByteString", "internal/abi.NoEscape", "internal/bytealg.IndexString"], unfollowed := true, recurses := true, named := ["turnpike/octet.signs", "unicode/utf8.first", "unicode/utf8.acceptRanges", "internal/bytealg.MaxLen"], apart := false, laid := [("unicode/utf8.acceptRanges", laid_unicode_utf8_acceptRanges), ("turnpike/octet.signs", laid_turnpike_octet_signs), ("unicode/utf8.first", laid_unicode_utf8_first)], narrowed := true }
def ChunkTrailsUptoSaid : Prop := chunkTrailsUptoRow.holds Tryd.pinned (OpenSpec.upto chunkTrailsSpec)

/-- 'turnpikelaw10.ChunkDecodes', WHERE WHAT IT READS IS OF BULK AT MOST 1048576: true; the input reads as it did. -/
def chunkDecodesUptoRow : OpenClaim := { program := "ytimhofphmgehgaadoor", sum := "3512be235610fb96a2e6cecbe6ece685c8e3dd9cf68ecf1fd7f61603537f94e3", func := "turnpike/turnpikelaw10.ChunkDecodes", spec := "chunkDecodes", inPlace := ["internal/bytealg.IndexByteString", "internal/abi.NoEscape", "internal/bytealg.IndexString"], unfollowed := true, recurses := true, named := ["turnpike/octet.signs", "unicode/utf8.first", "unicode/utf8.acceptRanges", "internal/bytealg.MaxLen"], apart := false, laid := [("unicode/utf8.acceptRanges", laid_unicode_utf8_acceptRanges), ("turnpike/octet.signs", laid_turnpike_octet_signs), ("unicode/utf8.first", laid_unicode_utf8_first)], narrowed := true }
def ChunkDecodesUptoSaid : Prop := chunkDecodesUptoRow.holds Tryd.pinned (OpenSpec.upto chunkDecodesSpec)

/-- 'turnpikelaw10.ChunkFeeds', WHERE WHAT IT READS IS OF BULK AT MOST 1048576: true; the input reads as it did. -/
def chunkFeedsUptoRow : OpenClaim := { program := "ytimhofphmgehgaadoor", sum := "3512be235610fb96a2e6cecbe6ece685c8e3dd9cf68ecf1fd7f61603537f94e3", func := "turnpike/turnpikelaw10.ChunkFeeds", spec := "chunkFeeds", inPlace := ["internal/bytealg.IndexByteString", "internal/abi.NoEscape", "internal/bytealg.IndexString"], unfollowed := true, recurses := true, named := ["turnpike/octet.signs", "unicode/utf8.first", "unicode/utf8.acceptRanges", "internal/bytealg.MaxLen"], apart := false, laid := [("unicode/utf8.acceptRanges", laid_unicode_utf8_acceptRanges), ("turnpike/octet.signs", laid_turnpike_octet_signs), ("unicode/utf8.first", laid_unicode_utf8_first)], narrowed := true }
def ChunkFeedsUptoSaid : Prop := chunkFeedsUptoRow.holds Tryd.pinned (OpenSpec.upto chunkFeedsSpec)

/-- 'turnpikelaw10.ChunkTwo', WHERE WHAT IT READS IS OF BULK AT MOST 1048576: true; the input reads as it did. -/
def chunkTwoUptoRow : OpenClaim := { program := "ytimhofphmgehgaadoor", sum := "3512be235610fb96a2e6cecbe6ece685c8e3dd9cf68ecf1fd7f61603537f94e3", func := "turnpike/turnpikelaw10.ChunkTwo", spec := "chunkTwo", inPlace := ["internal/bytealg.IndexByteString", "internal/abi.NoEscape", "internal/bytealg.IndexString"], unfollowed := true, recurses := true, named := ["turnpike/octet.signs", "unicode/utf8.first", "unicode/utf8.acceptRanges", "internal/bytealg.MaxLen"], apart := false, laid := [("unicode/utf8.acceptRanges", laid_unicode_utf8_acceptRanges), ("turnpike/octet.signs", laid_turnpike_octet_signs), ("unicode/utf8.first", laid_unicode_utf8_first)], narrowed := true }
def ChunkTwoUptoSaid : Prop := chunkTwoUptoRow.holds Tryd.pinned (OpenSpec.upto chunkTwoSpec)

/-- 'turnpikelaw10.ChunkCuts', WHERE WHAT IT READS IS OF BULK AT MOST 1048576: true; the input reads as it did. -/
def chunkCutsUptoRow : OpenClaim := { program := "ytimhofphmgehgaadoor", sum := "3512be235610fb96a2e6cecbe6ece685c8e3dd9cf68ecf1fd7f61603537f94e3", func := "turnpike/turnpikelaw10.ChunkCuts", spec := "chunkCuts", inPlace := ["internal/bytealg.IndexByteString", "internal/abi.NoEscape", "internal/bytealg.IndexString"], unfollowed := true, recurses := true, named := ["turnpike/octet.signs", "unicode/utf8.first", "unicode/utf8.acceptRanges", "internal/bytealg.MaxLen"], apart := false, laid := [("unicode/utf8.acceptRanges", laid_unicode_utf8_acceptRanges), ("turnpike/octet.signs", laid_turnpike_octet_signs), ("unicode/utf8.first", laid_unicode_utf8_first)], narrowed := true }
def ChunkCutsUptoSaid : Prop := chunkCutsUptoRow.holds Tryd.pinned (OpenSpec.upto chunkCutsSpec)

/-- 'turnpikelaw10.ChunkPrints', WHERE WHAT IT READS IS OF BULK AT MOST 1048576: true; the input reads as it did. -/
def chunkPrintsUptoRow : OpenClaim := { program := "ytimhofphmgehgaadoor", sum := "3512be235610fb96a2e6cecbe6ece685c8e3dd9cf68ecf1fd7f61603537f94e3", func := "turnpike/turnpikelaw10.ChunkPrints", spec := "chunkPrints", inPlace := ["internal/bytealg.IndexByteString", "internal/abi.NoEscape", "internal/bytealg.IndexString"], unfollowed := true, recurses := true, named := ["turnpike/octet.signs", "unicode/utf8.first", "unicode/utf8.acceptRanges", "internal/strconv.uint64pow10", "math/bits.deBruijn32tab", "math/bits.deBruijn64tab", "internal/bytealg.MaxLen"], apart := false, laid := [("math/bits.deBruijn32tab", laid_math_bits_deBruijn32tab), ("math/bits.deBruijn64tab", laid_math_bits_deBruijn64tab), ("internal/strconv.uint64pow10", laid_internal_strconv_uint64pow10), ("unicode/utf8.acceptRanges", laid_unicode_utf8_acceptRanges), ("turnpike/octet.signs", laid_turnpike_octet_signs), ("unicode/utf8.first", laid_unicode_utf8_first)], narrowed := true }
def ChunkPrintsUptoSaid : Prop := chunkPrintsUptoRow.holds Tryd.pinned (OpenSpec.upto chunkPrintsSpec)

/-- 'turnpikelaw10.ChunkEncodes', WHERE WHAT IT READS IS OF BULK AT MOST 1048576: true; the input reads as it did. -/
def chunkEncodesUptoRow : OpenClaim := { program := "ytimhofphmgehgaadoor", sum := "3512be235610fb96a2e6cecbe6ece685c8e3dd9cf68ecf1fd7f61603537f94e3", func := "turnpike/turnpikelaw10.ChunkEncodes", spec := "chunkEncodes", inPlace := ["internal/bytealg.IndexByteString", "internal/abi.NoEscape", "internal/bytealg.IndexString"], unfollowed := true, recurses := true, named := ["turnpike/octet.signs", "unicode/utf8.first", "unicode/utf8.acceptRanges", "internal/strconv.uint64pow10", "math/bits.deBruijn32tab", "math/bits.deBruijn64tab", "internal/bytealg.MaxLen"], apart := false, laid := [("math/bits.deBruijn32tab", laid_math_bits_deBruijn32tab), ("math/bits.deBruijn64tab", laid_math_bits_deBruijn64tab), ("internal/strconv.uint64pow10", laid_internal_strconv_uint64pow10), ("unicode/utf8.acceptRanges", laid_unicode_utf8_acceptRanges), ("turnpike/octet.signs", laid_turnpike_octet_signs), ("unicode/utf8.first", laid_unicode_utf8_first)], narrowed := true }
def ChunkEncodesUptoSaid : Prop := chunkEncodesUptoRow.holds Tryd.pinned (OpenSpec.upto chunkEncodesSpec)

/-- 'turnpikelaw10.ChunkBack', WHERE WHAT IT READS IS OF BULK AT MOST 1048576: true; the input reads as it did. -/
def chunkBackUptoRow : OpenClaim := { program := "ytimhofphmgehgaadoor", sum := "3512be235610fb96a2e6cecbe6ece685c8e3dd9cf68ecf1fd7f61603537f94e3", func := "turnpike/turnpikelaw10.ChunkBack", spec := "chunkBack", inPlace := ["internal/bytealg.IndexByteString", "internal/abi.NoEscape", "internal/bytealg.IndexString"], unfollowed := true, recurses := true, named := ["turnpike/octet.signs", "unicode/utf8.first", "unicode/utf8.acceptRanges", "internal/strconv.uint64pow10", "math/bits.deBruijn32tab", "math/bits.deBruijn64tab", "internal/bytealg.MaxLen"], apart := false, laid := [("math/bits.deBruijn32tab", laid_math_bits_deBruijn32tab), ("math/bits.deBruijn64tab", laid_math_bits_deBruijn64tab), ("internal/strconv.uint64pow10", laid_internal_strconv_uint64pow10), ("unicode/utf8.acceptRanges", laid_unicode_utf8_acceptRanges), ("turnpike/octet.signs", laid_turnpike_octet_signs), ("unicode/utf8.first", laid_unicode_utf8_first)], narrowed := true }
def ChunkBackUptoSaid : Prop := chunkBackUptoRow.holds Tryd.pinned (OpenSpec.upto chunkBackSpec)

/-- 'turnpikelaw10.ChunkOpen', WHERE WHAT IT READS IS OF BULK AT MOST 1048576: true; the input reads as it did. -/
def chunkOpenUptoRow : OpenClaim := { program := "ytimhofphmgehgaadoor", sum := "3512be235610fb96a2e6cecbe6ece685c8e3dd9cf68ecf1fd7f61603537f94e3", func := "turnpike/turnpikelaw10.ChunkOpen", spec := "chunkOpen", inPlace := ["internal/bytealg.IndexByteString", "internal/abi.NoEscape", "internal/bytealg.IndexString"], unfollowed := true, recurses := true, named := ["turnpike/octet.signs", "unicode/utf8.first", "unicode/utf8.acceptRanges", "internal/strconv.uint64pow10", "math/bits.deBruijn32tab", "math/bits.deBruijn64tab", "internal/bytealg.MaxLen"], apart := false, laid := [("math/bits.deBruijn32tab", laid_math_bits_deBruijn32tab), ("math/bits.deBruijn64tab", laid_math_bits_deBruijn64tab), ("internal/strconv.uint64pow10", laid_internal_strconv_uint64pow10), ("unicode/utf8.acceptRanges", laid_unicode_utf8_acceptRanges), ("turnpike/octet.signs", laid_turnpike_octet_signs), ("unicode/utf8.first", laid_unicode_utf8_first)], narrowed := true }
def ChunkOpenUptoSaid : Prop := chunkOpenUptoRow.holds Tryd.pinned (OpenSpec.upto chunkOpenSpec)

/-- 'turnpikelaw10.ChunkMost', WHERE WHAT IT READS IS OF BULK AT MOST 1048576: true; the input reads as it did. -/
def chunkMostUptoRow : OpenClaim := { program := "ytimhofphmgehgaadoor", sum := "3512be235610fb96a2e6cecbe6ece685c8e3dd9cf68ecf1fd7f61603537f94e3", func := "turnpike/turnpikelaw10.ChunkMost", spec := "chunkMost", inPlace := ["internal/bytealg.IndexByteString", "internal/abi.NoEscape", "internal/bytealg.IndexString"], unfollowed := true, recurses := true, named := ["turnpike/octet.signs", "unicode/utf8.first", "unicode/utf8.acceptRanges", "internal/strconv.uint64pow10", "math/bits.deBruijn32tab", "math/bits.deBruijn64tab", "internal/bytealg.MaxLen"], apart := false, laid := [("math/bits.deBruijn32tab", laid_math_bits_deBruijn32tab), ("math/bits.deBruijn64tab", laid_math_bits_deBruijn64tab), ("internal/strconv.uint64pow10", laid_internal_strconv_uint64pow10), ("unicode/utf8.acceptRanges", laid_unicode_utf8_acceptRanges), ("turnpike/octet.signs", laid_turnpike_octet_signs), ("unicode/utf8.first", laid_unicode_utf8_first)], narrowed := true }
def ChunkMostUptoSaid : Prop := chunkMostUptoRow.holds Tryd.pinned (OpenSpec.upto chunkMostSpec)

/-- 'turnpikelaw10.ChunkMemory', WHERE WHAT IT READS IS OF BULK AT MOST 1048576: true; the input reads as it did. -/
def chunkMemoryUptoRow : OpenClaim := { program := "ytimhofphmgehgaadoor", sum := "3512be235610fb96a2e6cecbe6ece685c8e3dd9cf68ecf1fd7f61603537f94e3", func := "turnpike/turnpikelaw10.ChunkMemory", spec := "chunkMemory", inPlace := ["internal/bytealg.IndexByteString", "internal/abi.NoEscape", "internal/bytealg.IndexString"], unfollowed := true, recurses := true, named := ["turnpike/octet.signs", "unicode/utf8.first", "unicode/utf8.acceptRanges", "internal/strconv.uint64pow10", "math/bits.deBruijn32tab", "math/bits.deBruijn64tab", "internal/bytealg.MaxLen"], apart := false, laid := [("math/bits.deBruijn32tab", laid_math_bits_deBruijn32tab), ("math/bits.deBruijn64tab", laid_math_bits_deBruijn64tab), ("internal/strconv.uint64pow10", laid_internal_strconv_uint64pow10), ("unicode/utf8.acceptRanges", laid_unicode_utf8_acceptRanges), ("turnpike/octet.signs", laid_turnpike_octet_signs), ("unicode/utf8.first", laid_unicode_utf8_first)], narrowed := true }
def ChunkMemoryUptoSaid : Prop := chunkMemoryUptoRow.holds Tryd.pinned (OpenSpec.upto chunkMemorySpec)

end Rows
end Go.Proofs.YtimhofphmgehgaaDoor
