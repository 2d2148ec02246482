/-
  NARROWER THAN 'FOR EVERY INPUT', by the rows' own cells (each row's printed sentence says how): OctetSame: laid · OctetNumbers: laid · OctetQuotes: laid · OctetBack: laid · OctetParams: laid · OctetPrints: laid · OctetCounts: laid · OctetClasses: laid · OctetSplit: laid · OctetLists: laid · OctetJoins: laid · OctetMemory: laid.
  DERIVED. THE GIVEN ROWS OF THIS SEAT. 12 by the template 'for every input the law returns true; each argument reads behind the call as it read before'; 0 by the template 'total and deterministic' (their statements: YtjphdipbajfojaaDoorTotals.lean).
  GIVEN WITH THE SEED: the statements are not yours to turn. If you find one false, say at which input.
  Laid BY PROGRAM, IN A SANDBOX (cutbox-rows.mjs): the forced cells as the released guide's own fill.sh prints them over the translation 55a57519ebe75b3c… (all of the seat's roots in one cut). By AI agents, Wed Nov 11 2026. No macro, syntax, notation, axiom, sorry.
-/
import Derived.Test.YtjphdipbajfojaaDoorChecked
import GoSem.PinnedTables
import GoSem.Claim
import GoSem.ClaimJoined
import GoSem.ClaimMapViews
import Derived.JoinedTies
import Derived.KernelRfl
namespace Go.Proofs.YtjphdipbajfojaaDoor
/- THE CELL 'sum', in the pinned program and in every row, IS THE sha256 OF THE DUMP (.gsa) THAT YtjphdipbajfojaaDoorProg.lean LOADS. Nothing in Lean hashes anything: it is a label: what it is worth is what the hold of that sum in a sandbox is worth. -/
noncomputable def Tryd.pinned : Pinned := { name := "ytjphdipbajfojaadoor", sum := "55a57519ebe75b3c5ca2d2e3cf10e01e372b1aeaebfdb867251956f15424623f", checked := Tryd.checked }
namespace Rows
def none {H : Type} : Left H := { results := [], args := [] }

/- WHAT THE LISTED PACKAGE-LEVEL VARIABLES READ AS WHEN THE CALL BEGINS. Each datum BY PROGRAM (the guide's laid-datum.mjs) off the statement by which the dump's own 'gosem.cut.vars' lays the variable. In a bare row this is a premise. The card (YtjphdipbajfojaaDoorCards.lean) ties it to the program's text. -/
def laid_turnpike_octet_signs {H : Type} : DataW H := .agg [.lit (.int .u32 0), .lit (.int .u32 67071226), .lit (.int .u32 3355443198), .lit (.int .u32 1476395007)]
def laid_math_bits_deBruijn32tab {H : Type} : DataW H := .agg [.lit (.int .u8 0), .lit (.int .u8 1), .lit (.int .u8 28), .lit (.int .u8 2), .lit (.int .u8 29), .lit (.int .u8 14), .lit (.int .u8 24), .lit (.int .u8 3), .lit (.int .u8 30), .lit (.int .u8 22), .lit (.int .u8 20), .lit (.int .u8 15), .lit (.int .u8 25), .lit (.int .u8 17), .lit (.int .u8 4), .lit (.int .u8 8), .lit (.int .u8 31), .lit (.int .u8 27), .lit (.int .u8 13), .lit (.int .u8 23), .lit (.int .u8 21), .lit (.int .u8 19), .lit (.int .u8 16), .lit (.int .u8 7), .lit (.int .u8 26), .lit (.int .u8 12), .lit (.int .u8 18), .lit (.int .u8 6), .lit (.int .u8 11), .lit (.int .u8 5), .lit (.int .u8 10), .lit (.int .u8 9)]
def laid_math_bits_deBruijn64tab {H : Type} : DataW H := .agg [.lit (.int .u8 0), .lit (.int .u8 1), .lit (.int .u8 56), .lit (.int .u8 2), .lit (.int .u8 57), .lit (.int .u8 49), .lit (.int .u8 28), .lit (.int .u8 3), .lit (.int .u8 61), .lit (.int .u8 58), .lit (.int .u8 42), .lit (.int .u8 50), .lit (.int .u8 38), .lit (.int .u8 29), .lit (.int .u8 17), .lit (.int .u8 4), .lit (.int .u8 62), .lit (.int .u8 47), .lit (.int .u8 59), .lit (.int .u8 36), .lit (.int .u8 45), .lit (.int .u8 43), .lit (.int .u8 51), .lit (.int .u8 22), .lit (.int .u8 53), .lit (.int .u8 39), .lit (.int .u8 33), .lit (.int .u8 30), .lit (.int .u8 24), .lit (.int .u8 18), .lit (.int .u8 12), .lit (.int .u8 5), .lit (.int .u8 63), .lit (.int .u8 55), .lit (.int .u8 48), .lit (.int .u8 27), .lit (.int .u8 60), .lit (.int .u8 41), .lit (.int .u8 37), .lit (.int .u8 16), .lit (.int .u8 46), .lit (.int .u8 35), .lit (.int .u8 44), .lit (.int .u8 21), .lit (.int .u8 52), .lit (.int .u8 32), .lit (.int .u8 23), .lit (.int .u8 11), .lit (.int .u8 54), .lit (.int .u8 26), .lit (.int .u8 40), .lit (.int .u8 15), .lit (.int .u8 34), .lit (.int .u8 20), .lit (.int .u8 31), .lit (.int .u8 10), .lit (.int .u8 25), .lit (.int .u8 14), .lit (.int .u8 19), .lit (.int .u8 9), .lit (.int .u8 13), .lit (.int .u8 8), .lit (.int .u8 7), .lit (.int .u8 6)]
def laid_internal_strconv_uint64pow10 {H : Type} : DataW H := .agg [.lit (.int .u64 1), .lit (.int .u64 10), .lit (.int .u64 100), .lit (.int .u64 1000), .lit (.int .u64 10000), .lit (.int .u64 100000), .lit (.int .u64 1000000), .lit (.int .u64 10000000), .lit (.int .u64 100000000), .lit (.int .u64 1000000000), .lit (.int .u64 10000000000), .lit (.int .u64 100000000000), .lit (.int .u64 1000000000000), .lit (.int .u64 10000000000000), .lit (.int .u64 100000000000000), .lit (.int .u64 1000000000000000), .lit (.int .u64 10000000000000000), .lit (.int .u64 100000000000000000), .lit (.int .u64 1000000000000000000), .lit (.int .u64 10000000000000000000)]
def laid_unicode_utf8_acceptRanges {H : Type} : DataW H := .agg [.agg [.lit (.int .u8 128), .lit (.int .u8 191)], .agg [.lit (.int .u8 160), .lit (.int .u8 191)], .agg [.lit (.int .u8 128), .lit (.int .u8 159)], .agg [.lit (.int .u8 144), .lit (.int .u8 191)], .agg [.lit (.int .u8 128), .lit (.int .u8 143)], .agg [.lit (.int .u8 0), .lit (.int .u8 0)], .agg [.lit (.int .u8 0), .lit (.int .u8 0)], .agg [.lit (.int .u8 0), .lit (.int .u8 0)], .agg [.lit (.int .u8 0), .lit (.int .u8 0)], .agg [.lit (.int .u8 0), .lit (.int .u8 0)], .agg [.lit (.int .u8 0), .lit (.int .u8 0)], .agg [.lit (.int .u8 0), .lit (.int .u8 0)], .agg [.lit (.int .u8 0), .lit (.int .u8 0)], .agg [.lit (.int .u8 0), .lit (.int .u8 0)], .agg [.lit (.int .u8 0), .lit (.int .u8 0)], .agg [.lit (.int .u8 0), .lit (.int .u8 0)]]
/-- One of Go's own tables, pinned by name: the form's constant. -/
def laid_unicode_utf8_first : DataW Unit := Go.Pinned.utf8First

/-- 'turnpikelaw01.OctetSame': WHATEVER THE INPUT: true; the input reads as it did. -/
def octetSameSpec : ChangeSpec := { name := "octetSame", fn := fun _ => fun
  | [d1, d2] => { results := [.lit (.bool true)], args := [d1, d2] }
  | _ => none }
def octetSameRow : OpenClaim := { program := "ytjphdipbajfojaadoor", sum := "55a57519ebe75b3c5ca2d2e3cf10e01e372b1aeaebfdb867251956f15424623f", func := "turnpike/turnpikelaw01.OctetSame", spec := "octetSame", inPlace := ["internal/bytealg.IndexByteString"], named := ["turnpike/octet.signs"], apart := false, laid := [("turnpike/octet.signs", laid_turnpike_octet_signs)] }
def OctetSameSaid : Prop := octetSameRow.holds Tryd.pinned (OpenSpec.ofChange octetSameSpec)

/-- ITS FALSE NEIGHBOUR: 'it returns false'. Refute it at one input. -/
def octetSameWrong : ChangeSpec := { name := "octetSame", fn := fun _ => fun
  | [d1, d2] => { results := [.lit (.bool false)], args := [d1, d2] }
  | _ => none }
def OctetSameWrongFalsely : Prop := octetSameRow.holds Tryd.pinned (OpenSpec.ofChange octetSameWrong)

/-- 'turnpikelaw01.OctetNumbers': WHATEVER THE INPUT: true; the input reads as it did. -/
def octetNumbersSpec : ChangeSpec := { name := "octetNumbers", fn := fun _ => fun
  | [d1, d2] => { results := [.lit (.bool true)], args := [d1, d2] }
  | _ => none }
def octetNumbersRow : OpenClaim := { program := "ytjphdipbajfojaadoor", sum := "55a57519ebe75b3c5ca2d2e3cf10e01e372b1aeaebfdb867251956f15424623f", func := "turnpike/turnpikelaw01.OctetNumbers", spec := "octetNumbers", inPlace := ["internal/bytealg.IndexByteString"], named := ["turnpike/octet.signs"], apart := false, laid := [("turnpike/octet.signs", laid_turnpike_octet_signs)] }
def OctetNumbersSaid : Prop := octetNumbersRow.holds Tryd.pinned (OpenSpec.ofChange octetNumbersSpec)

/-- ITS FALSE NEIGHBOUR: 'it returns false'. Refute it at one input. -/
def octetNumbersWrong : ChangeSpec := { name := "octetNumbers", fn := fun _ => fun
  | [d1, d2] => { results := [.lit (.bool false)], args := [d1, d2] }
  | _ => none }
def OctetNumbersWrongFalsely : Prop := octetNumbersRow.holds Tryd.pinned (OpenSpec.ofChange octetNumbersWrong)

/-- 'turnpikelaw01.OctetQuotes': WHATEVER THE INPUT: true; the input reads as it did. -/
def octetQuotesSpec : ChangeSpec := { name := "octetQuotes", fn := fun _ => fun
  | [d] => { results := [.lit (.bool true)], args := [d] }
  | _ => none }
def octetQuotesRow : OpenClaim := { program := "ytjphdipbajfojaadoor", sum := "55a57519ebe75b3c5ca2d2e3cf10e01e372b1aeaebfdb867251956f15424623f", func := "turnpike/turnpikelaw01.OctetQuotes", spec := "octetQuotes", inPlace := ["internal/abi.NoEscape", "internal/bytealg.IndexByteString"], named := ["turnpike/octet.signs"], apart := false, laid := [("turnpike/octet.signs", laid_turnpike_octet_signs)] }
def OctetQuotesSaid : Prop := octetQuotesRow.holds Tryd.pinned (OpenSpec.ofChange octetQuotesSpec)

/-- ITS FALSE NEIGHBOUR: 'it returns false'. Refute it at one input. -/
def octetQuotesWrong : ChangeSpec := { name := "octetQuotes", fn := fun _ => fun
  | [d] => { results := [.lit (.bool false)], args := [d] }
  | _ => none }
def OctetQuotesWrongFalsely : Prop := octetQuotesRow.holds Tryd.pinned (OpenSpec.ofChange octetQuotesWrong)

/-- 'turnpikelaw01.OctetBack': WHATEVER THE INPUT: true; the input reads as it did. -/
def octetBackSpec : ChangeSpec := { name := "octetBack", fn := fun _ => fun
  | [d1, d2] => { results := [.lit (.bool true)], args := [d1, d2] }
  | _ => none }
def octetBackRow : OpenClaim := { program := "ytjphdipbajfojaadoor", sum := "55a57519ebe75b3c5ca2d2e3cf10e01e372b1aeaebfdb867251956f15424623f", func := "turnpike/turnpikelaw01.OctetBack", spec := "octetBack", inPlace := ["internal/abi.NoEscape", "internal/bytealg.IndexByteString"], named := ["turnpike/octet.signs"], apart := false, laid := [("turnpike/octet.signs", laid_turnpike_octet_signs)] }
def OctetBackSaid : Prop := octetBackRow.holds Tryd.pinned (OpenSpec.ofChange octetBackSpec)

/-- ITS FALSE NEIGHBOUR: 'it returns false'. Refute it at one input. -/
def octetBackWrong : ChangeSpec := { name := "octetBack", fn := fun _ => fun
  | [d1, d2] => { results := [.lit (.bool false)], args := [d1, d2] }
  | _ => none }
def OctetBackWrongFalsely : Prop := octetBackRow.holds Tryd.pinned (OpenSpec.ofChange octetBackWrong)

/-- 'turnpikelaw01.OctetParams': WHATEVER THE INPUT: true; the input reads as it did. -/
def octetParamsSpec : ChangeSpec := { name := "octetParams", fn := fun _ => fun
  | [d] => { results := [.lit (.bool true)], args := [d] }
  | _ => none }
def octetParamsRow : OpenClaim := { program := "ytjphdipbajfojaadoor", sum := "55a57519ebe75b3c5ca2d2e3cf10e01e372b1aeaebfdb867251956f15424623f", func := "turnpike/turnpikelaw01.OctetParams", spec := "octetParams", inPlace := ["internal/abi.NoEscape", "internal/bytealg.IndexByteString"], unfollowed := true, recurses := true, named := ["turnpike/octet.signs"], apart := false, laid := [("turnpike/octet.signs", laid_turnpike_octet_signs)] }
def OctetParamsSaid : Prop := octetParamsRow.holds Tryd.pinned (OpenSpec.ofChange octetParamsSpec)

/-- ITS FALSE NEIGHBOUR: 'it returns false'. Refute it at one input. -/
def octetParamsWrong : ChangeSpec := { name := "octetParams", fn := fun _ => fun
  | [d] => { results := [.lit (.bool false)], args := [d] }
  | _ => none }
def OctetParamsWrongFalsely : Prop := octetParamsRow.holds Tryd.pinned (OpenSpec.ofChange octetParamsWrong)

/-- 'turnpikelaw01.OctetPrints': WHATEVER THE INPUT: true; the input reads as it did. -/
def octetPrintsSpec : ChangeSpec := { name := "octetPrints", fn := fun _ => fun
  | [d] => { results := [.lit (.bool true)], args := [d] }
  | _ => none }
def octetPrintsRow : OpenClaim := { program := "ytjphdipbajfojaadoor", sum := "55a57519ebe75b3c5ca2d2e3cf10e01e372b1aeaebfdb867251956f15424623f", func := "turnpike/turnpikelaw01.OctetPrints", spec := "octetPrints", inPlace := ["internal/abi.NoEscape", "internal/bytealg.IndexByteString"], unfollowed := true, recurses := true, named := ["turnpike/octet.signs"], apart := false, laid := [("turnpike/octet.signs", laid_turnpike_octet_signs)] }
def OctetPrintsSaid : Prop := octetPrintsRow.holds Tryd.pinned (OpenSpec.ofChange octetPrintsSpec)

/-- ITS FALSE NEIGHBOUR: 'it returns false'. Refute it at one input. -/
def octetPrintsWrong : ChangeSpec := { name := "octetPrints", fn := fun _ => fun
  | [d] => { results := [.lit (.bool false)], args := [d] }
  | _ => none }
def OctetPrintsWrongFalsely : Prop := octetPrintsRow.holds Tryd.pinned (OpenSpec.ofChange octetPrintsWrong)

/-- 'turnpikelaw01.OctetCounts': WHATEVER THE INPUT: true; the input reads as it did. -/
def octetCountsSpec : ChangeSpec := { name := "octetCounts", fn := fun _ => fun
  | [d1, d2] => { results := [.lit (.bool true)], args := [d1, d2] }
  | _ => none }
def octetCountsRow : OpenClaim := { program := "ytjphdipbajfojaadoor", sum := "55a57519ebe75b3c5ca2d2e3cf10e01e372b1aeaebfdb867251956f15424623f", func := "turnpike/turnpikelaw01.OctetCounts", spec := "octetCounts", inPlace := ["internal/bytealg.IndexByteString"], named := ["internal/strconv.uint64pow10", "math/bits.deBruijn32tab", "math/bits.deBruijn64tab", "turnpike/octet.signs"], apart := false, laid := [("math/bits.deBruijn32tab", laid_math_bits_deBruijn32tab), ("math/bits.deBruijn64tab", laid_math_bits_deBruijn64tab), ("internal/strconv.uint64pow10", laid_internal_strconv_uint64pow10), ("turnpike/octet.signs", laid_turnpike_octet_signs)] }
def OctetCountsSaid : Prop := octetCountsRow.holds Tryd.pinned (OpenSpec.ofChange octetCountsSpec)

/-- ITS FALSE NEIGHBOUR: 'it returns false'. Refute it at one input. -/
def octetCountsWrong : ChangeSpec := { name := "octetCounts", fn := fun _ => fun
  | [d1, d2] => { results := [.lit (.bool false)], args := [d1, d2] }
  | _ => none }
def OctetCountsWrongFalsely : Prop := octetCountsRow.holds Tryd.pinned (OpenSpec.ofChange octetCountsWrong)

/-- 'turnpikelaw01.OctetClasses': WHATEVER THE INPUT: true; the input reads as it did. -/
def octetClassesSpec : ChangeSpec := { name := "octetClasses", fn := fun _ => fun
  | [d] => { results := [.lit (.bool true)], args := [d] }
  | _ => none }
def octetClassesRow : OpenClaim := { program := "ytjphdipbajfojaadoor", sum := "55a57519ebe75b3c5ca2d2e3cf10e01e372b1aeaebfdb867251956f15424623f", func := "turnpike/turnpikelaw01.OctetClasses", spec := "octetClasses", inPlace := ["internal/bytealg.IndexByteString", "internal/bytealg.IndexString"], named := ["turnpike/octet.signs", "unicode/utf8.first", "unicode/utf8.acceptRanges", "internal/bytealg.MaxLen"], apart := false, laid := [("unicode/utf8.acceptRanges", laid_unicode_utf8_acceptRanges), ("turnpike/octet.signs", laid_turnpike_octet_signs), ("unicode/utf8.first", laid_unicode_utf8_first)] }
def OctetClassesSaid : Prop := octetClassesRow.holds Tryd.pinned (OpenSpec.ofChange octetClassesSpec)

/-- ITS FALSE NEIGHBOUR: 'it returns false'. Refute it at one input. -/
def octetClassesWrong : ChangeSpec := { name := "octetClasses", fn := fun _ => fun
  | [d] => { results := [.lit (.bool false)], args := [d] }
  | _ => none }
def OctetClassesWrongFalsely : Prop := octetClassesRow.holds Tryd.pinned (OpenSpec.ofChange octetClassesWrong)

/-- 'turnpikelaw01.OctetSplit': WHATEVER THE INPUT: true; the input reads as it did. -/
def octetSplitSpec : ChangeSpec := { name := "octetSplit", fn := fun _ => fun
  | [d1, d2] => { results := [.lit (.bool true)], args := [d1, d2] }
  | _ => none }
def octetSplitRow : OpenClaim := { program := "ytjphdipbajfojaadoor", sum := "55a57519ebe75b3c5ca2d2e3cf10e01e372b1aeaebfdb867251956f15424623f", func := "turnpike/turnpikelaw01.OctetSplit", spec := "octetSplit", inPlace := ["internal/abi.NoEscape", "internal/bytealg.IndexByteString", "internal/bytealg.IndexString"], named := ["unicode/utf8.first", "unicode/utf8.acceptRanges", "turnpike/octet.signs", "internal/bytealg.MaxLen"], apart := false, laid := [("unicode/utf8.acceptRanges", laid_unicode_utf8_acceptRanges), ("turnpike/octet.signs", laid_turnpike_octet_signs), ("unicode/utf8.first", laid_unicode_utf8_first)] }
def OctetSplitSaid : Prop := octetSplitRow.holds Tryd.pinned (OpenSpec.ofChange octetSplitSpec)

/-- ITS FALSE NEIGHBOUR: 'it returns false'. Refute it at one input. -/
def octetSplitWrong : ChangeSpec := { name := "octetSplit", fn := fun _ => fun
  | [d1, d2] => { results := [.lit (.bool false)], args := [d1, d2] }
  | _ => none }
def OctetSplitWrongFalsely : Prop := octetSplitRow.holds Tryd.pinned (OpenSpec.ofChange octetSplitWrong)

/-- 'turnpikelaw01.OctetLists': WHATEVER THE INPUT: true; the input reads as it did. -/
def octetListsSpec : ChangeSpec := { name := "octetLists", fn := fun _ => fun
  | [d] => { results := [.lit (.bool true)], args := [d] }
  | _ => none }
def octetListsRow : OpenClaim := { program := "ytjphdipbajfojaadoor", sum := "55a57519ebe75b3c5ca2d2e3cf10e01e372b1aeaebfdb867251956f15424623f", func := "turnpike/turnpikelaw01.OctetLists", spec := "octetLists", inPlace := ["internal/abi.NoEscape", "internal/bytealg.IndexByteString", "internal/bytealg.IndexString"], named := ["unicode/utf8.first", "unicode/utf8.acceptRanges", "turnpike/octet.signs", "internal/bytealg.MaxLen"], apart := false, laid := [("unicode/utf8.acceptRanges", laid_unicode_utf8_acceptRanges), ("turnpike/octet.signs", laid_turnpike_octet_signs), ("unicode/utf8.first", laid_unicode_utf8_first)] }
def OctetListsSaid : Prop := octetListsRow.holds Tryd.pinned (OpenSpec.ofChange octetListsSpec)

/-- ITS FALSE NEIGHBOUR: 'it returns false'. Refute it at one input. -/
def octetListsWrong : ChangeSpec := { name := "octetLists", fn := fun _ => fun
  | [d] => { results := [.lit (.bool false)], args := [d] }
  | _ => none }
def OctetListsWrongFalsely : Prop := octetListsRow.holds Tryd.pinned (OpenSpec.ofChange octetListsWrong)

/-- 'turnpikelaw01.OctetJoins': WHATEVER THE INPUT: true; the input reads as it did. -/
def octetJoinsSpec : ChangeSpec := { name := "octetJoins", fn := fun _ => fun
  | [d] => { results := [.lit (.bool true)], args := [d] }
  | _ => none }
def octetJoinsRow : OpenClaim := { program := "ytjphdipbajfojaadoor", sum := "55a57519ebe75b3c5ca2d2e3cf10e01e372b1aeaebfdb867251956f15424623f", func := "turnpike/turnpikelaw01.OctetJoins", spec := "octetJoins", inPlace := ["internal/abi.NoEscape", "internal/bytealg.MakeNoZero", "internal/bytealg.IndexByteString", "internal/bytealg.IndexString"], named := ["turnpike/octet.signs", "unicode/utf8.first", "unicode/utf8.acceptRanges", "internal/bytealg.MaxLen"], apart := false, laid := [("unicode/utf8.acceptRanges", laid_unicode_utf8_acceptRanges), ("turnpike/octet.signs", laid_turnpike_octet_signs), ("unicode/utf8.first", laid_unicode_utf8_first)] }
def OctetJoinsSaid : Prop := octetJoinsRow.holds Tryd.pinned (OpenSpec.ofChange octetJoinsSpec)

/-- ITS FALSE NEIGHBOUR: 'it returns false'. Refute it at one input. -/
def octetJoinsWrong : ChangeSpec := { name := "octetJoins", fn := fun _ => fun
  | [d] => { results := [.lit (.bool false)], args := [d] }
  | _ => none }
def OctetJoinsWrongFalsely : Prop := octetJoinsRow.holds Tryd.pinned (OpenSpec.ofChange octetJoinsWrong)

/-- 'turnpikelaw01.OctetMemory': WHATEVER THE INPUT: true; the input reads as it did. -/
def octetMemorySpec : ChangeSpec := { name := "octetMemory", fn := fun _ => fun
  | [d] => { results := [.lit (.bool true)], args := [d] }
  | _ => none }
def octetMemoryRow : OpenClaim := { program := "ytjphdipbajfojaadoor", sum := "55a57519ebe75b3c5ca2d2e3cf10e01e372b1aeaebfdb867251956f15424623f", func := "turnpike/turnpikelaw01.OctetMemory", spec := "octetMemory", inPlace := ["internal/bytealg.IndexByteString", "internal/abi.NoEscape", "internal/bytealg.IndexString"], unfollowed := true, recurses := true, named := ["turnpike/octet.signs", "unicode/utf8.first", "unicode/utf8.acceptRanges", "internal/strconv.uint64pow10", "math/bits.deBruijn32tab", "math/bits.deBruijn64tab", "internal/bytealg.MaxLen"], apart := false, laid := [("math/bits.deBruijn32tab", laid_math_bits_deBruijn32tab), ("math/bits.deBruijn64tab", laid_math_bits_deBruijn64tab), ("internal/strconv.uint64pow10", laid_internal_strconv_uint64pow10), ("unicode/utf8.acceptRanges", laid_unicode_utf8_acceptRanges), ("turnpike/octet.signs", laid_turnpike_octet_signs), ("unicode/utf8.first", laid_unicode_utf8_first)] }
def OctetMemorySaid : Prop := octetMemoryRow.holds Tryd.pinned (OpenSpec.ofChange octetMemorySpec)

/-- ITS FALSE NEIGHBOUR: 'it returns false'. Refute it at one input. -/
def octetMemoryWrong : ChangeSpec := { name := "octetMemory", fn := fun _ => fun
  | [d] => { results := [.lit (.bool false)], args := [d] }
  | _ => none }
def OctetMemoryWrongFalsely : Prop := octetMemoryRow.holds Tryd.pinned (OpenSpec.ofChange octetMemoryWrong)

/- THE SECOND FORM. 'bulk': how many values and letters a reading holds, each counted each time it is reached (what is shared counts as often as it is met; a slice's spare places count too). A statement '..UptoSaid' is the law's where the arguments, and the package variables that the reading takes, are together of bulk at most 1048576: NARROWER than '..Said'. Prove '..Said' where nothing that the law and all that it calls make is longer than what came in: it says more and counts as full. Else prove '..UptoSaid'. A law counts once. -/
mutual
def uptoBulk {H : Type} : DataW H → Nat
  | .lit (.string bytes) => bytes.length + 1
  | .lit _ => 1
  | .nil => 1
  | .ptr d => uptoBulk d + 1
  | .slice elems spare => uptoBulkAll elems + uptoBulkAll spare + 1
  | .agg parts => uptoBulkAll parts + 1
  | .iface _ d => uptoBulk d + 1
  | .map entries => uptoBulkEntries entries + 1
  | .held _ => 1
def uptoBulkAll {H : Type} : List (DataW H) → Nat
  | [] => 0
  | d :: r => uptoBulk d + uptoBulkAll r
def uptoBulkEntries {H : Type} : List (Lit × DataW H) → Nat
  | [] => 0
  | x :: r => uptoBulkEntry x + uptoBulkEntries r
def uptoBulkEntry {H : Type} : Lit × DataW H → Nat
  | (.string bytes, d) => bytes.length + uptoBulk d + 1
  | (_, d) => uptoBulk d + 1
 end
def uptoSmall : (H : Type) → List (DataW H) → Bool := fun _ ds => decide (uptoBulkAll ds ≤ 1048576)
def OpenSpec.upto (s : _root_.Go.ChangeSpec) : _root_.Go.OpenSpec := { _root_.Go.OpenSpec.ofChange s with cond := some uptoSmall }

/-- 'turnpikelaw01.OctetSame', WHERE WHAT IT READS IS OF BULK AT MOST 1048576: true; the input reads as it did. -/
def octetSameUptoRow : OpenClaim := { program := "ytjphdipbajfojaadoor", sum := "55a57519ebe75b3c5ca2d2e3cf10e01e372b1aeaebfdb867251956f15424623f", func := "turnpike/turnpikelaw01.OctetSame", spec := "octetSame", inPlace := ["internal/bytealg.IndexByteString"], named := ["turnpike/octet.signs"], apart := false, laid := [("turnpike/octet.signs", laid_turnpike_octet_signs)], narrowed := true }
def OctetSameUptoSaid : Prop := octetSameUptoRow.holds Tryd.pinned (OpenSpec.upto octetSameSpec)

/-- 'turnpikelaw01.OctetNumbers', WHERE WHAT IT READS IS OF BULK AT MOST 1048576: true; the input reads as it did. -/
def octetNumbersUptoRow : OpenClaim := { program := "ytjphdipbajfojaadoor", sum := "55a57519ebe75b3c5ca2d2e3cf10e01e372b1aeaebfdb867251956f15424623f", func := "turnpike/turnpikelaw01.OctetNumbers", spec := "octetNumbers", inPlace := ["internal/bytealg.IndexByteString"], named := ["turnpike/octet.signs"], apart := false, laid := [("turnpike/octet.signs", laid_turnpike_octet_signs)], narrowed := true }
def OctetNumbersUptoSaid : Prop := octetNumbersUptoRow.holds Tryd.pinned (OpenSpec.upto octetNumbersSpec)

/-- 'turnpikelaw01.OctetQuotes', WHERE WHAT IT READS IS OF BULK AT MOST 1048576: true; the input reads as it did. -/
def octetQuotesUptoRow : OpenClaim := { program := "ytjphdipbajfojaadoor", sum := "55a57519ebe75b3c5ca2d2e3cf10e01e372b1aeaebfdb867251956f15424623f", func := "turnpike/turnpikelaw01.OctetQuotes", spec := "octetQuotes", inPlace := ["internal/abi.NoEscape", "internal/bytealg.IndexByteString"], named := ["turnpike/octet.signs"], apart := false, laid := [("turnpike/octet.signs", laid_turnpike_octet_signs)], narrowed := true }
def OctetQuotesUptoSaid : Prop := octetQuotesUptoRow.holds Tryd.pinned (OpenSpec.upto octetQuotesSpec)

/-- 'turnpikelaw01.OctetBack', WHERE WHAT IT READS IS OF BULK AT MOST 1048576: true; the input reads as it did. -/
def octetBackUptoRow : OpenClaim := { program := "ytjphdipbajfojaadoor", sum := "55a57519ebe75b3c5ca2d2e3cf10e01e372b1aeaebfdb867251956f15424623f", func := "turnpike/turnpikelaw01.OctetBack", spec := "octetBack", inPlace := ["internal/abi.NoEscape", "internal/bytealg.IndexByteString"], named := ["turnpike/octet.signs"], apart := false, laid := [("turnpike/octet.signs", laid_turnpike_octet_signs)], narrowed := true }
def OctetBackUptoSaid : Prop := octetBackUptoRow.holds Tryd.pinned (OpenSpec.upto octetBackSpec)

/-- 'turnpikelaw01.OctetParams', WHERE WHAT IT READS IS OF BULK AT MOST 1048576: true; the input reads as it did. -/
def octetParamsUptoRow : OpenClaim := { program := "ytjphdipbajfojaadoor", sum := "55a57519ebe75b3c5ca2d2e3cf10e01e372b1aeaebfdb867251956f15424623f", func := "turnpike/turnpikelaw01.OctetParams", spec := "octetParams", inPlace := ["internal/abi.NoEscape", "internal/bytealg.IndexByteString"], unfollowed := true, recurses := true, named := ["turnpike/octet.signs"], apart := false, laid := [("turnpike/octet.signs", laid_turnpike_octet_signs)], narrowed := true }
def OctetParamsUptoSaid : Prop := octetParamsUptoRow.holds Tryd.pinned (OpenSpec.upto octetParamsSpec)

/-- 'turnpikelaw01.OctetPrints', WHERE WHAT IT READS IS OF BULK AT MOST 1048576: true; the input reads as it did. -/
def octetPrintsUptoRow : OpenClaim := { program := "ytjphdipbajfojaadoor", sum := "55a57519ebe75b3c5ca2d2e3cf10e01e372b1aeaebfdb867251956f15424623f", func := "turnpike/turnpikelaw01.OctetPrints", spec := "octetPrints", inPlace := ["internal/abi.NoEscape", "internal/bytealg.IndexByteString"], unfollowed := true, recurses := true, named := ["turnpike/octet.signs"], apart := false, laid := [("turnpike/octet.signs", laid_turnpike_octet_signs)], narrowed := true }
def OctetPrintsUptoSaid : Prop := octetPrintsUptoRow.holds Tryd.pinned (OpenSpec.upto octetPrintsSpec)

/-- 'turnpikelaw01.OctetCounts', WHERE WHAT IT READS IS OF BULK AT MOST 1048576: true; the input reads as it did. -/
def octetCountsUptoRow : OpenClaim := { program := "ytjphdipbajfojaadoor", sum := "55a57519ebe75b3c5ca2d2e3cf10e01e372b1aeaebfdb867251956f15424623f", func := "turnpike/turnpikelaw01.OctetCounts", spec := "octetCounts", inPlace := ["internal/bytealg.IndexByteString"], named := ["internal/strconv.uint64pow10", "math/bits.deBruijn32tab", "math/bits.deBruijn64tab", "turnpike/octet.signs"], apart := false, laid := [("math/bits.deBruijn32tab", laid_math_bits_deBruijn32tab), ("math/bits.deBruijn64tab", laid_math_bits_deBruijn64tab), ("internal/strconv.uint64pow10", laid_internal_strconv_uint64pow10), ("turnpike/octet.signs", laid_turnpike_octet_signs)], narrowed := true }
def OctetCountsUptoSaid : Prop := octetCountsUptoRow.holds Tryd.pinned (OpenSpec.upto octetCountsSpec)

/-- 'turnpikelaw01.OctetClasses', WHERE WHAT IT READS IS OF BULK AT MOST 1048576: true; the input reads as it did. -/
def octetClassesUptoRow : OpenClaim := { program := "ytjphdipbajfojaadoor", sum := "55a57519ebe75b3c5ca2d2e3cf10e01e372b1aeaebfdb867251956f15424623f", func := "turnpike/turnpikelaw01.OctetClasses", spec := "octetClasses", inPlace := ["internal/bytealg.IndexByteString", "internal/bytealg.IndexString"], named := ["turnpike/octet.signs", "unicode/utf8.first", "unicode/utf8.acceptRanges", "internal/bytealg.MaxLen"], apart := false, laid := [("unicode/utf8.acceptRanges", laid_unicode_utf8_acceptRanges), ("turnpike/octet.signs", laid_turnpike_octet_signs), ("unicode/utf8.first", laid_unicode_utf8_first)], narrowed := true }
def OctetClassesUptoSaid : Prop := octetClassesUptoRow.holds Tryd.pinned (OpenSpec.upto octetClassesSpec)

/-- 'turnpikelaw01.OctetSplit', WHERE WHAT IT READS IS OF BULK AT MOST 1048576: true; the input reads as it did. -/
def octetSplitUptoRow : OpenClaim := { program := "ytjphdipbajfojaadoor", sum := "55a57519ebe75b3c5ca2d2e3cf10e01e372b1aeaebfdb867251956f15424623f", func := "turnpike/turnpikelaw01.OctetSplit", spec := "octetSplit", inPlace := ["internal/abi.NoEscape", "internal/bytealg.IndexByteString", "internal/bytealg.IndexString"], named := ["unicode/utf8.first", "unicode/utf8.acceptRanges", "turnpike/octet.signs", "internal/bytealg.MaxLen"], apart := false, laid := [("unicode/utf8.acceptRanges", laid_unicode_utf8_acceptRanges), ("turnpike/octet.signs", laid_turnpike_octet_signs), ("unicode/utf8.first", laid_unicode_utf8_first)], narrowed := true }
def OctetSplitUptoSaid : Prop := octetSplitUptoRow.holds Tryd.pinned (OpenSpec.upto octetSplitSpec)

/-- 'turnpikelaw01.OctetLists', WHERE WHAT IT READS IS OF BULK AT MOST 1048576: true; the input reads as it did. -/
def octetListsUptoRow : OpenClaim := { program := "ytjphdipbajfojaadoor", sum := "55a57519ebe75b3c5ca2d2e3cf10e01e372b1aeaebfdb867251956f15424623f", func := "turnpike/turnpikelaw01.OctetLists", spec := "octetLists", inPlace := ["internal/abi.NoEscape", "internal/bytealg.IndexByteString", "internal/bytealg.IndexString"], named := ["unicode/utf8.first", "unicode/utf8.acceptRanges", "turnpike/octet.signs", "internal/bytealg.MaxLen"], apart := false, laid := [("unicode/utf8.acceptRanges", laid_unicode_utf8_acceptRanges), ("turnpike/octet.signs", laid_turnpike_octet_signs), ("unicode/utf8.first", laid_unicode_utf8_first)], narrowed := true }
def OctetListsUptoSaid : Prop := octetListsUptoRow.holds Tryd.pinned (OpenSpec.upto octetListsSpec)

/-- 'turnpikelaw01.OctetJoins', WHERE WHAT IT READS IS OF BULK AT MOST 1048576: true; the input reads as it did. -/
def octetJoinsUptoRow : OpenClaim := { program := "ytjphdipbajfojaadoor", sum := "55a57519ebe75b3c5ca2d2e3cf10e01e372b1aeaebfdb867251956f15424623f", func := "turnpike/turnpikelaw01.OctetJoins", spec := "octetJoins", inPlace := ["internal/abi.NoEscape", "internal/bytealg.MakeNoZero", "internal/bytealg.IndexByteString", "internal/bytealg.IndexString"], named := ["turnpike/octet.signs", "unicode/utf8.first", "unicode/utf8.acceptRanges", "internal/bytealg.MaxLen"], apart := false, laid := [("unicode/utf8.acceptRanges", laid_unicode_utf8_acceptRanges), ("turnpike/octet.signs", laid_turnpike_octet_signs), ("unicode/utf8.first", laid_unicode_utf8_first)], narrowed := true }
def OctetJoinsUptoSaid : Prop := octetJoinsUptoRow.holds Tryd.pinned (OpenSpec.upto octetJoinsSpec)

/-- 'turnpikelaw01.OctetMemory', WHERE WHAT IT READS IS OF BULK AT MOST 1048576: true; the input reads as it did. -/
def octetMemoryUptoRow : OpenClaim := { program := "ytjphdipbajfojaadoor", sum := "55a57519ebe75b3c5ca2d2e3cf10e01e372b1aeaebfdb867251956f15424623f", func := "turnpike/turnpikelaw01.OctetMemory", spec := "octetMemory", inPlace := ["internal/bytealg.IndexByteString", "internal/abi.NoEscape", "internal/bytealg.IndexString"], unfollowed := true, recurses := true, named := ["turnpike/octet.signs", "unicode/utf8.first", "unicode/utf8.acceptRanges", "internal/strconv.uint64pow10", "math/bits.deBruijn32tab", "math/bits.deBruijn64tab", "internal/bytealg.MaxLen"], apart := false, laid := [("math/bits.deBruijn32tab", laid_math_bits_deBruijn32tab), ("math/bits.deBruijn64tab", laid_math_bits_deBruijn64tab), ("internal/strconv.uint64pow10", laid_internal_strconv_uint64pow10), ("unicode/utf8.acceptRanges", laid_unicode_utf8_acceptRanges), ("turnpike/octet.signs", laid_turnpike_octet_signs), ("unicode/utf8.first", laid_unicode_utf8_first)], narrowed := true }
def OctetMemoryUptoSaid : Prop := octetMemoryUptoRow.holds Tryd.pinned (OpenSpec.upto octetMemorySpec)

end Rows
end Go.Proofs.YtjphdipbajfojaaDoor
