/- What the types of this program are: closed facts. -/
import Derived.Test.YtgofogcfolhonaaProg
import Derived.Test.YtgofogcfolhonaaAm15
import Derived.KernelRfl
set_option linter.unusedVariables false
namespace Go.Proofs.Ytgofogcfolhonaa
open Go
@[simp] theorem tf_sz1 : tsz Try.prog 1 = some 1 := by kernel_rfl
@[simp] theorem tf_by1 : tby Try.prog 1 = some 8 := by kernel_rfl
@[simp] theorem tf_row1 : trow Try.prog 1 = some false := by kernel_rfl
@[simp] theorem tf_und1 : (Try.prog.underlying 1).isSome = true := by kernel_rfl
@[simp] theorem tf_sl1 : tsl Try.prog 1 = none := by kernel_rfl
@[simp] theorem tf_el1 : tel Try.prog 1 = none := by kernel_rfl
@[simp] theorem tf_int1 : tint Try.prog 1 = none := by kernel_rfl
@[simp] theorem tf_str1 : tstr Try.prog 1 = false := by kernel_rfl
@[simp] theorem tf_bool1 : tbool Try.prog 1 = false := by kernel_rfl
@[simp] theorem tf_ptr1 : tptr Try.prog 1 = false := by kernel_rfl
@[simp] theorem tf_bytes1 : tbytes Try.prog 1 = false := by kernel_rfl
@[simp] theorem tf_zc1 : tzc Try.prog 1 = some [.raw .nilFunc] := by kernel_rfl
@[simp] theorem tf_sz2 : tsz Try.prog 2 = some 1 := by kernel_rfl
@[simp] theorem tf_by2 : tby Try.prog 2 = some 8 := by kernel_rfl
@[simp] theorem tf_row2 : trow Try.prog 2 = some false := by kernel_rfl
@[simp] theorem tf_und2 : (Try.prog.underlying 2).isSome = true := by kernel_rfl
@[simp] theorem tf_sl2 : tsl Try.prog 2 = none := by kernel_rfl
@[simp] theorem tf_el2 : tel Try.prog 2 = none := by kernel_rfl
@[simp] theorem tf_int2 : tint Try.prog 2 = some .i64 := by kernel_rfl
@[simp] theorem tf_str2 : tstr Try.prog 2 = false := by kernel_rfl
@[simp] theorem tf_bool2 : tbool Try.prog 2 = false := by kernel_rfl
@[simp] theorem tf_ptr2 : tptr Try.prog 2 = false := by kernel_rfl
@[simp] theorem tf_bytes2 : tbytes Try.prog 2 = false := by kernel_rfl
@[simp] theorem tf_zc2 : tzc Try.prog 2 = some [.int .i64 0] := by kernel_rfl
@[simp] theorem tf_sz3 : tsz Try.prog 3 = some 1 := by kernel_rfl
@[simp] theorem tf_by3 : tby Try.prog 3 = some 8 := by kernel_rfl
@[simp] theorem tf_row3 : trow Try.prog 3 = some false := by kernel_rfl
@[simp] theorem tf_und3 : (Try.prog.underlying 3).isSome = true := by kernel_rfl
@[simp] theorem tf_sl3 : tsl Try.prog 3 = none := by kernel_rfl
@[simp] theorem tf_el3 : tel Try.prog 3 = none := by kernel_rfl
@[simp] theorem tf_int3 : tint Try.prog 3 = some .i64 := by kernel_rfl
@[simp] theorem tf_str3 : tstr Try.prog 3 = false := by kernel_rfl
@[simp] theorem tf_bool3 : tbool Try.prog 3 = false := by kernel_rfl
@[simp] theorem tf_ptr3 : tptr Try.prog 3 = false := by kernel_rfl
@[simp] theorem tf_bytes3 : tbytes Try.prog 3 = false := by kernel_rfl
@[simp] theorem tf_zc3 : tzc Try.prog 3 = some [.int .i64 0] := by kernel_rfl
@[simp] theorem tf_sz4 : tsz Try.prog 4 = some 1 := by kernel_rfl
@[simp] theorem tf_by4 : tby Try.prog 4 = some 1 := by kernel_rfl
@[simp] theorem tf_row4 : trow Try.prog 4 = some false := by kernel_rfl
@[simp] theorem tf_und4 : (Try.prog.underlying 4).isSome = true := by kernel_rfl
@[simp] theorem tf_sl4 : tsl Try.prog 4 = none := by kernel_rfl
@[simp] theorem tf_el4 : tel Try.prog 4 = none := by kernel_rfl
@[simp] theorem tf_int4 : tint Try.prog 4 = none := by kernel_rfl
@[simp] theorem tf_str4 : tstr Try.prog 4 = false := by kernel_rfl
@[simp] theorem tf_bool4 : tbool Try.prog 4 = true := by kernel_rfl
@[simp] theorem tf_ptr4 : tptr Try.prog 4 = false := by kernel_rfl
@[simp] theorem tf_bytes4 : tbytes Try.prog 4 = false := by kernel_rfl
@[simp] theorem tf_zc4 : tzc Try.prog 4 = some [.bool false] := by kernel_rfl
@[simp] theorem tf_sz5 : tsz Try.prog 5 = some 1 := by kernel_rfl
@[simp] theorem tf_by5 : tby Try.prog 5 = some 1 := by kernel_rfl
@[simp] theorem tf_row5 : trow Try.prog 5 = some false := by kernel_rfl
@[simp] theorem tf_und5 : (Try.prog.underlying 5).isSome = true := by kernel_rfl
@[simp] theorem tf_sl5 : tsl Try.prog 5 = none := by kernel_rfl
@[simp] theorem tf_el5 : tel Try.prog 5 = none := by kernel_rfl
@[simp] theorem tf_int5 : tint Try.prog 5 = some .u8 := by kernel_rfl
@[simp] theorem tf_str5 : tstr Try.prog 5 = false := by kernel_rfl
@[simp] theorem tf_bool5 : tbool Try.prog 5 = false := by kernel_rfl
@[simp] theorem tf_ptr5 : tptr Try.prog 5 = false := by kernel_rfl
@[simp] theorem tf_bytes5 : tbytes Try.prog 5 = false := by kernel_rfl
@[simp] theorem tf_zc5 : tzc Try.prog 5 = some [.int .u8 0] := by kernel_rfl
@[simp] theorem tf_sz6 : tsz Try.prog 6 = some 1 := by kernel_rfl
@[simp] theorem tf_by6 : tby Try.prog 6 = some 1 := by kernel_rfl
@[simp] theorem tf_row6 : trow Try.prog 6 = some false := by kernel_rfl
@[simp] theorem tf_und6 : (Try.prog.underlying 6).isSome = true := by kernel_rfl
@[simp] theorem tf_sl6 : tsl Try.prog 6 = none := by kernel_rfl
@[simp] theorem tf_el6 : tel Try.prog 6 = none := by kernel_rfl
@[simp] theorem tf_int6 : tint Try.prog 6 = some .u8 := by kernel_rfl
@[simp] theorem tf_str6 : tstr Try.prog 6 = false := by kernel_rfl
@[simp] theorem tf_bool6 : tbool Try.prog 6 = false := by kernel_rfl
@[simp] theorem tf_ptr6 : tptr Try.prog 6 = false := by kernel_rfl
@[simp] theorem tf_bytes6 : tbytes Try.prog 6 = false := by kernel_rfl
@[simp] theorem tf_zc6 : tzc Try.prog 6 = some [.int .u8 0] := by kernel_rfl
@[simp] theorem tf_sz7 : tsz Try.prog 7 = some 4 := by kernel_rfl
@[simp] theorem tf_by7 : tby Try.prog 7 = some 24 := by kernel_rfl
@[simp] theorem tf_row7 : trow Try.prog 7 = some true := by kernel_rfl
@[simp] theorem tf_und7 : (Try.prog.underlying 7).isSome = true := by kernel_rfl
@[simp] theorem tf_sl7 : tsl Try.prog 7 = none := by kernel_rfl
@[simp] theorem tf_el7 : tel Try.prog 7 = none := by kernel_rfl
@[simp] theorem tf_int7 : tint Try.prog 7 = none := by kernel_rfl
@[simp] theorem tf_str7 : tstr Try.prog 7 = false := by kernel_rfl
@[simp] theorem tf_bool7 : tbool Try.prog 7 = false := by kernel_rfl
@[simp] theorem tf_ptr7 : tptr Try.prog 7 = false := by kernel_rfl
@[simp] theorem tf_bytes7 : tbytes Try.prog 7 = false := by kernel_rfl
@[simp] theorem tf_zc7 : tzc Try.prog 7 = some [.int .i64 0, .int .i64 0, .bool false, .int .u8 0] := by kernel_rfl
@[simp] theorem tf_pl7 : tplaces Try.prog 7 = some [(0, 1), (1, 1), (2, 1), (3, 1)] := by kernel_rfl
@[simp] theorem tf_fld7x0 : tfld Try.prog 7 0 = some (0, 1, false) := by kernel_rfl
@[simp] theorem tf_fld7x1 : tfld Try.prog 7 1 = some (1, 1, false) := by kernel_rfl
@[simp] theorem tf_fld7x2 : tfld Try.prog 7 2 = some (2, 1, false) := by kernel_rfl
@[simp] theorem tf_fld7x3 : tfld Try.prog 7 3 = some (3, 1, false) := by kernel_rfl
@[simp] theorem tf_sz8 : tsz Try.prog 8 = some 4 := by kernel_rfl
@[simp] theorem tf_by8 : tby Try.prog 8 = some 24 := by kernel_rfl
@[simp] theorem tf_row8 : trow Try.prog 8 = some true := by kernel_rfl
@[simp] theorem tf_und8 : (Try.prog.underlying 8).isSome = true := by kernel_rfl
@[simp] theorem tf_sl8 : tsl Try.prog 8 = none := by kernel_rfl
@[simp] theorem tf_el8 : tel Try.prog 8 = none := by kernel_rfl
@[simp] theorem tf_int8 : tint Try.prog 8 = none := by kernel_rfl
@[simp] theorem tf_str8 : tstr Try.prog 8 = false := by kernel_rfl
@[simp] theorem tf_bool8 : tbool Try.prog 8 = false := by kernel_rfl
@[simp] theorem tf_ptr8 : tptr Try.prog 8 = false := by kernel_rfl
@[simp] theorem tf_bytes8 : tbytes Try.prog 8 = false := by kernel_rfl
@[simp] theorem tf_zc8 : tzc Try.prog 8 = some [.int .i64 0, .int .i64 0, .bool false, .int .u8 0] := by kernel_rfl
@[simp] theorem tf_pl8 : tplaces Try.prog 8 = some [(0, 1), (1, 1), (2, 1), (3, 1)] := by kernel_rfl
@[simp] theorem tf_fld8x0 : tfld Try.prog 8 0 = some (0, 1, false) := by kernel_rfl
@[simp] theorem tf_fld8x1 : tfld Try.prog 8 1 = some (1, 1, false) := by kernel_rfl
@[simp] theorem tf_fld8x2 : tfld Try.prog 8 2 = some (2, 1, false) := by kernel_rfl
@[simp] theorem tf_fld8x3 : tfld Try.prog 8 3 = some (3, 1, false) := by kernel_rfl
@[simp] theorem tf_sz9 : tsz Try.prog 9 = some 1 := by kernel_rfl
@[simp] theorem tf_by9 : tby Try.prog 9 = some 16 := by kernel_rfl
@[simp] theorem tf_row9 : trow Try.prog 9 = some false := by kernel_rfl
@[simp] theorem tf_und9 : (Try.prog.underlying 9).isSome = true := by kernel_rfl
@[simp] theorem tf_sl9 : tsl Try.prog 9 = none := by kernel_rfl
@[simp] theorem tf_el9 : tel Try.prog 9 = none := by kernel_rfl
@[simp] theorem tf_int9 : tint Try.prog 9 = none := by kernel_rfl
@[simp] theorem tf_str9 : tstr Try.prog 9 = true := by kernel_rfl
@[simp] theorem tf_bool9 : tbool Try.prog 9 = false := by kernel_rfl
@[simp] theorem tf_ptr9 : tptr Try.prog 9 = false := by kernel_rfl
@[simp] theorem tf_bytes9 : tbytes Try.prog 9 = false := by kernel_rfl
@[simp] theorem tf_zc9 : tzc Try.prog 9 = some [.str []] := by kernel_rfl
@[simp] theorem tf_sz10 : tsz Try.prog 10 = some 1 := by kernel_rfl
@[simp] theorem tf_by10 : tby Try.prog 10 = some 16 := by kernel_rfl
@[simp] theorem tf_row10 : trow Try.prog 10 = some false := by kernel_rfl
@[simp] theorem tf_und10 : (Try.prog.underlying 10).isSome = true := by kernel_rfl
@[simp] theorem tf_sl10 : tsl Try.prog 10 = none := by kernel_rfl
@[simp] theorem tf_el10 : tel Try.prog 10 = none := by kernel_rfl
@[simp] theorem tf_int10 : tint Try.prog 10 = none := by kernel_rfl
@[simp] theorem tf_str10 : tstr Try.prog 10 = true := by kernel_rfl
@[simp] theorem tf_bool10 : tbool Try.prog 10 = false := by kernel_rfl
@[simp] theorem tf_ptr10 : tptr Try.prog 10 = false := by kernel_rfl
@[simp] theorem tf_bytes10 : tbytes Try.prog 10 = false := by kernel_rfl
@[simp] theorem tf_zc10 : tzc Try.prog 10 = some [.str []] := by kernel_rfl
@[simp] theorem tf_sz11 : tsz Try.prog 11 = some 1 := by kernel_rfl
@[simp] theorem tf_by11 : tby Try.prog 11 = some 16 := by kernel_rfl
@[simp] theorem tf_row11 : trow Try.prog 11 = some false := by kernel_rfl
@[simp] theorem tf_und11 : (Try.prog.underlying 11).isSome = true := by kernel_rfl
@[simp] theorem tf_sl11 : tsl Try.prog 11 = none := by kernel_rfl
@[simp] theorem tf_el11 : tel Try.prog 11 = none := by kernel_rfl
@[simp] theorem tf_int11 : tint Try.prog 11 = none := by kernel_rfl
@[simp] theorem tf_str11 : tstr Try.prog 11 = true := by kernel_rfl
@[simp] theorem tf_bool11 : tbool Try.prog 11 = false := by kernel_rfl
@[simp] theorem tf_ptr11 : tptr Try.prog 11 = false := by kernel_rfl
@[simp] theorem tf_bytes11 : tbytes Try.prog 11 = false := by kernel_rfl
@[simp] theorem tf_zc11 : tzc Try.prog 11 = some [.str []] := by kernel_rfl
@[simp] theorem tf_sz12 : tsz Try.prog 12 = some 1 := by kernel_rfl
@[simp] theorem tf_by12 : tby Try.prog 12 = some 8 := by kernel_rfl
@[simp] theorem tf_row12 : trow Try.prog 12 = some false := by kernel_rfl
@[simp] theorem tf_und12 : (Try.prog.underlying 12).isSome = true := by kernel_rfl
@[simp] theorem tf_sl12 : tsl Try.prog 12 = none := by kernel_rfl
@[simp] theorem tf_el12 : tel Try.prog 12 = none := by kernel_rfl
@[simp] theorem tf_int12 : tint Try.prog 12 = some .u64 := by kernel_rfl
@[simp] theorem tf_str12 : tstr Try.prog 12 = false := by kernel_rfl
@[simp] theorem tf_bool12 : tbool Try.prog 12 = false := by kernel_rfl
@[simp] theorem tf_ptr12 : tptr Try.prog 12 = false := by kernel_rfl
@[simp] theorem tf_bytes12 : tbytes Try.prog 12 = false := by kernel_rfl
@[simp] theorem tf_zc12 : tzc Try.prog 12 = some [.int .u64 0] := by kernel_rfl
@[simp] theorem tf_sz13 : tsz Try.prog 13 = some 2 := by kernel_rfl
@[simp] theorem tf_by13 : tby Try.prog 13 = some 24 := by kernel_rfl
@[simp] theorem tf_row13 : trow Try.prog 13 = some true := by kernel_rfl
@[simp] theorem tf_und13 : (Try.prog.underlying 13).isSome = true := by kernel_rfl
@[simp] theorem tf_sl13 : tsl Try.prog 13 = none := by kernel_rfl
@[simp] theorem tf_el13 : tel Try.prog 13 = none := by kernel_rfl
@[simp] theorem tf_int13 : tint Try.prog 13 = none := by kernel_rfl
@[simp] theorem tf_str13 : tstr Try.prog 13 = false := by kernel_rfl
@[simp] theorem tf_bool13 : tbool Try.prog 13 = false := by kernel_rfl
@[simp] theorem tf_ptr13 : tptr Try.prog 13 = false := by kernel_rfl
@[simp] theorem tf_bytes13 : tbytes Try.prog 13 = false := by kernel_rfl
@[simp] theorem tf_zc13 : tzc Try.prog 13 = some [.str [], .int .u64 0] := by kernel_rfl
@[simp] theorem tf_pl13 : tplaces Try.prog 13 = some [(0, 1), (1, 1)] := by kernel_rfl
@[simp] theorem tf_fld13x0 : tfld Try.prog 13 0 = some (0, 1, false) := by kernel_rfl
@[simp] theorem tf_fld13x1 : tfld Try.prog 13 1 = some (1, 1, false) := by kernel_rfl
@[simp] theorem tf_sz14 : tsz Try.prog 14 = some 2 := by kernel_rfl
@[simp] theorem tf_by14 : tby Try.prog 14 = some 24 := by kernel_rfl
@[simp] theorem tf_row14 : trow Try.prog 14 = some true := by kernel_rfl
@[simp] theorem tf_und14 : (Try.prog.underlying 14).isSome = true := by kernel_rfl
@[simp] theorem tf_sl14 : tsl Try.prog 14 = none := by kernel_rfl
@[simp] theorem tf_el14 : tel Try.prog 14 = none := by kernel_rfl
@[simp] theorem tf_int14 : tint Try.prog 14 = none := by kernel_rfl
@[simp] theorem tf_str14 : tstr Try.prog 14 = false := by kernel_rfl
@[simp] theorem tf_bool14 : tbool Try.prog 14 = false := by kernel_rfl
@[simp] theorem tf_ptr14 : tptr Try.prog 14 = false := by kernel_rfl
@[simp] theorem tf_bytes14 : tbytes Try.prog 14 = false := by kernel_rfl
@[simp] theorem tf_zc14 : tzc Try.prog 14 = some [.str [], .int .u64 0] := by kernel_rfl
@[simp] theorem tf_pl14 : tplaces Try.prog 14 = some [(0, 1), (1, 1)] := by kernel_rfl
@[simp] theorem tf_fld14x0 : tfld Try.prog 14 0 = some (0, 1, false) := by kernel_rfl
@[simp] theorem tf_fld14x1 : tfld Try.prog 14 1 = some (1, 1, false) := by kernel_rfl
@[simp] theorem tf_sz15 : tsz Try.prog 15 = some 1 := by kernel_rfl
@[simp] theorem tf_by15 : tby Try.prog 15 = some 8 := by kernel_rfl
@[simp] theorem tf_row15 : trow Try.prog 15 = some false := by kernel_rfl
@[simp] theorem tf_und15 : (Try.prog.underlying 15).isSome = true := by kernel_rfl
@[simp] theorem tf_sl15 : tsl Try.prog 15 = none := by kernel_rfl
@[simp] theorem tf_el15 : tel Try.prog 15 = none := by kernel_rfl
@[simp] theorem tf_int15 : tint Try.prog 15 = none := by kernel_rfl
@[simp] theorem tf_str15 : tstr Try.prog 15 = false := by kernel_rfl
@[simp] theorem tf_bool15 : tbool Try.prog 15 = false := by kernel_rfl
@[simp] theorem tf_ptr15 : tptr Try.prog 15 = true := by kernel_rfl
@[simp] theorem tf_bytes15 : tbytes Try.prog 15 = false := by kernel_rfl
@[simp] theorem tf_zc15 : tzc Try.prog 15 = some [.ptr none] := by kernel_rfl
@[simp] theorem tf_sz16 : tsz Try.prog 16 = some 1 := by kernel_rfl
@[simp] theorem tf_by16 : tby Try.prog 16 = some 8 := by kernel_rfl
@[simp] theorem tf_row16 : trow Try.prog 16 = some false := by kernel_rfl
@[simp] theorem tf_und16 : (Try.prog.underlying 16).isSome = true := by kernel_rfl
@[simp] theorem tf_sl16 : tsl Try.prog 16 = none := by kernel_rfl
@[simp] theorem tf_el16 : tel Try.prog 16 = none := by kernel_rfl
@[simp] theorem tf_int16 : tint Try.prog 16 = none := by kernel_rfl
@[simp] theorem tf_str16 : tstr Try.prog 16 = false := by kernel_rfl
@[simp] theorem tf_bool16 : tbool Try.prog 16 = false := by kernel_rfl
@[simp] theorem tf_ptr16 : tptr Try.prog 16 = true := by kernel_rfl
@[simp] theorem tf_bytes16 : tbytes Try.prog 16 = false := by kernel_rfl
@[simp] theorem tf_zc16 : tzc Try.prog 16 = some [.ptr none] := by kernel_rfl
@[simp] theorem tf_sz17 : tsz Try.prog 17 = some 1 := by kernel_rfl
@[simp] theorem tf_by17 : tby Try.prog 17 = some 8 := by kernel_rfl
@[simp] theorem tf_row17 : trow Try.prog 17 = some false := by kernel_rfl
@[simp] theorem tf_und17 : (Try.prog.underlying 17).isSome = true := by kernel_rfl
@[simp] theorem tf_sl17 : tsl Try.prog 17 = none := by kernel_rfl
@[simp] theorem tf_el17 : tel Try.prog 17 = none := by kernel_rfl
@[simp] theorem tf_int17 : tint Try.prog 17 = none := by kernel_rfl
@[simp] theorem tf_str17 : tstr Try.prog 17 = false := by kernel_rfl
@[simp] theorem tf_bool17 : tbool Try.prog 17 = false := by kernel_rfl
@[simp] theorem tf_ptr17 : tptr Try.prog 17 = true := by kernel_rfl
@[simp] theorem tf_bytes17 : tbytes Try.prog 17 = false := by kernel_rfl
@[simp] theorem tf_zc17 : tzc Try.prog 17 = some [.ptr none] := by kernel_rfl
@[simp] theorem tf_sz18 : tsz Try.prog 18 = some 1 := by kernel_rfl
@[simp] theorem tf_by18 : tby Try.prog 18 = some 8 := by kernel_rfl
@[simp] theorem tf_row18 : trow Try.prog 18 = some true := by kernel_rfl
@[simp] theorem tf_und18 : (Try.prog.underlying 18).isSome = true := by kernel_rfl
@[simp] theorem tf_sl18 : tsl Try.prog 18 = none := by kernel_rfl
@[simp] theorem tf_el18 : tel Try.prog 18 = none := by kernel_rfl
@[simp] theorem tf_int18 : tint Try.prog 18 = none := by kernel_rfl
@[simp] theorem tf_str18 : tstr Try.prog 18 = false := by kernel_rfl
@[simp] theorem tf_bool18 : tbool Try.prog 18 = false := by kernel_rfl
@[simp] theorem tf_ptr18 : tptr Try.prog 18 = false := by kernel_rfl
@[simp] theorem tf_bytes18 : tbytes Try.prog 18 = false := by kernel_rfl
@[simp] theorem tf_zc18 : tzc Try.prog 18 = some [.ptr none] := by kernel_rfl
@[simp] theorem tf_pl18 : tplaces Try.prog 18 = some [(0, 1)] := by kernel_rfl
@[simp] theorem tf_fld18x0 : tfld Try.prog 18 0 = some (0, 1, false) := by kernel_rfl
@[simp] theorem tf_sz19 : tsz Try.prog 19 = some 1 := by kernel_rfl
@[simp] theorem tf_by19 : tby Try.prog 19 = some 8 := by kernel_rfl
@[simp] theorem tf_row19 : trow Try.prog 19 = some true := by kernel_rfl
@[simp] theorem tf_und19 : (Try.prog.underlying 19).isSome = true := by kernel_rfl
@[simp] theorem tf_sl19 : tsl Try.prog 19 = none := by kernel_rfl
@[simp] theorem tf_el19 : tel Try.prog 19 = none := by kernel_rfl
@[simp] theorem tf_int19 : tint Try.prog 19 = none := by kernel_rfl
@[simp] theorem tf_str19 : tstr Try.prog 19 = false := by kernel_rfl
@[simp] theorem tf_bool19 : tbool Try.prog 19 = false := by kernel_rfl
@[simp] theorem tf_ptr19 : tptr Try.prog 19 = false := by kernel_rfl
@[simp] theorem tf_bytes19 : tbytes Try.prog 19 = false := by kernel_rfl
@[simp] theorem tf_zc19 : tzc Try.prog 19 = some [.ptr none] := by kernel_rfl
@[simp] theorem tf_pl19 : tplaces Try.prog 19 = some [(0, 1)] := by kernel_rfl
@[simp] theorem tf_fld19x0 : tfld Try.prog 19 0 = some (0, 1, false) := by kernel_rfl
@[simp] theorem tf_sz20 : tsz Try.prog 20 = some 1 := by kernel_rfl
@[simp] theorem tf_by20 : tby Try.prog 20 = some 16 := by kernel_rfl
@[simp] theorem tf_row20 : trow Try.prog 20 = some false := by kernel_rfl
@[simp] theorem tf_und20 : (Try.prog.underlying 20).isSome = true := by kernel_rfl
@[simp] theorem tf_sl20 : tsl Try.prog 20 = none := by kernel_rfl
@[simp] theorem tf_el20 : tel Try.prog 20 = none := by kernel_rfl
@[simp] theorem tf_int20 : tint Try.prog 20 = none := by kernel_rfl
@[simp] theorem tf_str20 : tstr Try.prog 20 = false := by kernel_rfl
@[simp] theorem tf_bool20 : tbool Try.prog 20 = false := by kernel_rfl
@[simp] theorem tf_ptr20 : tptr Try.prog 20 = false := by kernel_rfl
@[simp] theorem tf_bytes20 : tbytes Try.prog 20 = false := by kernel_rfl
@[simp] theorem tf_zc20 : tzc Try.prog 20 = some [.raw .nilIface] := by kernel_rfl
@[simp] theorem tf_sz21 : tsz Try.prog 21 = some 1 := by kernel_rfl
@[simp] theorem tf_by21 : tby Try.prog 21 = some 4 := by kernel_rfl
@[simp] theorem tf_row21 : trow Try.prog 21 = some false := by kernel_rfl
@[simp] theorem tf_und21 : (Try.prog.underlying 21).isSome = true := by kernel_rfl
@[simp] theorem tf_sl21 : tsl Try.prog 21 = none := by kernel_rfl
@[simp] theorem tf_el21 : tel Try.prog 21 = none := by kernel_rfl
@[simp] theorem tf_int21 : tint Try.prog 21 = some .i32 := by kernel_rfl
@[simp] theorem tf_str21 : tstr Try.prog 21 = false := by kernel_rfl
@[simp] theorem tf_bool21 : tbool Try.prog 21 = false := by kernel_rfl
@[simp] theorem tf_ptr21 : tptr Try.prog 21 = false := by kernel_rfl
@[simp] theorem tf_bytes21 : tbytes Try.prog 21 = false := by kernel_rfl
@[simp] theorem tf_zc21 : tzc Try.prog 21 = some [.int .i32 0] := by kernel_rfl
@[simp] theorem tf_sz22 : tsz Try.prog 22 = some 1 := by kernel_rfl
@[simp] theorem tf_by22 : tby Try.prog 22 = some 24 := by kernel_rfl
@[simp] theorem tf_row22 : trow Try.prog 22 = some false := by kernel_rfl
@[simp] theorem tf_und22 : (Try.prog.underlying 22).isSome = true := by kernel_rfl
@[simp] theorem tf_sl22 : tsl Try.prog 22 = some 30 := by kernel_rfl
@[simp] theorem tf_el22 : tel Try.prog 22 = some 2 := by kernel_rfl
@[simp] theorem tf_int22 : tint Try.prog 22 = none := by kernel_rfl
@[simp] theorem tf_str22 : tstr Try.prog 22 = false := by kernel_rfl
@[simp] theorem tf_bool22 : tbool Try.prog 22 = false := by kernel_rfl
@[simp] theorem tf_ptr22 : tptr Try.prog 22 = false := by kernel_rfl
@[simp] theorem tf_bytes22 : tbytes Try.prog 22 = false := by kernel_rfl
@[simp] theorem tf_zc22 : tzc Try.prog 22 = some [.nil] := by kernel_rfl
@[simp] theorem tf_sz23 : tsz Try.prog 23 = some 1 := by kernel_rfl
@[simp] theorem tf_by23 : tby Try.prog 23 = some 24 := by kernel_rfl
@[simp] theorem tf_row23 : trow Try.prog 23 = some false := by kernel_rfl
@[simp] theorem tf_und23 : (Try.prog.underlying 23).isSome = true := by kernel_rfl
@[simp] theorem tf_sl23 : tsl Try.prog 23 = some 3 := by kernel_rfl
@[simp] theorem tf_el23 : tel Try.prog 23 = some 1 := by kernel_rfl
@[simp] theorem tf_int23 : tint Try.prog 23 = none := by kernel_rfl
@[simp] theorem tf_str23 : tstr Try.prog 23 = false := by kernel_rfl
@[simp] theorem tf_bool23 : tbool Try.prog 23 = false := by kernel_rfl
@[simp] theorem tf_ptr23 : tptr Try.prog 23 = false := by kernel_rfl
@[simp] theorem tf_bytes23 : tbytes Try.prog 23 = false := by kernel_rfl
@[simp] theorem tf_zc23 : tzc Try.prog 23 = some [.nil] := by kernel_rfl
@[simp] theorem tf_sz24 : tsz Try.prog 24 = some 1 := by kernel_rfl
@[simp] theorem tf_by24 : tby Try.prog 24 = some 8 := by kernel_rfl
@[simp] theorem tf_row24 : trow Try.prog 24 = some false := by kernel_rfl
@[simp] theorem tf_und24 : (Try.prog.underlying 24).isSome = true := by kernel_rfl
@[simp] theorem tf_sl24 : tsl Try.prog 24 = none := by kernel_rfl
@[simp] theorem tf_el24 : tel Try.prog 24 = none := by kernel_rfl
@[simp] theorem tf_int24 : tint Try.prog 24 = none := by kernel_rfl
@[simp] theorem tf_str24 : tstr Try.prog 24 = false := by kernel_rfl
@[simp] theorem tf_bool24 : tbool Try.prog 24 = false := by kernel_rfl
@[simp] theorem tf_ptr24 : tptr Try.prog 24 = false := by kernel_rfl
@[simp] theorem tf_bytes24 : tbytes Try.prog 24 = false := by kernel_rfl
@[simp] theorem tf_zc24 : tzc Try.prog 24 = some [.raw .nilFunc] := by kernel_rfl
@[simp] theorem tf_sz25 : tsz Try.prog 25 = some 1 := by kernel_rfl
@[simp] theorem tf_by25 : tby Try.prog 25 = some 8 := by kernel_rfl
@[simp] theorem tf_row25 : trow Try.prog 25 = some false := by kernel_rfl
@[simp] theorem tf_und25 : (Try.prog.underlying 25).isSome = true := by kernel_rfl
@[simp] theorem tf_sl25 : tsl Try.prog 25 = none := by kernel_rfl
@[simp] theorem tf_el25 : tel Try.prog 25 = none := by kernel_rfl
@[simp] theorem tf_int25 : tint Try.prog 25 = none := by kernel_rfl
@[simp] theorem tf_str25 : tstr Try.prog 25 = false := by kernel_rfl
@[simp] theorem tf_bool25 : tbool Try.prog 25 = false := by kernel_rfl
@[simp] theorem tf_ptr25 : tptr Try.prog 25 = true := by kernel_rfl
@[simp] theorem tf_bytes25 : tbytes Try.prog 25 = false := by kernel_rfl
@[simp] theorem tf_zc25 : tzc Try.prog 25 = some [.ptr none] := by kernel_rfl
@[simp] theorem tf_sz26 : tsz Try.prog 26 = some 1 := by kernel_rfl
@[simp] theorem tf_by26 : tby Try.prog 26 = some 8 := by kernel_rfl
@[simp] theorem tf_row26 : trow Try.prog 26 = some false := by kernel_rfl
@[simp] theorem tf_und26 : (Try.prog.underlying 26).isSome = true := by kernel_rfl
@[simp] theorem tf_sl26 : tsl Try.prog 26 = none := by kernel_rfl
@[simp] theorem tf_el26 : tel Try.prog 26 = none := by kernel_rfl
@[simp] theorem tf_int26 : tint Try.prog 26 = some .i64 := by kernel_rfl
@[simp] theorem tf_str26 : tstr Try.prog 26 = false := by kernel_rfl
@[simp] theorem tf_bool26 : tbool Try.prog 26 = false := by kernel_rfl
@[simp] theorem tf_ptr26 : tptr Try.prog 26 = false := by kernel_rfl
@[simp] theorem tf_bytes26 : tbytes Try.prog 26 = false := by kernel_rfl
@[simp] theorem tf_zc26 : tzc Try.prog 26 = some [.int .i64 0] := by kernel_rfl
@[simp] theorem tf_sz28 : tsz Try.prog 28 = some 1 := by kernel_rfl
@[simp] theorem tf_by28 : tby Try.prog 28 = some 8 := by kernel_rfl
@[simp] theorem tf_row28 : trow Try.prog 28 = some false := by kernel_rfl
@[simp] theorem tf_und28 : (Try.prog.underlying 28).isSome = true := by kernel_rfl
@[simp] theorem tf_sl28 : tsl Try.prog 28 = none := by kernel_rfl
@[simp] theorem tf_el28 : tel Try.prog 28 = none := by kernel_rfl
@[simp] theorem tf_int28 : tint Try.prog 28 = none := by kernel_rfl
@[simp] theorem tf_str28 : tstr Try.prog 28 = false := by kernel_rfl
@[simp] theorem tf_bool28 : tbool Try.prog 28 = false := by kernel_rfl
@[simp] theorem tf_ptr28 : tptr Try.prog 28 = false := by kernel_rfl
@[simp] theorem tf_bytes28 : tbytes Try.prog 28 = false := by kernel_rfl
@[simp] theorem tf_zc28 : tzc Try.prog 28 = some [.raw .nilFunc] := by kernel_rfl
@[simp] theorem tf_sz29 : tsz Try.prog 29 = some 2 := by kernel_rfl
@[simp] theorem tf_by29 : tby Try.prog 29 = some 24 := by kernel_rfl
@[simp] theorem tf_row29 : trow Try.prog 29 = some true := by kernel_rfl
@[simp] theorem tf_und29 : (Try.prog.underlying 29).isSome = true := by kernel_rfl
@[simp] theorem tf_sl29 : tsl Try.prog 29 = none := by kernel_rfl
@[simp] theorem tf_el29 : tel Try.prog 29 = none := by kernel_rfl
@[simp] theorem tf_int29 : tint Try.prog 29 = none := by kernel_rfl
@[simp] theorem tf_str29 : tstr Try.prog 29 = false := by kernel_rfl
@[simp] theorem tf_bool29 : tbool Try.prog 29 = false := by kernel_rfl
@[simp] theorem tf_ptr29 : tptr Try.prog 29 = false := by kernel_rfl
@[simp] theorem tf_bytes29 : tbytes Try.prog 29 = false := by kernel_rfl
@[simp] theorem tf_zc29 : tzc Try.prog 29 = some [.int .i64 0, .str []] := by kernel_rfl
@[simp] theorem tf_pl29 : tplaces Try.prog 29 = some [(0, 1), (1, 1)] := by kernel_rfl
@[simp] theorem tf_fld29x0 : tfld Try.prog 29 0 = some (0, 1, false) := by kernel_rfl
@[simp] theorem tf_fld29x1 : tfld Try.prog 29 1 = some (1, 1, false) := by kernel_rfl
@[simp] theorem tf_flat29 : tflat Try.prog 29 = some [0, 2] := by kernel_rfl
@[simp] theorem tf_sz30 : tsz Try.prog 30 = some 2 := by kernel_rfl
@[simp] theorem tf_by30 : tby Try.prog 30 = some 24 := by kernel_rfl
@[simp] theorem tf_row30 : trow Try.prog 30 = some true := by kernel_rfl
@[simp] theorem tf_und30 : (Try.prog.underlying 30).isSome = true := by kernel_rfl
@[simp] theorem tf_sl30 : tsl Try.prog 30 = none := by kernel_rfl
@[simp] theorem tf_el30 : tel Try.prog 30 = none := by kernel_rfl
@[simp] theorem tf_int30 : tint Try.prog 30 = none := by kernel_rfl
@[simp] theorem tf_str30 : tstr Try.prog 30 = false := by kernel_rfl
@[simp] theorem tf_bool30 : tbool Try.prog 30 = false := by kernel_rfl
@[simp] theorem tf_ptr30 : tptr Try.prog 30 = false := by kernel_rfl
@[simp] theorem tf_bytes30 : tbytes Try.prog 30 = false := by kernel_rfl
@[simp] theorem tf_zc30 : tzc Try.prog 30 = some [.int .i64 0, .str []] := by kernel_rfl
@[simp] theorem tf_pl30 : tplaces Try.prog 30 = some [(0, 1), (1, 1)] := by kernel_rfl
@[simp] theorem tf_fld30x0 : tfld Try.prog 30 0 = some (0, 1, false) := by kernel_rfl
@[simp] theorem tf_fld30x1 : tfld Try.prog 30 1 = some (1, 1, false) := by kernel_rfl
@[simp] theorem tf_flat30 : tflat Try.prog 30 = some [0, 2] := by kernel_rfl
@[simp] theorem tf_sz31 : tsz Try.prog 31 = some 1 := by kernel_rfl
@[simp] theorem tf_by31 : tby Try.prog 31 = some 8 := by kernel_rfl
@[simp] theorem tf_row31 : trow Try.prog 31 = some false := by kernel_rfl
@[simp] theorem tf_und31 : (Try.prog.underlying 31).isSome = true := by kernel_rfl
@[simp] theorem tf_sl31 : tsl Try.prog 31 = none := by kernel_rfl
@[simp] theorem tf_el31 : tel Try.prog 31 = none := by kernel_rfl
@[simp] theorem tf_int31 : tint Try.prog 31 = none := by kernel_rfl
@[simp] theorem tf_str31 : tstr Try.prog 31 = false := by kernel_rfl
@[simp] theorem tf_bool31 : tbool Try.prog 31 = false := by kernel_rfl
@[simp] theorem tf_ptr31 : tptr Try.prog 31 = false := by kernel_rfl
@[simp] theorem tf_bytes31 : tbytes Try.prog 31 = false := by kernel_rfl
@[simp] theorem tf_zc31 : tzc Try.prog 31 = some [.raw .nilFunc] := by kernel_rfl
@[simp] theorem tf_sz33 : tsz Try.prog 33 = some 1 := by kernel_rfl
@[simp] theorem tf_by33 : tby Try.prog 33 = some 8 := by kernel_rfl
@[simp] theorem tf_row33 : trow Try.prog 33 = some false := by kernel_rfl
@[simp] theorem tf_und33 : (Try.prog.underlying 33).isSome = true := by kernel_rfl
@[simp] theorem tf_sl33 : tsl Try.prog 33 = none := by kernel_rfl
@[simp] theorem tf_el33 : tel Try.prog 33 = none := by kernel_rfl
@[simp] theorem tf_int33 : tint Try.prog 33 = none := by kernel_rfl
@[simp] theorem tf_str33 : tstr Try.prog 33 = false := by kernel_rfl
@[simp] theorem tf_bool33 : tbool Try.prog 33 = false := by kernel_rfl
@[simp] theorem tf_ptr33 : tptr Try.prog 33 = false := by kernel_rfl
@[simp] theorem tf_bytes33 : tbytes Try.prog 33 = false := by kernel_rfl
@[simp] theorem tf_zc33 : tzc Try.prog 33 = some [.raw .nilFunc] := by kernel_rfl
@[simp] theorem tf_sz34 : tsz Try.prog 34 = some 1 := by kernel_rfl
@[simp] theorem tf_by34 : tby Try.prog 34 = some 8 := by kernel_rfl
@[simp] theorem tf_row34 : trow Try.prog 34 = some false := by kernel_rfl
@[simp] theorem tf_und34 : (Try.prog.underlying 34).isSome = true := by kernel_rfl
@[simp] theorem tf_sl34 : tsl Try.prog 34 = none := by kernel_rfl
@[simp] theorem tf_el34 : tel Try.prog 34 = none := by kernel_rfl
@[simp] theorem tf_int34 : tint Try.prog 34 = none := by kernel_rfl
@[simp] theorem tf_str34 : tstr Try.prog 34 = false := by kernel_rfl
@[simp] theorem tf_bool34 : tbool Try.prog 34 = false := by kernel_rfl
@[simp] theorem tf_ptr34 : tptr Try.prog 34 = false := by kernel_rfl
@[simp] theorem tf_bytes34 : tbytes Try.prog 34 = false := by kernel_rfl
@[simp] theorem tf_zc34 : tzc Try.prog 34 = some [.raw .nilFunc] := by kernel_rfl
@[simp] theorem tf_sz35 : tsz Try.prog 35 = some 1 := by kernel_rfl
@[simp] theorem tf_by35 : tby Try.prog 35 = some 8 := by kernel_rfl
@[simp] theorem tf_row35 : trow Try.prog 35 = some false := by kernel_rfl
@[simp] theorem tf_und35 : (Try.prog.underlying 35).isSome = true := by kernel_rfl
@[simp] theorem tf_sl35 : tsl Try.prog 35 = none := by kernel_rfl
@[simp] theorem tf_el35 : tel Try.prog 35 = none := by kernel_rfl
@[simp] theorem tf_int35 : tint Try.prog 35 = none := by kernel_rfl
@[simp] theorem tf_str35 : tstr Try.prog 35 = false := by kernel_rfl
@[simp] theorem tf_bool35 : tbool Try.prog 35 = false := by kernel_rfl
@[simp] theorem tf_ptr35 : tptr Try.prog 35 = false := by kernel_rfl
@[simp] theorem tf_bytes35 : tbytes Try.prog 35 = false := by kernel_rfl
@[simp] theorem tf_zc35 : tzc Try.prog 35 = some [.raw .nilFunc] := by kernel_rfl
@[simp] theorem tf_sz36 : tsz Try.prog 36 = some 1 := by kernel_rfl
@[simp] theorem tf_by36 : tby Try.prog 36 = some 24 := by kernel_rfl
@[simp] theorem tf_row36 : trow Try.prog 36 = some false := by kernel_rfl
@[simp] theorem tf_und36 : (Try.prog.underlying 36).isSome = true := by kernel_rfl
@[simp] theorem tf_sl36 : tsl Try.prog 36 = some 43 := by kernel_rfl
@[simp] theorem tf_el36 : tel Try.prog 36 = some 3 := by kernel_rfl
@[simp] theorem tf_int36 : tint Try.prog 36 = none := by kernel_rfl
@[simp] theorem tf_str36 : tstr Try.prog 36 = false := by kernel_rfl
@[simp] theorem tf_bool36 : tbool Try.prog 36 = false := by kernel_rfl
@[simp] theorem tf_ptr36 : tptr Try.prog 36 = false := by kernel_rfl
@[simp] theorem tf_bytes36 : tbytes Try.prog 36 = false := by kernel_rfl
@[simp] theorem tf_zc36 : tzc Try.prog 36 = some [.nil] := by kernel_rfl
@[simp] theorem tf_sz37 : tsz Try.prog 37 = some 1 := by kernel_rfl
@[simp] theorem tf_by37 : tby Try.prog 37 = some 8 := by kernel_rfl
@[simp] theorem tf_row37 : trow Try.prog 37 = some false := by kernel_rfl
@[simp] theorem tf_und37 : (Try.prog.underlying 37).isSome = true := by kernel_rfl
@[simp] theorem tf_sl37 : tsl Try.prog 37 = none := by kernel_rfl
@[simp] theorem tf_el37 : tel Try.prog 37 = none := by kernel_rfl
@[simp] theorem tf_int37 : tint Try.prog 37 = none := by kernel_rfl
@[simp] theorem tf_str37 : tstr Try.prog 37 = false := by kernel_rfl
@[simp] theorem tf_bool37 : tbool Try.prog 37 = false := by kernel_rfl
@[simp] theorem tf_ptr37 : tptr Try.prog 37 = true := by kernel_rfl
@[simp] theorem tf_bytes37 : tbytes Try.prog 37 = false := by kernel_rfl
@[simp] theorem tf_zc37 : tzc Try.prog 37 = some [.ptr none] := by kernel_rfl
@[simp] theorem tf_sz39 : tsz Try.prog 39 = some 1 := by kernel_rfl
@[simp] theorem tf_by39 : tby Try.prog 39 = some 8 := by kernel_rfl
@[simp] theorem tf_row39 : trow Try.prog 39 = some false := by kernel_rfl
@[simp] theorem tf_und39 : (Try.prog.underlying 39).isSome = true := by kernel_rfl
@[simp] theorem tf_sl39 : tsl Try.prog 39 = none := by kernel_rfl
@[simp] theorem tf_el39 : tel Try.prog 39 = none := by kernel_rfl
@[simp] theorem tf_int39 : tint Try.prog 39 = none := by kernel_rfl
@[simp] theorem tf_str39 : tstr Try.prog 39 = false := by kernel_rfl
@[simp] theorem tf_bool39 : tbool Try.prog 39 = false := by kernel_rfl
@[simp] theorem tf_ptr39 : tptr Try.prog 39 = false := by kernel_rfl
@[simp] theorem tf_bytes39 : tbytes Try.prog 39 = false := by kernel_rfl
@[simp] theorem tf_zc39 : tzc Try.prog 39 = some [.raw .nilFunc] := by kernel_rfl
@[simp] theorem tf_sz40 : tsz Try.prog 40 = some 1 := by kernel_rfl
@[simp] theorem tf_by40 : tby Try.prog 40 = some 8 := by kernel_rfl
@[simp] theorem tf_row40 : trow Try.prog 40 = some false := by kernel_rfl
@[simp] theorem tf_und40 : (Try.prog.underlying 40).isSome = true := by kernel_rfl
@[simp] theorem tf_sl40 : tsl Try.prog 40 = none := by kernel_rfl
@[simp] theorem tf_el40 : tel Try.prog 40 = none := by kernel_rfl
@[simp] theorem tf_int40 : tint Try.prog 40 = none := by kernel_rfl
@[simp] theorem tf_str40 : tstr Try.prog 40 = false := by kernel_rfl
@[simp] theorem tf_bool40 : tbool Try.prog 40 = false := by kernel_rfl
@[simp] theorem tf_ptr40 : tptr Try.prog 40 = false := by kernel_rfl
@[simp] theorem tf_bytes40 : tbytes Try.prog 40 = false := by kernel_rfl
@[simp] theorem tf_zc40 : tzc Try.prog 40 = some [.raw .nilFunc] := by kernel_rfl
@[simp] theorem tf_sz41 : tsz Try.prog 41 = some 1 := by kernel_rfl
@[simp] theorem tf_by41 : tby Try.prog 41 = some 24 := by kernel_rfl
@[simp] theorem tf_row41 : trow Try.prog 41 = some false := by kernel_rfl
@[simp] theorem tf_und41 : (Try.prog.underlying 41).isSome = true := by kernel_rfl
@[simp] theorem tf_sl41 : tsl Try.prog 41 = some 9 := by kernel_rfl
@[simp] theorem tf_el41 : tel Try.prog 41 = some 1 := by kernel_rfl
@[simp] theorem tf_int41 : tint Try.prog 41 = none := by kernel_rfl
@[simp] theorem tf_str41 : tstr Try.prog 41 = false := by kernel_rfl
@[simp] theorem tf_bool41 : tbool Try.prog 41 = false := by kernel_rfl
@[simp] theorem tf_ptr41 : tptr Try.prog 41 = false := by kernel_rfl
@[simp] theorem tf_bytes41 : tbytes Try.prog 41 = false := by kernel_rfl
@[simp] theorem tf_zc41 : tzc Try.prog 41 = some [.nil] := by kernel_rfl
@[simp] theorem tf_sz42 : tsz Try.prog 42 = some 3 := by kernel_rfl
@[simp] theorem tf_by42 : tby Try.prog 42 = some 32 := by kernel_rfl
@[simp] theorem tf_row42 : trow Try.prog 42 = some true := by kernel_rfl
@[simp] theorem tf_und42 : (Try.prog.underlying 42).isSome = true := by kernel_rfl
@[simp] theorem tf_sl42 : tsl Try.prog 42 = none := by kernel_rfl
@[simp] theorem tf_el42 : tel Try.prog 42 = none := by kernel_rfl
@[simp] theorem tf_int42 : tint Try.prog 42 = none := by kernel_rfl
@[simp] theorem tf_str42 : tstr Try.prog 42 = false := by kernel_rfl
@[simp] theorem tf_bool42 : tbool Try.prog 42 = false := by kernel_rfl
@[simp] theorem tf_ptr42 : tptr Try.prog 42 = false := by kernel_rfl
@[simp] theorem tf_bytes42 : tbytes Try.prog 42 = false := by kernel_rfl
@[simp] theorem tf_zc42 : tzc Try.prog 42 = some [.int .i64 0, .int .i64 0, .str []] := by kernel_rfl
@[simp] theorem tf_pl42 : tplaces Try.prog 42 = some [(0, 1), (1, 1), (2, 1)] := by kernel_rfl
@[simp] theorem tf_fld42x0 : tfld Try.prog 42 0 = some (0, 1, false) := by kernel_rfl
@[simp] theorem tf_fld42x1 : tfld Try.prog 42 1 = some (1, 1, false) := by kernel_rfl
@[simp] theorem tf_fld42x2 : tfld Try.prog 42 2 = some (2, 1, false) := by kernel_rfl
@[simp] theorem tf_flat42 : tflat Try.prog 42 = some [0, 0, 2] := by kernel_rfl
@[simp] theorem tf_sz43 : tsz Try.prog 43 = some 3 := by kernel_rfl
@[simp] theorem tf_by43 : tby Try.prog 43 = some 32 := by kernel_rfl
@[simp] theorem tf_row43 : trow Try.prog 43 = some true := by kernel_rfl
@[simp] theorem tf_und43 : (Try.prog.underlying 43).isSome = true := by kernel_rfl
@[simp] theorem tf_sl43 : tsl Try.prog 43 = none := by kernel_rfl
@[simp] theorem tf_el43 : tel Try.prog 43 = none := by kernel_rfl
@[simp] theorem tf_int43 : tint Try.prog 43 = none := by kernel_rfl
@[simp] theorem tf_str43 : tstr Try.prog 43 = false := by kernel_rfl
@[simp] theorem tf_bool43 : tbool Try.prog 43 = false := by kernel_rfl
@[simp] theorem tf_ptr43 : tptr Try.prog 43 = false := by kernel_rfl
@[simp] theorem tf_bytes43 : tbytes Try.prog 43 = false := by kernel_rfl
@[simp] theorem tf_zc43 : tzc Try.prog 43 = some [.int .i64 0, .int .i64 0, .str []] := by kernel_rfl
@[simp] theorem tf_pl43 : tplaces Try.prog 43 = some [(0, 1), (1, 1), (2, 1)] := by kernel_rfl
@[simp] theorem tf_fld43x0 : tfld Try.prog 43 0 = some (0, 1, false) := by kernel_rfl
@[simp] theorem tf_fld43x1 : tfld Try.prog 43 1 = some (1, 1, false) := by kernel_rfl
@[simp] theorem tf_fld43x2 : tfld Try.prog 43 2 = some (2, 1, false) := by kernel_rfl
@[simp] theorem tf_flat43 : tflat Try.prog 43 = some [0, 0, 2] := by kernel_rfl
@[simp] theorem tf_sz44 : tsz Try.prog 44 = some 1 := by kernel_rfl
@[simp] theorem tf_by44 : tby Try.prog 44 = some 8 := by kernel_rfl
@[simp] theorem tf_row44 : trow Try.prog 44 = some false := by kernel_rfl
@[simp] theorem tf_und44 : (Try.prog.underlying 44).isSome = true := by kernel_rfl
@[simp] theorem tf_sl44 : tsl Try.prog 44 = none := by kernel_rfl
@[simp] theorem tf_el44 : tel Try.prog 44 = none := by kernel_rfl
@[simp] theorem tf_int44 : tint Try.prog 44 = none := by kernel_rfl
@[simp] theorem tf_str44 : tstr Try.prog 44 = false := by kernel_rfl
@[simp] theorem tf_bool44 : tbool Try.prog 44 = false := by kernel_rfl
@[simp] theorem tf_ptr44 : tptr Try.prog 44 = false := by kernel_rfl
@[simp] theorem tf_bytes44 : tbytes Try.prog 44 = false := by kernel_rfl
@[simp] theorem tf_zc44 : tzc Try.prog 44 = some [.raw .nilFunc] := by kernel_rfl
@[simp] theorem tf_sz45 : tsz Try.prog 45 = some 1 := by kernel_rfl
@[simp] theorem tf_by45 : tby Try.prog 45 = some 8 := by kernel_rfl
@[simp] theorem tf_row45 : trow Try.prog 45 = some false := by kernel_rfl
@[simp] theorem tf_und45 : (Try.prog.underlying 45).isSome = true := by kernel_rfl
@[simp] theorem tf_sl45 : tsl Try.prog 45 = none := by kernel_rfl
@[simp] theorem tf_el45 : tel Try.prog 45 = none := by kernel_rfl
@[simp] theorem tf_int45 : tint Try.prog 45 = none := by kernel_rfl
@[simp] theorem tf_str45 : tstr Try.prog 45 = false := by kernel_rfl
@[simp] theorem tf_bool45 : tbool Try.prog 45 = false := by kernel_rfl
@[simp] theorem tf_ptr45 : tptr Try.prog 45 = false := by kernel_rfl
@[simp] theorem tf_bytes45 : tbytes Try.prog 45 = false := by kernel_rfl
@[simp] theorem tf_zc45 : tzc Try.prog 45 = some [.raw .nilFunc] := by kernel_rfl
@[simp] theorem tf_sz47 : tsz Try.prog 47 = some 1 := by kernel_rfl
@[simp] theorem tf_by47 : tby Try.prog 47 = some 8 := by kernel_rfl
@[simp] theorem tf_row47 : trow Try.prog 47 = some false := by kernel_rfl
@[simp] theorem tf_und47 : (Try.prog.underlying 47).isSome = true := by kernel_rfl
@[simp] theorem tf_sl47 : tsl Try.prog 47 = none := by kernel_rfl
@[simp] theorem tf_el47 : tel Try.prog 47 = none := by kernel_rfl
@[simp] theorem tf_int47 : tint Try.prog 47 = none := by kernel_rfl
@[simp] theorem tf_str47 : tstr Try.prog 47 = false := by kernel_rfl
@[simp] theorem tf_bool47 : tbool Try.prog 47 = false := by kernel_rfl
@[simp] theorem tf_ptr47 : tptr Try.prog 47 = false := by kernel_rfl
@[simp] theorem tf_bytes47 : tbytes Try.prog 47 = false := by kernel_rfl
@[simp] theorem tf_zc47 : tzc Try.prog 47 = some [.raw .nilFunc] := by kernel_rfl
@[simp] theorem tf_sz49 : tsz Try.prog 49 = some 1 := by kernel_rfl
@[simp] theorem tf_by49 : tby Try.prog 49 = some 8 := by kernel_rfl
@[simp] theorem tf_row49 : trow Try.prog 49 = some false := by kernel_rfl
@[simp] theorem tf_und49 : (Try.prog.underlying 49).isSome = true := by kernel_rfl
@[simp] theorem tf_sl49 : tsl Try.prog 49 = none := by kernel_rfl
@[simp] theorem tf_el49 : tel Try.prog 49 = none := by kernel_rfl
@[simp] theorem tf_int49 : tint Try.prog 49 = none := by kernel_rfl
@[simp] theorem tf_str49 : tstr Try.prog 49 = false := by kernel_rfl
@[simp] theorem tf_bool49 : tbool Try.prog 49 = false := by kernel_rfl
@[simp] theorem tf_ptr49 : tptr Try.prog 49 = false := by kernel_rfl
@[simp] theorem tf_bytes49 : tbytes Try.prog 49 = false := by kernel_rfl
@[simp] theorem tf_zc49 : tzc Try.prog 49 = some [.raw .nilFunc] := by kernel_rfl
@[simp] theorem tf_sz50 : tsz Try.prog 50 = some 1 := by kernel_rfl
@[simp] theorem tf_by50 : tby Try.prog 50 = some 8 := by kernel_rfl
@[simp] theorem tf_row50 : trow Try.prog 50 = some false := by kernel_rfl
@[simp] theorem tf_und50 : (Try.prog.underlying 50).isSome = true := by kernel_rfl
@[simp] theorem tf_sl50 : tsl Try.prog 50 = none := by kernel_rfl
@[simp] theorem tf_el50 : tel Try.prog 50 = none := by kernel_rfl
@[simp] theorem tf_int50 : tint Try.prog 50 = none := by kernel_rfl
@[simp] theorem tf_str50 : tstr Try.prog 50 = false := by kernel_rfl
@[simp] theorem tf_bool50 : tbool Try.prog 50 = false := by kernel_rfl
@[simp] theorem tf_ptr50 : tptr Try.prog 50 = false := by kernel_rfl
@[simp] theorem tf_bytes50 : tbytes Try.prog 50 = false := by kernel_rfl
@[simp] theorem tf_zc50 : tzc Try.prog 50 = some [.raw .nilFunc] := by kernel_rfl
@[simp] theorem tf_sz52 : tsz Try.prog 52 = some 1 := by kernel_rfl
@[simp] theorem tf_by52 : tby Try.prog 52 = some 8 := by kernel_rfl
@[simp] theorem tf_row52 : trow Try.prog 52 = some false := by kernel_rfl
@[simp] theorem tf_und52 : (Try.prog.underlying 52).isSome = true := by kernel_rfl
@[simp] theorem tf_sl52 : tsl Try.prog 52 = none := by kernel_rfl
@[simp] theorem tf_el52 : tel Try.prog 52 = none := by kernel_rfl
@[simp] theorem tf_int52 : tint Try.prog 52 = none := by kernel_rfl
@[simp] theorem tf_str52 : tstr Try.prog 52 = false := by kernel_rfl
@[simp] theorem tf_bool52 : tbool Try.prog 52 = false := by kernel_rfl
@[simp] theorem tf_ptr52 : tptr Try.prog 52 = false := by kernel_rfl
@[simp] theorem tf_bytes52 : tbytes Try.prog 52 = false := by kernel_rfl
@[simp] theorem tf_zc52 : tzc Try.prog 52 = some [.raw .nilFunc] := by kernel_rfl
@[simp] theorem tf_sz53 : tsz Try.prog 53 = some 1 := by kernel_rfl
@[simp] theorem tf_by53 : tby Try.prog 53 = some 8 := by kernel_rfl
@[simp] theorem tf_row53 : trow Try.prog 53 = some false := by kernel_rfl
@[simp] theorem tf_und53 : (Try.prog.underlying 53).isSome = true := by kernel_rfl
@[simp] theorem tf_sl53 : tsl Try.prog 53 = none := by kernel_rfl
@[simp] theorem tf_el53 : tel Try.prog 53 = none := by kernel_rfl
@[simp] theorem tf_int53 : tint Try.prog 53 = none := by kernel_rfl
@[simp] theorem tf_str53 : tstr Try.prog 53 = false := by kernel_rfl
@[simp] theorem tf_bool53 : tbool Try.prog 53 = false := by kernel_rfl
@[simp] theorem tf_ptr53 : tptr Try.prog 53 = false := by kernel_rfl
@[simp] theorem tf_bytes53 : tbytes Try.prog 53 = false := by kernel_rfl
@[simp] theorem tf_zc53 : tzc Try.prog 53 = some [.raw .nilFunc] := by kernel_rfl
@[simp] theorem tf_sz54 : tsz Try.prog 54 = some 1 := by kernel_rfl
@[simp] theorem tf_by54 : tby Try.prog 54 = some 8 := by kernel_rfl
@[simp] theorem tf_row54 : trow Try.prog 54 = some false := by kernel_rfl
@[simp] theorem tf_und54 : (Try.prog.underlying 54).isSome = true := by kernel_rfl
@[simp] theorem tf_sl54 : tsl Try.prog 54 = none := by kernel_rfl
@[simp] theorem tf_el54 : tel Try.prog 54 = none := by kernel_rfl
@[simp] theorem tf_int54 : tint Try.prog 54 = none := by kernel_rfl
@[simp] theorem tf_str54 : tstr Try.prog 54 = false := by kernel_rfl
@[simp] theorem tf_bool54 : tbool Try.prog 54 = false := by kernel_rfl
@[simp] theorem tf_ptr54 : tptr Try.prog 54 = true := by kernel_rfl
@[simp] theorem tf_bytes54 : tbytes Try.prog 54 = false := by kernel_rfl
@[simp] theorem tf_zc54 : tzc Try.prog 54 = some [.ptr none] := by kernel_rfl
@[simp] theorem tf_sz56 : tsz Try.prog 56 = some 1 := by kernel_rfl
@[simp] theorem tf_by56 : tby Try.prog 56 = some 8 := by kernel_rfl
@[simp] theorem tf_row56 : trow Try.prog 56 = some false := by kernel_rfl
@[simp] theorem tf_und56 : (Try.prog.underlying 56).isSome = true := by kernel_rfl
@[simp] theorem tf_sl56 : tsl Try.prog 56 = none := by kernel_rfl
@[simp] theorem tf_el56 : tel Try.prog 56 = none := by kernel_rfl
@[simp] theorem tf_int56 : tint Try.prog 56 = none := by kernel_rfl
@[simp] theorem tf_str56 : tstr Try.prog 56 = false := by kernel_rfl
@[simp] theorem tf_bool56 : tbool Try.prog 56 = false := by kernel_rfl
@[simp] theorem tf_ptr56 : tptr Try.prog 56 = false := by kernel_rfl
@[simp] theorem tf_bytes56 : tbytes Try.prog 56 = false := by kernel_rfl
@[simp] theorem tf_zc56 : tzc Try.prog 56 = some [.raw .nilFunc] := by kernel_rfl
@[simp] theorem tf_sz57 : tsz Try.prog 57 = some 1 := by kernel_rfl
@[simp] theorem tf_by57 : tby Try.prog 57 = some 8 := by kernel_rfl
@[simp] theorem tf_row57 : trow Try.prog 57 = some false := by kernel_rfl
@[simp] theorem tf_und57 : (Try.prog.underlying 57).isSome = true := by kernel_rfl
@[simp] theorem tf_sl57 : tsl Try.prog 57 = none := by kernel_rfl
@[simp] theorem tf_el57 : tel Try.prog 57 = none := by kernel_rfl
@[simp] theorem tf_int57 : tint Try.prog 57 = none := by kernel_rfl
@[simp] theorem tf_str57 : tstr Try.prog 57 = false := by kernel_rfl
@[simp] theorem tf_bool57 : tbool Try.prog 57 = false := by kernel_rfl
@[simp] theorem tf_ptr57 : tptr Try.prog 57 = false := by kernel_rfl
@[simp] theorem tf_bytes57 : tbytes Try.prog 57 = false := by kernel_rfl
@[simp] theorem tf_zc57 : tzc Try.prog 57 = some [.raw .nilFunc] := by kernel_rfl
@[simp] theorem tf_sz58 : tsz Try.prog 58 = some 1 := by kernel_rfl
@[simp] theorem tf_by58 : tby Try.prog 58 = some 8 := by kernel_rfl
@[simp] theorem tf_row58 : trow Try.prog 58 = some false := by kernel_rfl
@[simp] theorem tf_und58 : (Try.prog.underlying 58).isSome = true := by kernel_rfl
@[simp] theorem tf_sl58 : tsl Try.prog 58 = none := by kernel_rfl
@[simp] theorem tf_el58 : tel Try.prog 58 = none := by kernel_rfl
@[simp] theorem tf_int58 : tint Try.prog 58 = none := by kernel_rfl
@[simp] theorem tf_str58 : tstr Try.prog 58 = false := by kernel_rfl
@[simp] theorem tf_bool58 : tbool Try.prog 58 = false := by kernel_rfl
@[simp] theorem tf_ptr58 : tptr Try.prog 58 = false := by kernel_rfl
@[simp] theorem tf_bytes58 : tbytes Try.prog 58 = false := by kernel_rfl
@[simp] theorem tf_zc58 : tzc Try.prog 58 = some [.raw .nilFunc] := by kernel_rfl
@[simp] theorem tf_sz59 : tsz Try.prog 59 = some 1 := by kernel_rfl
@[simp] theorem tf_by59 : tby Try.prog 59 = some 8 := by kernel_rfl
@[simp] theorem tf_row59 : trow Try.prog 59 = some false := by kernel_rfl
@[simp] theorem tf_und59 : (Try.prog.underlying 59).isSome = true := by kernel_rfl
@[simp] theorem tf_sl59 : tsl Try.prog 59 = none := by kernel_rfl
@[simp] theorem tf_el59 : tel Try.prog 59 = none := by kernel_rfl
@[simp] theorem tf_int59 : tint Try.prog 59 = none := by kernel_rfl
@[simp] theorem tf_str59 : tstr Try.prog 59 = false := by kernel_rfl
@[simp] theorem tf_bool59 : tbool Try.prog 59 = false := by kernel_rfl
@[simp] theorem tf_ptr59 : tptr Try.prog 59 = false := by kernel_rfl
@[simp] theorem tf_bytes59 : tbytes Try.prog 59 = false := by kernel_rfl
@[simp] theorem tf_zc59 : tzc Try.prog 59 = some [.raw .nilFunc] := by kernel_rfl
@[simp] theorem tf_sz60 : tsz Try.prog 60 = some 1 := by kernel_rfl
@[simp] theorem tf_by60 : tby Try.prog 60 = some 8 := by kernel_rfl
@[simp] theorem tf_row60 : trow Try.prog 60 = some false := by kernel_rfl
@[simp] theorem tf_und60 : (Try.prog.underlying 60).isSome = true := by kernel_rfl
@[simp] theorem tf_sl60 : tsl Try.prog 60 = none := by kernel_rfl
@[simp] theorem tf_el60 : tel Try.prog 60 = none := by kernel_rfl
@[simp] theorem tf_int60 : tint Try.prog 60 = none := by kernel_rfl
@[simp] theorem tf_str60 : tstr Try.prog 60 = false := by kernel_rfl
@[simp] theorem tf_bool60 : tbool Try.prog 60 = false := by kernel_rfl
@[simp] theorem tf_ptr60 : tptr Try.prog 60 = false := by kernel_rfl
@[simp] theorem tf_bytes60 : tbytes Try.prog 60 = false := by kernel_rfl
@[simp] theorem tf_zc60 : tzc Try.prog 60 = some [.raw .nilFunc] := by kernel_rfl
@[simp] theorem tf_sz62 : tsz Try.prog 62 = some 1 := by kernel_rfl
@[simp] theorem tf_by62 : tby Try.prog 62 = some 8 := by kernel_rfl
@[simp] theorem tf_row62 : trow Try.prog 62 = some false := by kernel_rfl
@[simp] theorem tf_und62 : (Try.prog.underlying 62).isSome = true := by kernel_rfl
@[simp] theorem tf_sl62 : tsl Try.prog 62 = none := by kernel_rfl
@[simp] theorem tf_el62 : tel Try.prog 62 = none := by kernel_rfl
@[simp] theorem tf_int62 : tint Try.prog 62 = none := by kernel_rfl
@[simp] theorem tf_str62 : tstr Try.prog 62 = false := by kernel_rfl
@[simp] theorem tf_bool62 : tbool Try.prog 62 = false := by kernel_rfl
@[simp] theorem tf_ptr62 : tptr Try.prog 62 = false := by kernel_rfl
@[simp] theorem tf_bytes62 : tbytes Try.prog 62 = false := by kernel_rfl
@[simp] theorem tf_zc62 : tzc Try.prog 62 = some [.raw .nilFunc] := by kernel_rfl
@[simp] theorem tf_sz63 : tsz Try.prog 63 = some 1 := by kernel_rfl
@[simp] theorem tf_by63 : tby Try.prog 63 = some 8 := by kernel_rfl
@[simp] theorem tf_row63 : trow Try.prog 63 = some false := by kernel_rfl
@[simp] theorem tf_und63 : (Try.prog.underlying 63).isSome = true := by kernel_rfl
@[simp] theorem tf_sl63 : tsl Try.prog 63 = none := by kernel_rfl
@[simp] theorem tf_el63 : tel Try.prog 63 = none := by kernel_rfl
@[simp] theorem tf_int63 : tint Try.prog 63 = none := by kernel_rfl
@[simp] theorem tf_str63 : tstr Try.prog 63 = false := by kernel_rfl
@[simp] theorem tf_bool63 : tbool Try.prog 63 = false := by kernel_rfl
@[simp] theorem tf_ptr63 : tptr Try.prog 63 = false := by kernel_rfl
@[simp] theorem tf_bytes63 : tbytes Try.prog 63 = false := by kernel_rfl
@[simp] theorem tf_zc63 : tzc Try.prog 63 = some [.raw .nilFunc] := by kernel_rfl
@[simp] theorem tf_sz64 : tsz Try.prog 64 = some 1 := by kernel_rfl
@[simp] theorem tf_by64 : tby Try.prog 64 = some 24 := by kernel_rfl
@[simp] theorem tf_row64 : trow Try.prog 64 = some false := by kernel_rfl
@[simp] theorem tf_und64 : (Try.prog.underlying 64).isSome = true := by kernel_rfl
@[simp] theorem tf_sl64 : tsl Try.prog 64 = some 66 := by kernel_rfl
@[simp] theorem tf_el64 : tel Try.prog 64 = some 1 := by kernel_rfl
@[simp] theorem tf_int64 : tint Try.prog 64 = none := by kernel_rfl
@[simp] theorem tf_str64 : tstr Try.prog 64 = false := by kernel_rfl
@[simp] theorem tf_bool64 : tbool Try.prog 64 = false := by kernel_rfl
@[simp] theorem tf_ptr64 : tptr Try.prog 64 = false := by kernel_rfl
@[simp] theorem tf_bytes64 : tbytes Try.prog 64 = false := by kernel_rfl
@[simp] theorem tf_zc64 : tzc Try.prog 64 = some [.nil] := by kernel_rfl
@[simp] theorem tf_sz65 : tsz Try.prog 65 = some 1 := by kernel_rfl
@[simp] theorem tf_by65 : tby Try.prog 65 = some 8 := by kernel_rfl
@[simp] theorem tf_row65 : trow Try.prog 65 = some false := by kernel_rfl
@[simp] theorem tf_und65 : (Try.prog.underlying 65).isSome = true := by kernel_rfl
@[simp] theorem tf_sl65 : tsl Try.prog 65 = none := by kernel_rfl
@[simp] theorem tf_el65 : tel Try.prog 65 = none := by kernel_rfl
@[simp] theorem tf_int65 : tint Try.prog 65 = none := by kernel_rfl
@[simp] theorem tf_str65 : tstr Try.prog 65 = false := by kernel_rfl
@[simp] theorem tf_bool65 : tbool Try.prog 65 = false := by kernel_rfl
@[simp] theorem tf_ptr65 : tptr Try.prog 65 = true := by kernel_rfl
@[simp] theorem tf_bytes65 : tbytes Try.prog 65 = false := by kernel_rfl
@[simp] theorem tf_zc65 : tzc Try.prog 65 = some [.ptr none] := by kernel_rfl
@[simp] theorem tf_sz66 : tsz Try.prog 66 = some 1 := by kernel_rfl
@[simp] theorem tf_by66 : tby Try.prog 66 = some 24 := by kernel_rfl
@[simp] theorem tf_row66 : trow Try.prog 66 = some false := by kernel_rfl
@[simp] theorem tf_und66 : (Try.prog.underlying 66).isSome = true := by kernel_rfl
@[simp] theorem tf_sl66 : tsl Try.prog 66 = some 5 := by kernel_rfl
@[simp] theorem tf_el66 : tel Try.prog 66 = some 1 := by kernel_rfl
@[simp] theorem tf_int66 : tint Try.prog 66 = none := by kernel_rfl
@[simp] theorem tf_str66 : tstr Try.prog 66 = false := by kernel_rfl
@[simp] theorem tf_bool66 : tbool Try.prog 66 = false := by kernel_rfl
@[simp] theorem tf_ptr66 : tptr Try.prog 66 = false := by kernel_rfl
@[simp] theorem tf_bytes66 : tbytes Try.prog 66 = true := by kernel_rfl
@[simp] theorem tf_zc66 : tzc Try.prog 66 = some [.nil] := by kernel_rfl
@[simp] theorem tf_sz67 : tsz Try.prog 67 = some 3 := by kernel_rfl
@[simp] theorem tf_by67 : tby Try.prog 67 = some 40 := by kernel_rfl
@[simp] theorem tf_row67 : trow Try.prog 67 = some true := by kernel_rfl
@[simp] theorem tf_und67 : (Try.prog.underlying 67).isSome = true := by kernel_rfl
@[simp] theorem tf_sl67 : tsl Try.prog 67 = none := by kernel_rfl
@[simp] theorem tf_el67 : tel Try.prog 67 = none := by kernel_rfl
@[simp] theorem tf_int67 : tint Try.prog 67 = none := by kernel_rfl
@[simp] theorem tf_str67 : tstr Try.prog 67 = false := by kernel_rfl
@[simp] theorem tf_bool67 : tbool Try.prog 67 = false := by kernel_rfl
@[simp] theorem tf_ptr67 : tptr Try.prog 67 = false := by kernel_rfl
@[simp] theorem tf_bytes67 : tbytes Try.prog 67 = false := by kernel_rfl
@[simp] theorem tf_zc67 : tzc Try.prog 67 = some [.int .i64 0, .nil, .int .i64 0] := by kernel_rfl
@[simp] theorem tf_pl67 : tplaces Try.prog 67 = some [(0, 1), (1, 1), (2, 1)] := by kernel_rfl
@[simp] theorem tf_fld67x0 : tfld Try.prog 67 0 = some (0, 1, false) := by kernel_rfl
@[simp] theorem tf_fld67x1 : tfld Try.prog 67 1 = some (1, 1, false) := by kernel_rfl
@[simp] theorem tf_fld67x2 : tfld Try.prog 67 2 = some (2, 1, false) := by kernel_rfl
@[simp] theorem tf_sz68 : tsz Try.prog 68 = some 3 := by kernel_rfl
@[simp] theorem tf_by68 : tby Try.prog 68 = some 40 := by kernel_rfl
@[simp] theorem tf_row68 : trow Try.prog 68 = some true := by kernel_rfl
@[simp] theorem tf_und68 : (Try.prog.underlying 68).isSome = true := by kernel_rfl
@[simp] theorem tf_sl68 : tsl Try.prog 68 = none := by kernel_rfl
@[simp] theorem tf_el68 : tel Try.prog 68 = none := by kernel_rfl
@[simp] theorem tf_int68 : tint Try.prog 68 = none := by kernel_rfl
@[simp] theorem tf_str68 : tstr Try.prog 68 = false := by kernel_rfl
@[simp] theorem tf_bool68 : tbool Try.prog 68 = false := by kernel_rfl
@[simp] theorem tf_ptr68 : tptr Try.prog 68 = false := by kernel_rfl
@[simp] theorem tf_bytes68 : tbytes Try.prog 68 = false := by kernel_rfl
@[simp] theorem tf_zc68 : tzc Try.prog 68 = some [.int .i64 0, .nil, .int .i64 0] := by kernel_rfl
@[simp] theorem tf_pl68 : tplaces Try.prog 68 = some [(0, 1), (1, 1), (2, 1)] := by kernel_rfl
@[simp] theorem tf_fld68x0 : tfld Try.prog 68 0 = some (0, 1, false) := by kernel_rfl
@[simp] theorem tf_fld68x1 : tfld Try.prog 68 1 = some (1, 1, false) := by kernel_rfl
@[simp] theorem tf_fld68x2 : tfld Try.prog 68 2 = some (2, 1, false) := by kernel_rfl
@[simp] theorem tf_sz70 : tsz Try.prog 70 = some 1 := by kernel_rfl
@[simp] theorem tf_by70 : tby Try.prog 70 = some 8 := by kernel_rfl
@[simp] theorem tf_row70 : trow Try.prog 70 = some false := by kernel_rfl
@[simp] theorem tf_und70 : (Try.prog.underlying 70).isSome = true := by kernel_rfl
@[simp] theorem tf_sl70 : tsl Try.prog 70 = none := by kernel_rfl
@[simp] theorem tf_el70 : tel Try.prog 70 = none := by kernel_rfl
@[simp] theorem tf_int70 : tint Try.prog 70 = none := by kernel_rfl
@[simp] theorem tf_str70 : tstr Try.prog 70 = false := by kernel_rfl
@[simp] theorem tf_bool70 : tbool Try.prog 70 = false := by kernel_rfl
@[simp] theorem tf_ptr70 : tptr Try.prog 70 = false := by kernel_rfl
@[simp] theorem tf_bytes70 : tbytes Try.prog 70 = false := by kernel_rfl
@[simp] theorem tf_zc70 : tzc Try.prog 70 = some [.raw .nilFunc] := by kernel_rfl
@[simp] theorem tf_sz71 : tsz Try.prog 71 = some 1 := by kernel_rfl
@[simp] theorem tf_by71 : tby Try.prog 71 = some 8 := by kernel_rfl
@[simp] theorem tf_row71 : trow Try.prog 71 = some false := by kernel_rfl
@[simp] theorem tf_und71 : (Try.prog.underlying 71).isSome = true := by kernel_rfl
@[simp] theorem tf_sl71 : tsl Try.prog 71 = none := by kernel_rfl
@[simp] theorem tf_el71 : tel Try.prog 71 = none := by kernel_rfl
@[simp] theorem tf_int71 : tint Try.prog 71 = none := by kernel_rfl
@[simp] theorem tf_str71 : tstr Try.prog 71 = false := by kernel_rfl
@[simp] theorem tf_bool71 : tbool Try.prog 71 = false := by kernel_rfl
@[simp] theorem tf_ptr71 : tptr Try.prog 71 = false := by kernel_rfl
@[simp] theorem tf_bytes71 : tbytes Try.prog 71 = false := by kernel_rfl
@[simp] theorem tf_zc71 : tzc Try.prog 71 = some [.raw .nilFunc] := by kernel_rfl
@[simp] theorem tf_sz73 : tsz Try.prog 73 = some 1 := by kernel_rfl
@[simp] theorem tf_by73 : tby Try.prog 73 = some 8 := by kernel_rfl
@[simp] theorem tf_row73 : trow Try.prog 73 = some false := by kernel_rfl
@[simp] theorem tf_und73 : (Try.prog.underlying 73).isSome = true := by kernel_rfl
@[simp] theorem tf_sl73 : tsl Try.prog 73 = none := by kernel_rfl
@[simp] theorem tf_el73 : tel Try.prog 73 = none := by kernel_rfl
@[simp] theorem tf_int73 : tint Try.prog 73 = none := by kernel_rfl
@[simp] theorem tf_str73 : tstr Try.prog 73 = false := by kernel_rfl
@[simp] theorem tf_bool73 : tbool Try.prog 73 = false := by kernel_rfl
@[simp] theorem tf_ptr73 : tptr Try.prog 73 = false := by kernel_rfl
@[simp] theorem tf_bytes73 : tbytes Try.prog 73 = false := by kernel_rfl
@[simp] theorem tf_zc73 : tzc Try.prog 73 = some [.raw .nilFunc] := by kernel_rfl
@[simp] theorem tf_sz74 : tsz Try.prog 74 = some 1 := by kernel_rfl
@[simp] theorem tf_by74 : tby Try.prog 74 = some 8 := by kernel_rfl
@[simp] theorem tf_row74 : trow Try.prog 74 = some false := by kernel_rfl
@[simp] theorem tf_und74 : (Try.prog.underlying 74).isSome = true := by kernel_rfl
@[simp] theorem tf_sl74 : tsl Try.prog 74 = none := by kernel_rfl
@[simp] theorem tf_el74 : tel Try.prog 74 = none := by kernel_rfl
@[simp] theorem tf_int74 : tint Try.prog 74 = none := by kernel_rfl
@[simp] theorem tf_str74 : tstr Try.prog 74 = false := by kernel_rfl
@[simp] theorem tf_bool74 : tbool Try.prog 74 = false := by kernel_rfl
@[simp] theorem tf_ptr74 : tptr Try.prog 74 = false := by kernel_rfl
@[simp] theorem tf_bytes74 : tbytes Try.prog 74 = false := by kernel_rfl
@[simp] theorem tf_zc74 : tzc Try.prog 74 = some [.raw .nilFunc] := by kernel_rfl
@[simp] theorem tf_sz75 : tsz Try.prog 75 = some 1 := by kernel_rfl
@[simp] theorem tf_by75 : tby Try.prog 75 = some 8 := by kernel_rfl
@[simp] theorem tf_row75 : trow Try.prog 75 = some false := by kernel_rfl
@[simp] theorem tf_und75 : (Try.prog.underlying 75).isSome = true := by kernel_rfl
@[simp] theorem tf_sl75 : tsl Try.prog 75 = none := by kernel_rfl
@[simp] theorem tf_el75 : tel Try.prog 75 = none := by kernel_rfl
@[simp] theorem tf_int75 : tint Try.prog 75 = none := by kernel_rfl
@[simp] theorem tf_str75 : tstr Try.prog 75 = false := by kernel_rfl
@[simp] theorem tf_bool75 : tbool Try.prog 75 = false := by kernel_rfl
@[simp] theorem tf_ptr75 : tptr Try.prog 75 = false := by kernel_rfl
@[simp] theorem tf_bytes75 : tbytes Try.prog 75 = false := by kernel_rfl
@[simp] theorem tf_zc75 : tzc Try.prog 75 = some [.raw .nilFunc] := by kernel_rfl
@[simp] theorem tf_sz76 : tsz Try.prog 76 = some 1 := by kernel_rfl
@[simp] theorem tf_by76 : tby Try.prog 76 = some 8 := by kernel_rfl
@[simp] theorem tf_row76 : trow Try.prog 76 = some false := by kernel_rfl
@[simp] theorem tf_und76 : (Try.prog.underlying 76).isSome = true := by kernel_rfl
@[simp] theorem tf_sl76 : tsl Try.prog 76 = none := by kernel_rfl
@[simp] theorem tf_el76 : tel Try.prog 76 = none := by kernel_rfl
@[simp] theorem tf_int76 : tint Try.prog 76 = none := by kernel_rfl
@[simp] theorem tf_str76 : tstr Try.prog 76 = false := by kernel_rfl
@[simp] theorem tf_bool76 : tbool Try.prog 76 = false := by kernel_rfl
@[simp] theorem tf_ptr76 : tptr Try.prog 76 = false := by kernel_rfl
@[simp] theorem tf_bytes76 : tbytes Try.prog 76 = false := by kernel_rfl
@[simp] theorem tf_zc76 : tzc Try.prog 76 = some [.raw .nilFunc] := by kernel_rfl
@[simp] theorem tf_sz78 : tsz Try.prog 78 = some 1 := by kernel_rfl
@[simp] theorem tf_by78 : tby Try.prog 78 = some 8 := by kernel_rfl
@[simp] theorem tf_row78 : trow Try.prog 78 = some false := by kernel_rfl
@[simp] theorem tf_und78 : (Try.prog.underlying 78).isSome = true := by kernel_rfl
@[simp] theorem tf_sl78 : tsl Try.prog 78 = none := by kernel_rfl
@[simp] theorem tf_el78 : tel Try.prog 78 = none := by kernel_rfl
@[simp] theorem tf_int78 : tint Try.prog 78 = none := by kernel_rfl
@[simp] theorem tf_str78 : tstr Try.prog 78 = false := by kernel_rfl
@[simp] theorem tf_bool78 : tbool Try.prog 78 = false := by kernel_rfl
@[simp] theorem tf_ptr78 : tptr Try.prog 78 = false := by kernel_rfl
@[simp] theorem tf_bytes78 : tbytes Try.prog 78 = false := by kernel_rfl
@[simp] theorem tf_zc78 : tzc Try.prog 78 = some [.raw .nilFunc] := by kernel_rfl
@[simp] theorem tf_sz79 : tsz Try.prog 79 = some 1 := by kernel_rfl
@[simp] theorem tf_by79 : tby Try.prog 79 = some 8 := by kernel_rfl
@[simp] theorem tf_row79 : trow Try.prog 79 = some false := by kernel_rfl
@[simp] theorem tf_und79 : (Try.prog.underlying 79).isSome = true := by kernel_rfl
@[simp] theorem tf_sl79 : tsl Try.prog 79 = none := by kernel_rfl
@[simp] theorem tf_el79 : tel Try.prog 79 = none := by kernel_rfl
@[simp] theorem tf_int79 : tint Try.prog 79 = none := by kernel_rfl
@[simp] theorem tf_str79 : tstr Try.prog 79 = false := by kernel_rfl
@[simp] theorem tf_bool79 : tbool Try.prog 79 = false := by kernel_rfl
@[simp] theorem tf_ptr79 : tptr Try.prog 79 = false := by kernel_rfl
@[simp] theorem tf_bytes79 : tbytes Try.prog 79 = false := by kernel_rfl
@[simp] theorem tf_zc79 : tzc Try.prog 79 = some [.raw .nilFunc] := by kernel_rfl
@[simp] theorem tf_sz80 : tsz Try.prog 80 = some 1 := by kernel_rfl
@[simp] theorem tf_by80 : tby Try.prog 80 = some 8 := by kernel_rfl
@[simp] theorem tf_row80 : trow Try.prog 80 = some false := by kernel_rfl
@[simp] theorem tf_und80 : (Try.prog.underlying 80).isSome = true := by kernel_rfl
@[simp] theorem tf_sl80 : tsl Try.prog 80 = none := by kernel_rfl
@[simp] theorem tf_el80 : tel Try.prog 80 = none := by kernel_rfl
@[simp] theorem tf_int80 : tint Try.prog 80 = none := by kernel_rfl
@[simp] theorem tf_str80 : tstr Try.prog 80 = false := by kernel_rfl
@[simp] theorem tf_bool80 : tbool Try.prog 80 = false := by kernel_rfl
@[simp] theorem tf_ptr80 : tptr Try.prog 80 = false := by kernel_rfl
@[simp] theorem tf_bytes80 : tbytes Try.prog 80 = false := by kernel_rfl
@[simp] theorem tf_zc80 : tzc Try.prog 80 = some [.raw .nilFunc] := by kernel_rfl
@[simp] theorem tf_sz81 : tsz Try.prog 81 = some 1 := by kernel_rfl
@[simp] theorem tf_by81 : tby Try.prog 81 = some 8 := by kernel_rfl
@[simp] theorem tf_row81 : trow Try.prog 81 = some false := by kernel_rfl
@[simp] theorem tf_und81 : (Try.prog.underlying 81).isSome = true := by kernel_rfl
@[simp] theorem tf_sl81 : tsl Try.prog 81 = none := by kernel_rfl
@[simp] theorem tf_el81 : tel Try.prog 81 = none := by kernel_rfl
@[simp] theorem tf_int81 : tint Try.prog 81 = none := by kernel_rfl
@[simp] theorem tf_str81 : tstr Try.prog 81 = false := by kernel_rfl
@[simp] theorem tf_bool81 : tbool Try.prog 81 = false := by kernel_rfl
@[simp] theorem tf_ptr81 : tptr Try.prog 81 = false := by kernel_rfl
@[simp] theorem tf_bytes81 : tbytes Try.prog 81 = false := by kernel_rfl
@[simp] theorem tf_zc81 : tzc Try.prog 81 = some [.raw .nilFunc] := by kernel_rfl
@[simp] theorem tf_sz82 : tsz Try.prog 82 = some 1 := by kernel_rfl
@[simp] theorem tf_by82 : tby Try.prog 82 = some 8 := by kernel_rfl
@[simp] theorem tf_row82 : trow Try.prog 82 = some false := by kernel_rfl
@[simp] theorem tf_und82 : (Try.prog.underlying 82).isSome = true := by kernel_rfl
@[simp] theorem tf_sl82 : tsl Try.prog 82 = none := by kernel_rfl
@[simp] theorem tf_el82 : tel Try.prog 82 = none := by kernel_rfl
@[simp] theorem tf_int82 : tint Try.prog 82 = none := by kernel_rfl
@[simp] theorem tf_str82 : tstr Try.prog 82 = false := by kernel_rfl
@[simp] theorem tf_bool82 : tbool Try.prog 82 = false := by kernel_rfl
@[simp] theorem tf_ptr82 : tptr Try.prog 82 = false := by kernel_rfl
@[simp] theorem tf_bytes82 : tbytes Try.prog 82 = false := by kernel_rfl
@[simp] theorem tf_zc82 : tzc Try.prog 82 = some [.raw .nilFunc] := by kernel_rfl
@[simp] theorem tf_sz83 : tsz Try.prog 83 = some 1 := by kernel_rfl
@[simp] theorem tf_by83 : tby Try.prog 83 = some 24 := by kernel_rfl
@[simp] theorem tf_row83 : trow Try.prog 83 = some false := by kernel_rfl
@[simp] theorem tf_und83 : (Try.prog.underlying 83).isSome = true := by kernel_rfl
@[simp] theorem tf_sl83 : tsl Try.prog 83 = some 85 := by kernel_rfl
@[simp] theorem tf_el83 : tel Try.prog 83 = some 4 := by kernel_rfl
@[simp] theorem tf_int83 : tint Try.prog 83 = none := by kernel_rfl
@[simp] theorem tf_str83 : tstr Try.prog 83 = false := by kernel_rfl
@[simp] theorem tf_bool83 : tbool Try.prog 83 = false := by kernel_rfl
@[simp] theorem tf_ptr83 : tptr Try.prog 83 = false := by kernel_rfl
@[simp] theorem tf_bytes83 : tbytes Try.prog 83 = false := by kernel_rfl
@[simp] theorem tf_zc83 : tzc Try.prog 83 = some [.nil] := by kernel_rfl
@[simp] theorem tf_sz84 : tsz Try.prog 84 = some 4 := by kernel_rfl
@[simp] theorem tf_by84 : tby Try.prog 84 = some 48 := by kernel_rfl
@[simp] theorem tf_row84 : trow Try.prog 84 = some true := by kernel_rfl
@[simp] theorem tf_und84 : (Try.prog.underlying 84).isSome = true := by kernel_rfl
@[simp] theorem tf_sl84 : tsl Try.prog 84 = none := by kernel_rfl
@[simp] theorem tf_el84 : tel Try.prog 84 = none := by kernel_rfl
@[simp] theorem tf_int84 : tint Try.prog 84 = none := by kernel_rfl
@[simp] theorem tf_str84 : tstr Try.prog 84 = false := by kernel_rfl
@[simp] theorem tf_bool84 : tbool Try.prog 84 = false := by kernel_rfl
@[simp] theorem tf_ptr84 : tptr Try.prog 84 = false := by kernel_rfl
@[simp] theorem tf_bytes84 : tbytes Try.prog 84 = false := by kernel_rfl
@[simp] theorem tf_zc84 : tzc Try.prog 84 = some [.int .i64 0, .int .i64 0, .int .i64 0, .nil] := by kernel_rfl
@[simp] theorem tf_pl84 : tplaces Try.prog 84 = some [(0, 1), (1, 1), (2, 1), (3, 1)] := by kernel_rfl
@[simp] theorem tf_fld84x0 : tfld Try.prog 84 0 = some (0, 1, false) := by kernel_rfl
@[simp] theorem tf_fld84x1 : tfld Try.prog 84 1 = some (1, 1, false) := by kernel_rfl
@[simp] theorem tf_fld84x2 : tfld Try.prog 84 2 = some (2, 1, false) := by kernel_rfl
@[simp] theorem tf_fld84x3 : tfld Try.prog 84 3 = some (3, 1, false) := by kernel_rfl
@[simp] theorem tf_sz85 : tsz Try.prog 85 = some 4 := by kernel_rfl
@[simp] theorem tf_by85 : tby Try.prog 85 = some 48 := by kernel_rfl
@[simp] theorem tf_row85 : trow Try.prog 85 = some true := by kernel_rfl
@[simp] theorem tf_und85 : (Try.prog.underlying 85).isSome = true := by kernel_rfl
@[simp] theorem tf_sl85 : tsl Try.prog 85 = none := by kernel_rfl
@[simp] theorem tf_el85 : tel Try.prog 85 = none := by kernel_rfl
@[simp] theorem tf_int85 : tint Try.prog 85 = none := by kernel_rfl
@[simp] theorem tf_str85 : tstr Try.prog 85 = false := by kernel_rfl
@[simp] theorem tf_bool85 : tbool Try.prog 85 = false := by kernel_rfl
@[simp] theorem tf_ptr85 : tptr Try.prog 85 = false := by kernel_rfl
@[simp] theorem tf_bytes85 : tbytes Try.prog 85 = false := by kernel_rfl
@[simp] theorem tf_zc85 : tzc Try.prog 85 = some [.int .i64 0, .int .i64 0, .int .i64 0, .nil] := by kernel_rfl
@[simp] theorem tf_pl85 : tplaces Try.prog 85 = some [(0, 1), (1, 1), (2, 1), (3, 1)] := by kernel_rfl
@[simp] theorem tf_fld85x0 : tfld Try.prog 85 0 = some (0, 1, false) := by kernel_rfl
@[simp] theorem tf_fld85x1 : tfld Try.prog 85 1 = some (1, 1, false) := by kernel_rfl
@[simp] theorem tf_fld85x2 : tfld Try.prog 85 2 = some (2, 1, false) := by kernel_rfl
@[simp] theorem tf_fld85x3 : tfld Try.prog 85 3 = some (3, 1, false) := by kernel_rfl
@[simp] theorem tf_sz86 : tsz Try.prog 86 = some 1 := by kernel_rfl
@[simp] theorem tf_by86 : tby Try.prog 86 = some 8 := by kernel_rfl
@[simp] theorem tf_row86 : trow Try.prog 86 = some false := by kernel_rfl
@[simp] theorem tf_und86 : (Try.prog.underlying 86).isSome = true := by kernel_rfl
@[simp] theorem tf_sl86 : tsl Try.prog 86 = none := by kernel_rfl
@[simp] theorem tf_el86 : tel Try.prog 86 = none := by kernel_rfl
@[simp] theorem tf_int86 : tint Try.prog 86 = none := by kernel_rfl
@[simp] theorem tf_str86 : tstr Try.prog 86 = false := by kernel_rfl
@[simp] theorem tf_bool86 : tbool Try.prog 86 = false := by kernel_rfl
@[simp] theorem tf_ptr86 : tptr Try.prog 86 = false := by kernel_rfl
@[simp] theorem tf_bytes86 : tbytes Try.prog 86 = false := by kernel_rfl
@[simp] theorem tf_zc86 : tzc Try.prog 86 = some [.raw .nilFunc] := by kernel_rfl
@[simp] theorem tf_sz88 : tsz Try.prog 88 = some 1 := by kernel_rfl
@[simp] theorem tf_by88 : tby Try.prog 88 = some 8 := by kernel_rfl
@[simp] theorem tf_row88 : trow Try.prog 88 = some false := by kernel_rfl
@[simp] theorem tf_und88 : (Try.prog.underlying 88).isSome = true := by kernel_rfl
@[simp] theorem tf_sl88 : tsl Try.prog 88 = none := by kernel_rfl
@[simp] theorem tf_el88 : tel Try.prog 88 = none := by kernel_rfl
@[simp] theorem tf_int88 : tint Try.prog 88 = none := by kernel_rfl
@[simp] theorem tf_str88 : tstr Try.prog 88 = false := by kernel_rfl
@[simp] theorem tf_bool88 : tbool Try.prog 88 = false := by kernel_rfl
@[simp] theorem tf_ptr88 : tptr Try.prog 88 = false := by kernel_rfl
@[simp] theorem tf_bytes88 : tbytes Try.prog 88 = false := by kernel_rfl
@[simp] theorem tf_zc88 : tzc Try.prog 88 = some [.raw .nilFunc] := by kernel_rfl
@[simp] theorem tf_sz89 : tsz Try.prog 89 = some 1 := by kernel_rfl
@[simp] theorem tf_by89 : tby Try.prog 89 = some 8 := by kernel_rfl
@[simp] theorem tf_row89 : trow Try.prog 89 = some false := by kernel_rfl
@[simp] theorem tf_und89 : (Try.prog.underlying 89).isSome = true := by kernel_rfl
@[simp] theorem tf_sl89 : tsl Try.prog 89 = none := by kernel_rfl
@[simp] theorem tf_el89 : tel Try.prog 89 = none := by kernel_rfl
@[simp] theorem tf_int89 : tint Try.prog 89 = none := by kernel_rfl
@[simp] theorem tf_str89 : tstr Try.prog 89 = false := by kernel_rfl
@[simp] theorem tf_bool89 : tbool Try.prog 89 = false := by kernel_rfl
@[simp] theorem tf_ptr89 : tptr Try.prog 89 = false := by kernel_rfl
@[simp] theorem tf_bytes89 : tbytes Try.prog 89 = false := by kernel_rfl
@[simp] theorem tf_zc89 : tzc Try.prog 89 = some [.raw .nilFunc] := by kernel_rfl
@[simp] theorem tf_sz90 : tsz Try.prog 90 = some 1 := by kernel_rfl
@[simp] theorem tf_by90 : tby Try.prog 90 = some 8 := by kernel_rfl
@[simp] theorem tf_row90 : trow Try.prog 90 = some false := by kernel_rfl
@[simp] theorem tf_und90 : (Try.prog.underlying 90).isSome = true := by kernel_rfl
@[simp] theorem tf_sl90 : tsl Try.prog 90 = none := by kernel_rfl
@[simp] theorem tf_el90 : tel Try.prog 90 = none := by kernel_rfl
@[simp] theorem tf_int90 : tint Try.prog 90 = none := by kernel_rfl
@[simp] theorem tf_str90 : tstr Try.prog 90 = false := by kernel_rfl
@[simp] theorem tf_bool90 : tbool Try.prog 90 = false := by kernel_rfl
@[simp] theorem tf_ptr90 : tptr Try.prog 90 = false := by kernel_rfl
@[simp] theorem tf_bytes90 : tbytes Try.prog 90 = false := by kernel_rfl
@[simp] theorem tf_zc90 : tzc Try.prog 90 = some [.raw .nilFunc] := by kernel_rfl
@[simp] theorem tf_sz92 : tsz Try.prog 92 = some 1 := by kernel_rfl
@[simp] theorem tf_by92 : tby Try.prog 92 = some 8 := by kernel_rfl
@[simp] theorem tf_row92 : trow Try.prog 92 = some false := by kernel_rfl
@[simp] theorem tf_und92 : (Try.prog.underlying 92).isSome = true := by kernel_rfl
@[simp] theorem tf_sl92 : tsl Try.prog 92 = none := by kernel_rfl
@[simp] theorem tf_el92 : tel Try.prog 92 = none := by kernel_rfl
@[simp] theorem tf_int92 : tint Try.prog 92 = none := by kernel_rfl
@[simp] theorem tf_str92 : tstr Try.prog 92 = false := by kernel_rfl
@[simp] theorem tf_bool92 : tbool Try.prog 92 = false := by kernel_rfl
@[simp] theorem tf_ptr92 : tptr Try.prog 92 = false := by kernel_rfl
@[simp] theorem tf_bytes92 : tbytes Try.prog 92 = false := by kernel_rfl
@[simp] theorem tf_zc92 : tzc Try.prog 92 = some [.raw .nilFunc] := by kernel_rfl
@[simp] theorem tf_sz93 : tsz Try.prog 93 = some 1 := by kernel_rfl
@[simp] theorem tf_by93 : tby Try.prog 93 = some 8 := by kernel_rfl
@[simp] theorem tf_row93 : trow Try.prog 93 = some false := by kernel_rfl
@[simp] theorem tf_und93 : (Try.prog.underlying 93).isSome = true := by kernel_rfl
@[simp] theorem tf_sl93 : tsl Try.prog 93 = none := by kernel_rfl
@[simp] theorem tf_el93 : tel Try.prog 93 = none := by kernel_rfl
@[simp] theorem tf_int93 : tint Try.prog 93 = none := by kernel_rfl
@[simp] theorem tf_str93 : tstr Try.prog 93 = false := by kernel_rfl
@[simp] theorem tf_bool93 : tbool Try.prog 93 = false := by kernel_rfl
@[simp] theorem tf_ptr93 : tptr Try.prog 93 = false := by kernel_rfl
@[simp] theorem tf_bytes93 : tbytes Try.prog 93 = false := by kernel_rfl
@[simp] theorem tf_zc93 : tzc Try.prog 93 = some [.raw .nilFunc] := by kernel_rfl
@[simp] theorem tf_sz94 : tsz Try.prog 94 = some 3 := by kernel_rfl
@[simp] theorem tf_by94 : tby Try.prog 94 = some 40 := by kernel_rfl
@[simp] theorem tf_row94 : trow Try.prog 94 = some true := by kernel_rfl
@[simp] theorem tf_und94 : (Try.prog.underlying 94).isSome = true := by kernel_rfl
@[simp] theorem tf_sl94 : tsl Try.prog 94 = none := by kernel_rfl
@[simp] theorem tf_el94 : tel Try.prog 94 = none := by kernel_rfl
@[simp] theorem tf_int94 : tint Try.prog 94 = none := by kernel_rfl
@[simp] theorem tf_str94 : tstr Try.prog 94 = false := by kernel_rfl
@[simp] theorem tf_bool94 : tbool Try.prog 94 = false := by kernel_rfl
@[simp] theorem tf_ptr94 : tptr Try.prog 94 = false := by kernel_rfl
@[simp] theorem tf_bytes94 : tbytes Try.prog 94 = false := by kernel_rfl
@[simp] theorem tf_zc94 : tzc Try.prog 94 = some [.nil, .int .i64 0, .int .i64 0] := by kernel_rfl
@[simp] theorem tf_pl94 : tplaces Try.prog 94 = some [(0, 1), (1, 1), (2, 1)] := by kernel_rfl
@[simp] theorem tf_fld94x0 : tfld Try.prog 94 0 = some (0, 1, false) := by kernel_rfl
@[simp] theorem tf_fld94x1 : tfld Try.prog 94 1 = some (1, 1, false) := by kernel_rfl
@[simp] theorem tf_fld94x2 : tfld Try.prog 94 2 = some (2, 1, false) := by kernel_rfl
@[simp] theorem tf_sz95 : tsz Try.prog 95 = some 3 := by kernel_rfl
@[simp] theorem tf_by95 : tby Try.prog 95 = some 40 := by kernel_rfl
@[simp] theorem tf_row95 : trow Try.prog 95 = some true := by kernel_rfl
@[simp] theorem tf_und95 : (Try.prog.underlying 95).isSome = true := by kernel_rfl
@[simp] theorem tf_sl95 : tsl Try.prog 95 = none := by kernel_rfl
@[simp] theorem tf_el95 : tel Try.prog 95 = none := by kernel_rfl
@[simp] theorem tf_int95 : tint Try.prog 95 = none := by kernel_rfl
@[simp] theorem tf_str95 : tstr Try.prog 95 = false := by kernel_rfl
@[simp] theorem tf_bool95 : tbool Try.prog 95 = false := by kernel_rfl
@[simp] theorem tf_ptr95 : tptr Try.prog 95 = false := by kernel_rfl
@[simp] theorem tf_bytes95 : tbytes Try.prog 95 = false := by kernel_rfl
@[simp] theorem tf_zc95 : tzc Try.prog 95 = some [.nil, .int .i64 0, .int .i64 0] := by kernel_rfl
@[simp] theorem tf_pl95 : tplaces Try.prog 95 = some [(0, 1), (1, 1), (2, 1)] := by kernel_rfl
@[simp] theorem tf_fld95x0 : tfld Try.prog 95 0 = some (0, 1, false) := by kernel_rfl
@[simp] theorem tf_fld95x1 : tfld Try.prog 95 1 = some (1, 1, false) := by kernel_rfl
@[simp] theorem tf_fld95x2 : tfld Try.prog 95 2 = some (2, 1, false) := by kernel_rfl
@[simp] theorem tf_sz96 : tsz Try.prog 96 = some 1 := by kernel_rfl
@[simp] theorem tf_by96 : tby Try.prog 96 = some 8 := by kernel_rfl
@[simp] theorem tf_row96 : trow Try.prog 96 = some false := by kernel_rfl
@[simp] theorem tf_und96 : (Try.prog.underlying 96).isSome = true := by kernel_rfl
@[simp] theorem tf_sl96 : tsl Try.prog 96 = none := by kernel_rfl
@[simp] theorem tf_el96 : tel Try.prog 96 = none := by kernel_rfl
@[simp] theorem tf_int96 : tint Try.prog 96 = none := by kernel_rfl
@[simp] theorem tf_str96 : tstr Try.prog 96 = false := by kernel_rfl
@[simp] theorem tf_bool96 : tbool Try.prog 96 = false := by kernel_rfl
@[simp] theorem tf_ptr96 : tptr Try.prog 96 = false := by kernel_rfl
@[simp] theorem tf_bytes96 : tbytes Try.prog 96 = false := by kernel_rfl
@[simp] theorem tf_zc96 : tzc Try.prog 96 = some [.raw .nilFunc] := by kernel_rfl
@[simp] theorem tf_sz97 : tsz Try.prog 97 = some 1 := by kernel_rfl
@[simp] theorem tf_by97 : tby Try.prog 97 = some 8 := by kernel_rfl
@[simp] theorem tf_row97 : trow Try.prog 97 = some false := by kernel_rfl
@[simp] theorem tf_und97 : (Try.prog.underlying 97).isSome = true := by kernel_rfl
@[simp] theorem tf_sl97 : tsl Try.prog 97 = none := by kernel_rfl
@[simp] theorem tf_el97 : tel Try.prog 97 = none := by kernel_rfl
@[simp] theorem tf_int97 : tint Try.prog 97 = none := by kernel_rfl
@[simp] theorem tf_str97 : tstr Try.prog 97 = false := by kernel_rfl
@[simp] theorem tf_bool97 : tbool Try.prog 97 = false := by kernel_rfl
@[simp] theorem tf_ptr97 : tptr Try.prog 97 = false := by kernel_rfl
@[simp] theorem tf_bytes97 : tbytes Try.prog 97 = false := by kernel_rfl
@[simp] theorem tf_zc97 : tzc Try.prog 97 = some [.raw .nilFunc] := by kernel_rfl
@[simp] theorem tf_sz99 : tsz Try.prog 99 = some 1 := by kernel_rfl
@[simp] theorem tf_by99 : tby Try.prog 99 = some 8 := by kernel_rfl
@[simp] theorem tf_row99 : trow Try.prog 99 = some false := by kernel_rfl
@[simp] theorem tf_und99 : (Try.prog.underlying 99).isSome = true := by kernel_rfl
@[simp] theorem tf_sl99 : tsl Try.prog 99 = none := by kernel_rfl
@[simp] theorem tf_el99 : tel Try.prog 99 = none := by kernel_rfl
@[simp] theorem tf_int99 : tint Try.prog 99 = none := by kernel_rfl
@[simp] theorem tf_str99 : tstr Try.prog 99 = false := by kernel_rfl
@[simp] theorem tf_bool99 : tbool Try.prog 99 = false := by kernel_rfl
@[simp] theorem tf_ptr99 : tptr Try.prog 99 = false := by kernel_rfl
@[simp] theorem tf_bytes99 : tbytes Try.prog 99 = false := by kernel_rfl
@[simp] theorem tf_zc99 : tzc Try.prog 99 = some [.raw .nilFunc] := by kernel_rfl
@[simp] theorem tf_sz100 : tsz Try.prog 100 = some 1 := by kernel_rfl
@[simp] theorem tf_by100 : tby Try.prog 100 = some 8 := by kernel_rfl
@[simp] theorem tf_row100 : trow Try.prog 100 = some false := by kernel_rfl
@[simp] theorem tf_und100 : (Try.prog.underlying 100).isSome = true := by kernel_rfl
@[simp] theorem tf_sl100 : tsl Try.prog 100 = none := by kernel_rfl
@[simp] theorem tf_el100 : tel Try.prog 100 = none := by kernel_rfl
@[simp] theorem tf_int100 : tint Try.prog 100 = none := by kernel_rfl
@[simp] theorem tf_str100 : tstr Try.prog 100 = false := by kernel_rfl
@[simp] theorem tf_bool100 : tbool Try.prog 100 = false := by kernel_rfl
@[simp] theorem tf_ptr100 : tptr Try.prog 100 = false := by kernel_rfl
@[simp] theorem tf_bytes100 : tbytes Try.prog 100 = false := by kernel_rfl
@[simp] theorem tf_zc100 : tzc Try.prog 100 = some [.raw .nilFunc] := by kernel_rfl
@[simp] theorem tf_sz101 : tsz Try.prog 101 = some 2 := by kernel_rfl
@[simp] theorem tf_by101 : tby Try.prog 101 = some 32 := by kernel_rfl
@[simp] theorem tf_row101 : trow Try.prog 101 = some true := by kernel_rfl
@[simp] theorem tf_und101 : (Try.prog.underlying 101).isSome = true := by kernel_rfl
@[simp] theorem tf_sl101 : tsl Try.prog 101 = none := by kernel_rfl
@[simp] theorem tf_el101 : tel Try.prog 101 = none := by kernel_rfl
@[simp] theorem tf_int101 : tint Try.prog 101 = none := by kernel_rfl
@[simp] theorem tf_str101 : tstr Try.prog 101 = false := by kernel_rfl
@[simp] theorem tf_bool101 : tbool Try.prog 101 = false := by kernel_rfl
@[simp] theorem tf_ptr101 : tptr Try.prog 101 = false := by kernel_rfl
@[simp] theorem tf_bytes101 : tbytes Try.prog 101 = false := by kernel_rfl
@[simp] theorem tf_zc101 : tzc Try.prog 101 = some [.int .i64 0, .nil] := by kernel_rfl
@[simp] theorem tf_pl101 : tplaces Try.prog 101 = some [(0, 1), (1, 1)] := by kernel_rfl
@[simp] theorem tf_fld101x0 : tfld Try.prog 101 0 = some (0, 1, false) := by kernel_rfl
@[simp] theorem tf_fld101x1 : tfld Try.prog 101 1 = some (1, 1, false) := by kernel_rfl
@[simp] theorem tf_sz102 : tsz Try.prog 102 = some 2 := by kernel_rfl
@[simp] theorem tf_by102 : tby Try.prog 102 = some 32 := by kernel_rfl
@[simp] theorem tf_row102 : trow Try.prog 102 = some true := by kernel_rfl
@[simp] theorem tf_und102 : (Try.prog.underlying 102).isSome = true := by kernel_rfl
@[simp] theorem tf_sl102 : tsl Try.prog 102 = none := by kernel_rfl
@[simp] theorem tf_el102 : tel Try.prog 102 = none := by kernel_rfl
@[simp] theorem tf_int102 : tint Try.prog 102 = none := by kernel_rfl
@[simp] theorem tf_str102 : tstr Try.prog 102 = false := by kernel_rfl
@[simp] theorem tf_bool102 : tbool Try.prog 102 = false := by kernel_rfl
@[simp] theorem tf_ptr102 : tptr Try.prog 102 = false := by kernel_rfl
@[simp] theorem tf_bytes102 : tbytes Try.prog 102 = false := by kernel_rfl
@[simp] theorem tf_zc102 : tzc Try.prog 102 = some [.int .i64 0, .nil] := by kernel_rfl
@[simp] theorem tf_pl102 : tplaces Try.prog 102 = some [(0, 1), (1, 1)] := by kernel_rfl
@[simp] theorem tf_fld102x0 : tfld Try.prog 102 0 = some (0, 1, false) := by kernel_rfl
@[simp] theorem tf_fld102x1 : tfld Try.prog 102 1 = some (1, 1, false) := by kernel_rfl
@[simp] theorem tf_sz104 : tsz Try.prog 104 = some 1 := by kernel_rfl
@[simp] theorem tf_by104 : tby Try.prog 104 = some 8 := by kernel_rfl
@[simp] theorem tf_row104 : trow Try.prog 104 = some false := by kernel_rfl
@[simp] theorem tf_und104 : (Try.prog.underlying 104).isSome = true := by kernel_rfl
@[simp] theorem tf_sl104 : tsl Try.prog 104 = none := by kernel_rfl
@[simp] theorem tf_el104 : tel Try.prog 104 = none := by kernel_rfl
@[simp] theorem tf_int104 : tint Try.prog 104 = none := by kernel_rfl
@[simp] theorem tf_str104 : tstr Try.prog 104 = false := by kernel_rfl
@[simp] theorem tf_bool104 : tbool Try.prog 104 = false := by kernel_rfl
@[simp] theorem tf_ptr104 : tptr Try.prog 104 = false := by kernel_rfl
@[simp] theorem tf_bytes104 : tbytes Try.prog 104 = false := by kernel_rfl
@[simp] theorem tf_zc104 : tzc Try.prog 104 = some [.raw .nilFunc] := by kernel_rfl
@[simp] theorem tf_sz105 : tsz Try.prog 105 = some 2 := by kernel_rfl
@[simp] theorem tf_by105 : tby Try.prog 105 = some 32 := by kernel_rfl
@[simp] theorem tf_row105 : trow Try.prog 105 = some true := by kernel_rfl
@[simp] theorem tf_und105 : (Try.prog.underlying 105).isSome = true := by kernel_rfl
@[simp] theorem tf_sl105 : tsl Try.prog 105 = none := by kernel_rfl
@[simp] theorem tf_el105 : tel Try.prog 105 = none := by kernel_rfl
@[simp] theorem tf_int105 : tint Try.prog 105 = none := by kernel_rfl
@[simp] theorem tf_str105 : tstr Try.prog 105 = false := by kernel_rfl
@[simp] theorem tf_bool105 : tbool Try.prog 105 = false := by kernel_rfl
@[simp] theorem tf_ptr105 : tptr Try.prog 105 = false := by kernel_rfl
@[simp] theorem tf_bytes105 : tbytes Try.prog 105 = false := by kernel_rfl
@[simp] theorem tf_zc105 : tzc Try.prog 105 = some [.int .i64 0, .nil] := by kernel_rfl
@[simp] theorem tf_pl105 : tplaces Try.prog 105 = some [(0, 1), (1, 1)] := by kernel_rfl
@[simp] theorem tf_fld105x0 : tfld Try.prog 105 0 = some (0, 1, false) := by kernel_rfl
@[simp] theorem tf_fld105x1 : tfld Try.prog 105 1 = some (1, 1, false) := by kernel_rfl
@[simp] theorem tf_sz106 : tsz Try.prog 106 = some 2 := by kernel_rfl
@[simp] theorem tf_by106 : tby Try.prog 106 = some 32 := by kernel_rfl
@[simp] theorem tf_row106 : trow Try.prog 106 = some true := by kernel_rfl
@[simp] theorem tf_und106 : (Try.prog.underlying 106).isSome = true := by kernel_rfl
@[simp] theorem tf_sl106 : tsl Try.prog 106 = none := by kernel_rfl
@[simp] theorem tf_el106 : tel Try.prog 106 = none := by kernel_rfl
@[simp] theorem tf_int106 : tint Try.prog 106 = none := by kernel_rfl
@[simp] theorem tf_str106 : tstr Try.prog 106 = false := by kernel_rfl
@[simp] theorem tf_bool106 : tbool Try.prog 106 = false := by kernel_rfl
@[simp] theorem tf_ptr106 : tptr Try.prog 106 = false := by kernel_rfl
@[simp] theorem tf_bytes106 : tbytes Try.prog 106 = false := by kernel_rfl
@[simp] theorem tf_zc106 : tzc Try.prog 106 = some [.int .i64 0, .nil] := by kernel_rfl
@[simp] theorem tf_pl106 : tplaces Try.prog 106 = some [(0, 1), (1, 1)] := by kernel_rfl
@[simp] theorem tf_fld106x0 : tfld Try.prog 106 0 = some (0, 1, false) := by kernel_rfl
@[simp] theorem tf_fld106x1 : tfld Try.prog 106 1 = some (1, 1, false) := by kernel_rfl
@[simp] theorem tf_sz107 : tsz Try.prog 107 = some 1 := by kernel_rfl
@[simp] theorem tf_by107 : tby Try.prog 107 = some 8 := by kernel_rfl
@[simp] theorem tf_row107 : trow Try.prog 107 = some false := by kernel_rfl
@[simp] theorem tf_und107 : (Try.prog.underlying 107).isSome = true := by kernel_rfl
@[simp] theorem tf_sl107 : tsl Try.prog 107 = none := by kernel_rfl
@[simp] theorem tf_el107 : tel Try.prog 107 = none := by kernel_rfl
@[simp] theorem tf_int107 : tint Try.prog 107 = none := by kernel_rfl
@[simp] theorem tf_str107 : tstr Try.prog 107 = false := by kernel_rfl
@[simp] theorem tf_bool107 : tbool Try.prog 107 = false := by kernel_rfl
@[simp] theorem tf_ptr107 : tptr Try.prog 107 = false := by kernel_rfl
@[simp] theorem tf_bytes107 : tbytes Try.prog 107 = false := by kernel_rfl
@[simp] theorem tf_zc107 : tzc Try.prog 107 = some [.raw .nilFunc] := by kernel_rfl
@[simp] theorem tf_sz108 : tsz Try.prog 108 = some 1 := by kernel_rfl
@[simp] theorem tf_by108 : tby Try.prog 108 = some 8 := by kernel_rfl
@[simp] theorem tf_row108 : trow Try.prog 108 = some false := by kernel_rfl
@[simp] theorem tf_und108 : (Try.prog.underlying 108).isSome = true := by kernel_rfl
@[simp] theorem tf_sl108 : tsl Try.prog 108 = none := by kernel_rfl
@[simp] theorem tf_el108 : tel Try.prog 108 = none := by kernel_rfl
@[simp] theorem tf_int108 : tint Try.prog 108 = none := by kernel_rfl
@[simp] theorem tf_str108 : tstr Try.prog 108 = false := by kernel_rfl
@[simp] theorem tf_bool108 : tbool Try.prog 108 = false := by kernel_rfl
@[simp] theorem tf_ptr108 : tptr Try.prog 108 = false := by kernel_rfl
@[simp] theorem tf_bytes108 : tbytes Try.prog 108 = false := by kernel_rfl
@[simp] theorem tf_zc108 : tzc Try.prog 108 = some [.raw .nilFunc] := by kernel_rfl
@[simp] theorem tf_sz109 : tsz Try.prog 109 = some 1 := by kernel_rfl
@[simp] theorem tf_by109 : tby Try.prog 109 = some 8 := by kernel_rfl
@[simp] theorem tf_row109 : trow Try.prog 109 = some false := by kernel_rfl
@[simp] theorem tf_und109 : (Try.prog.underlying 109).isSome = true := by kernel_rfl
@[simp] theorem tf_sl109 : tsl Try.prog 109 = none := by kernel_rfl
@[simp] theorem tf_el109 : tel Try.prog 109 = none := by kernel_rfl
@[simp] theorem tf_int109 : tint Try.prog 109 = none := by kernel_rfl
@[simp] theorem tf_str109 : tstr Try.prog 109 = false := by kernel_rfl
@[simp] theorem tf_bool109 : tbool Try.prog 109 = false := by kernel_rfl
@[simp] theorem tf_ptr109 : tptr Try.prog 109 = false := by kernel_rfl
@[simp] theorem tf_bytes109 : tbytes Try.prog 109 = false := by kernel_rfl
@[simp] theorem tf_zc109 : tzc Try.prog 109 = some [.raw .nilFunc] := by kernel_rfl
@[simp] theorem tf_sz110 : tsz Try.prog 110 = some 2 := by kernel_rfl
@[simp] theorem tf_by110 : tby Try.prog 110 = some 32 := by kernel_rfl
@[simp] theorem tf_row110 : trow Try.prog 110 = some true := by kernel_rfl
@[simp] theorem tf_und110 : (Try.prog.underlying 110).isSome = true := by kernel_rfl
@[simp] theorem tf_sl110 : tsl Try.prog 110 = none := by kernel_rfl
@[simp] theorem tf_el110 : tel Try.prog 110 = none := by kernel_rfl
@[simp] theorem tf_int110 : tint Try.prog 110 = none := by kernel_rfl
@[simp] theorem tf_str110 : tstr Try.prog 110 = false := by kernel_rfl
@[simp] theorem tf_bool110 : tbool Try.prog 110 = false := by kernel_rfl
@[simp] theorem tf_ptr110 : tptr Try.prog 110 = false := by kernel_rfl
@[simp] theorem tf_bytes110 : tbytes Try.prog 110 = false := by kernel_rfl
@[simp] theorem tf_zc110 : tzc Try.prog 110 = some [.int .i64 0, .nil] := by kernel_rfl
@[simp] theorem tf_pl110 : tplaces Try.prog 110 = some [(0, 1), (1, 1)] := by kernel_rfl
@[simp] theorem tf_fld110x0 : tfld Try.prog 110 0 = some (0, 1, false) := by kernel_rfl
@[simp] theorem tf_fld110x1 : tfld Try.prog 110 1 = some (1, 1, false) := by kernel_rfl
@[simp] theorem tf_sz111 : tsz Try.prog 111 = some 2 := by kernel_rfl
@[simp] theorem tf_by111 : tby Try.prog 111 = some 32 := by kernel_rfl
@[simp] theorem tf_row111 : trow Try.prog 111 = some true := by kernel_rfl
@[simp] theorem tf_und111 : (Try.prog.underlying 111).isSome = true := by kernel_rfl
@[simp] theorem tf_sl111 : tsl Try.prog 111 = none := by kernel_rfl
@[simp] theorem tf_el111 : tel Try.prog 111 = none := by kernel_rfl
@[simp] theorem tf_int111 : tint Try.prog 111 = none := by kernel_rfl
@[simp] theorem tf_str111 : tstr Try.prog 111 = false := by kernel_rfl
@[simp] theorem tf_bool111 : tbool Try.prog 111 = false := by kernel_rfl
@[simp] theorem tf_ptr111 : tptr Try.prog 111 = false := by kernel_rfl
@[simp] theorem tf_bytes111 : tbytes Try.prog 111 = false := by kernel_rfl
@[simp] theorem tf_zc111 : tzc Try.prog 111 = some [.int .i64 0, .nil] := by kernel_rfl
@[simp] theorem tf_pl111 : tplaces Try.prog 111 = some [(0, 1), (1, 1)] := by kernel_rfl
@[simp] theorem tf_fld111x0 : tfld Try.prog 111 0 = some (0, 1, false) := by kernel_rfl
@[simp] theorem tf_fld111x1 : tfld Try.prog 111 1 = some (1, 1, false) := by kernel_rfl
@[simp] theorem tf_sz112 : tsz Try.prog 112 = some 1 := by kernel_rfl
@[simp] theorem tf_by112 : tby Try.prog 112 = some 8 := by kernel_rfl
@[simp] theorem tf_row112 : trow Try.prog 112 = some false := by kernel_rfl
@[simp] theorem tf_und112 : (Try.prog.underlying 112).isSome = true := by kernel_rfl
@[simp] theorem tf_sl112 : tsl Try.prog 112 = none := by kernel_rfl
@[simp] theorem tf_el112 : tel Try.prog 112 = none := by kernel_rfl
@[simp] theorem tf_int112 : tint Try.prog 112 = none := by kernel_rfl
@[simp] theorem tf_str112 : tstr Try.prog 112 = false := by kernel_rfl
@[simp] theorem tf_bool112 : tbool Try.prog 112 = false := by kernel_rfl
@[simp] theorem tf_ptr112 : tptr Try.prog 112 = false := by kernel_rfl
@[simp] theorem tf_bytes112 : tbytes Try.prog 112 = false := by kernel_rfl
@[simp] theorem tf_zc112 : tzc Try.prog 112 = some [.raw .nilFunc] := by kernel_rfl
@[simp] theorem tf_sz114 : tsz Try.prog 114 = some 1 := by kernel_rfl
@[simp] theorem tf_by114 : tby Try.prog 114 = some 8 := by kernel_rfl
@[simp] theorem tf_row114 : trow Try.prog 114 = some false := by kernel_rfl
@[simp] theorem tf_und114 : (Try.prog.underlying 114).isSome = true := by kernel_rfl
@[simp] theorem tf_sl114 : tsl Try.prog 114 = none := by kernel_rfl
@[simp] theorem tf_el114 : tel Try.prog 114 = none := by kernel_rfl
@[simp] theorem tf_int114 : tint Try.prog 114 = none := by kernel_rfl
@[simp] theorem tf_str114 : tstr Try.prog 114 = false := by kernel_rfl
@[simp] theorem tf_bool114 : tbool Try.prog 114 = false := by kernel_rfl
@[simp] theorem tf_ptr114 : tptr Try.prog 114 = false := by kernel_rfl
@[simp] theorem tf_bytes114 : tbytes Try.prog 114 = false := by kernel_rfl
@[simp] theorem tf_zc114 : tzc Try.prog 114 = some [.raw .nilFunc] := by kernel_rfl
@[simp] theorem tf_sz115 : tsz Try.prog 115 = some 1 := by kernel_rfl
@[simp] theorem tf_by115 : tby Try.prog 115 = some 8 := by kernel_rfl
@[simp] theorem tf_row115 : trow Try.prog 115 = some false := by kernel_rfl
@[simp] theorem tf_und115 : (Try.prog.underlying 115).isSome = true := by kernel_rfl
@[simp] theorem tf_sl115 : tsl Try.prog 115 = none := by kernel_rfl
@[simp] theorem tf_el115 : tel Try.prog 115 = none := by kernel_rfl
@[simp] theorem tf_int115 : tint Try.prog 115 = none := by kernel_rfl
@[simp] theorem tf_str115 : tstr Try.prog 115 = false := by kernel_rfl
@[simp] theorem tf_bool115 : tbool Try.prog 115 = false := by kernel_rfl
@[simp] theorem tf_ptr115 : tptr Try.prog 115 = false := by kernel_rfl
@[simp] theorem tf_bytes115 : tbytes Try.prog 115 = false := by kernel_rfl
@[simp] theorem tf_zc115 : tzc Try.prog 115 = some [.raw .nilFunc] := by kernel_rfl
@[simp] theorem tf_sz116 : tsz Try.prog 116 = some 3 := by kernel_rfl
@[simp] theorem tf_by116 : tby Try.prog 116 = some 40 := by kernel_rfl
@[simp] theorem tf_row116 : trow Try.prog 116 = some true := by kernel_rfl
@[simp] theorem tf_und116 : (Try.prog.underlying 116).isSome = true := by kernel_rfl
@[simp] theorem tf_sl116 : tsl Try.prog 116 = none := by kernel_rfl
@[simp] theorem tf_el116 : tel Try.prog 116 = none := by kernel_rfl
@[simp] theorem tf_int116 : tint Try.prog 116 = none := by kernel_rfl
@[simp] theorem tf_str116 : tstr Try.prog 116 = false := by kernel_rfl
@[simp] theorem tf_bool116 : tbool Try.prog 116 = false := by kernel_rfl
@[simp] theorem tf_ptr116 : tptr Try.prog 116 = false := by kernel_rfl
@[simp] theorem tf_bytes116 : tbytes Try.prog 116 = false := by kernel_rfl
@[simp] theorem tf_zc116 : tzc Try.prog 116 = some [.nil, .int .i64 0, .int .i64 0] := by kernel_rfl
@[simp] theorem tf_pl116 : tplaces Try.prog 116 = some [(0, 1), (1, 1), (2, 1)] := by kernel_rfl
@[simp] theorem tf_fld116x0 : tfld Try.prog 116 0 = some (0, 1, false) := by kernel_rfl
@[simp] theorem tf_fld116x1 : tfld Try.prog 116 1 = some (1, 1, false) := by kernel_rfl
@[simp] theorem tf_fld116x2 : tfld Try.prog 116 2 = some (2, 1, false) := by kernel_rfl
@[simp] theorem tf_sz117 : tsz Try.prog 117 = some 3 := by kernel_rfl
@[simp] theorem tf_by117 : tby Try.prog 117 = some 40 := by kernel_rfl
@[simp] theorem tf_row117 : trow Try.prog 117 = some true := by kernel_rfl
@[simp] theorem tf_und117 : (Try.prog.underlying 117).isSome = true := by kernel_rfl
@[simp] theorem tf_sl117 : tsl Try.prog 117 = none := by kernel_rfl
@[simp] theorem tf_el117 : tel Try.prog 117 = none := by kernel_rfl
@[simp] theorem tf_int117 : tint Try.prog 117 = none := by kernel_rfl
@[simp] theorem tf_str117 : tstr Try.prog 117 = false := by kernel_rfl
@[simp] theorem tf_bool117 : tbool Try.prog 117 = false := by kernel_rfl
@[simp] theorem tf_ptr117 : tptr Try.prog 117 = false := by kernel_rfl
@[simp] theorem tf_bytes117 : tbytes Try.prog 117 = false := by kernel_rfl
@[simp] theorem tf_zc117 : tzc Try.prog 117 = some [.nil, .int .i64 0, .int .i64 0] := by kernel_rfl
@[simp] theorem tf_pl117 : tplaces Try.prog 117 = some [(0, 1), (1, 1), (2, 1)] := by kernel_rfl
@[simp] theorem tf_fld117x0 : tfld Try.prog 117 0 = some (0, 1, false) := by kernel_rfl
@[simp] theorem tf_fld117x1 : tfld Try.prog 117 1 = some (1, 1, false) := by kernel_rfl
@[simp] theorem tf_fld117x2 : tfld Try.prog 117 2 = some (2, 1, false) := by kernel_rfl
@[simp] theorem tf_sz118 : tsz Try.prog 118 = some 1 := by kernel_rfl
@[simp] theorem tf_by118 : tby Try.prog 118 = some 8 := by kernel_rfl
@[simp] theorem tf_row118 : trow Try.prog 118 = some false := by kernel_rfl
@[simp] theorem tf_und118 : (Try.prog.underlying 118).isSome = true := by kernel_rfl
@[simp] theorem tf_sl118 : tsl Try.prog 118 = none := by kernel_rfl
@[simp] theorem tf_el118 : tel Try.prog 118 = none := by kernel_rfl
@[simp] theorem tf_int118 : tint Try.prog 118 = none := by kernel_rfl
@[simp] theorem tf_str118 : tstr Try.prog 118 = false := by kernel_rfl
@[simp] theorem tf_bool118 : tbool Try.prog 118 = false := by kernel_rfl
@[simp] theorem tf_ptr118 : tptr Try.prog 118 = false := by kernel_rfl
@[simp] theorem tf_bytes118 : tbytes Try.prog 118 = false := by kernel_rfl
@[simp] theorem tf_zc118 : tzc Try.prog 118 = some [.raw .nilFunc] := by kernel_rfl
@[simp] theorem tf_sz119 : tsz Try.prog 119 = some 1 := by kernel_rfl
@[simp] theorem tf_by119 : tby Try.prog 119 = some 8 := by kernel_rfl
@[simp] theorem tf_row119 : trow Try.prog 119 = some false := by kernel_rfl
@[simp] theorem tf_und119 : (Try.prog.underlying 119).isSome = true := by kernel_rfl
@[simp] theorem tf_sl119 : tsl Try.prog 119 = none := by kernel_rfl
@[simp] theorem tf_el119 : tel Try.prog 119 = none := by kernel_rfl
@[simp] theorem tf_int119 : tint Try.prog 119 = none := by kernel_rfl
@[simp] theorem tf_str119 : tstr Try.prog 119 = false := by kernel_rfl
@[simp] theorem tf_bool119 : tbool Try.prog 119 = false := by kernel_rfl
@[simp] theorem tf_ptr119 : tptr Try.prog 119 = false := by kernel_rfl
@[simp] theorem tf_bytes119 : tbytes Try.prog 119 = false := by kernel_rfl
@[simp] theorem tf_zc119 : tzc Try.prog 119 = some [.raw .nilFunc] := by kernel_rfl
@[simp] theorem tf_sz120 : tsz Try.prog 120 = some 1 := by kernel_rfl
@[simp] theorem tf_by120 : tby Try.prog 120 = some 8 := by kernel_rfl
@[simp] theorem tf_row120 : trow Try.prog 120 = some false := by kernel_rfl
@[simp] theorem tf_und120 : (Try.prog.underlying 120).isSome = true := by kernel_rfl
@[simp] theorem tf_sl120 : tsl Try.prog 120 = none := by kernel_rfl
@[simp] theorem tf_el120 : tel Try.prog 120 = none := by kernel_rfl
@[simp] theorem tf_int120 : tint Try.prog 120 = none := by kernel_rfl
@[simp] theorem tf_str120 : tstr Try.prog 120 = false := by kernel_rfl
@[simp] theorem tf_bool120 : tbool Try.prog 120 = false := by kernel_rfl
@[simp] theorem tf_ptr120 : tptr Try.prog 120 = false := by kernel_rfl
@[simp] theorem tf_bytes120 : tbytes Try.prog 120 = false := by kernel_rfl
@[simp] theorem tf_zc120 : tzc Try.prog 120 = some [.raw .nilFunc] := by kernel_rfl
@[simp] theorem tf_sz121 : tsz Try.prog 121 = some 1 := by kernel_rfl
@[simp] theorem tf_by121 : tby Try.prog 121 = some 8 := by kernel_rfl
@[simp] theorem tf_row121 : trow Try.prog 121 = some false := by kernel_rfl
@[simp] theorem tf_und121 : (Try.prog.underlying 121).isSome = true := by kernel_rfl
@[simp] theorem tf_sl121 : tsl Try.prog 121 = none := by kernel_rfl
@[simp] theorem tf_el121 : tel Try.prog 121 = none := by kernel_rfl
@[simp] theorem tf_int121 : tint Try.prog 121 = none := by kernel_rfl
@[simp] theorem tf_str121 : tstr Try.prog 121 = false := by kernel_rfl
@[simp] theorem tf_bool121 : tbool Try.prog 121 = false := by kernel_rfl
@[simp] theorem tf_ptr121 : tptr Try.prog 121 = false := by kernel_rfl
@[simp] theorem tf_bytes121 : tbytes Try.prog 121 = false := by kernel_rfl
@[simp] theorem tf_zc121 : tzc Try.prog 121 = some [.raw .nilFunc] := by kernel_rfl
@[simp] theorem tf_sz123 : tsz Try.prog 123 = some 1 := by kernel_rfl
@[simp] theorem tf_by123 : tby Try.prog 123 = some 8 := by kernel_rfl
@[simp] theorem tf_row123 : trow Try.prog 123 = some false := by kernel_rfl
@[simp] theorem tf_und123 : (Try.prog.underlying 123).isSome = true := by kernel_rfl
@[simp] theorem tf_sl123 : tsl Try.prog 123 = none := by kernel_rfl
@[simp] theorem tf_el123 : tel Try.prog 123 = none := by kernel_rfl
@[simp] theorem tf_int123 : tint Try.prog 123 = none := by kernel_rfl
@[simp] theorem tf_str123 : tstr Try.prog 123 = false := by kernel_rfl
@[simp] theorem tf_bool123 : tbool Try.prog 123 = false := by kernel_rfl
@[simp] theorem tf_ptr123 : tptr Try.prog 123 = false := by kernel_rfl
@[simp] theorem tf_bytes123 : tbytes Try.prog 123 = false := by kernel_rfl
@[simp] theorem tf_zc123 : tzc Try.prog 123 = some [.raw .nilFunc] := by kernel_rfl
@[simp] theorem tf_sz124 : tsz Try.prog 124 = some 1 := by kernel_rfl
@[simp] theorem tf_by124 : tby Try.prog 124 = some 8 := by kernel_rfl
@[simp] theorem tf_row124 : trow Try.prog 124 = some false := by kernel_rfl
@[simp] theorem tf_und124 : (Try.prog.underlying 124).isSome = true := by kernel_rfl
@[simp] theorem tf_sl124 : tsl Try.prog 124 = none := by kernel_rfl
@[simp] theorem tf_el124 : tel Try.prog 124 = none := by kernel_rfl
@[simp] theorem tf_int124 : tint Try.prog 124 = none := by kernel_rfl
@[simp] theorem tf_str124 : tstr Try.prog 124 = false := by kernel_rfl
@[simp] theorem tf_bool124 : tbool Try.prog 124 = false := by kernel_rfl
@[simp] theorem tf_ptr124 : tptr Try.prog 124 = false := by kernel_rfl
@[simp] theorem tf_bytes124 : tbytes Try.prog 124 = false := by kernel_rfl
@[simp] theorem tf_zc124 : tzc Try.prog 124 = some [.raw .nilFunc] := by kernel_rfl
@[simp] theorem tf_sz125 : tsz Try.prog 125 = some 1 := by kernel_rfl
@[simp] theorem tf_by125 : tby Try.prog 125 = some 8 := by kernel_rfl
@[simp] theorem tf_row125 : trow Try.prog 125 = some false := by kernel_rfl
@[simp] theorem tf_und125 : (Try.prog.underlying 125).isSome = true := by kernel_rfl
@[simp] theorem tf_sl125 : tsl Try.prog 125 = none := by kernel_rfl
@[simp] theorem tf_el125 : tel Try.prog 125 = none := by kernel_rfl
@[simp] theorem tf_int125 : tint Try.prog 125 = none := by kernel_rfl
@[simp] theorem tf_str125 : tstr Try.prog 125 = false := by kernel_rfl
@[simp] theorem tf_bool125 : tbool Try.prog 125 = false := by kernel_rfl
@[simp] theorem tf_ptr125 : tptr Try.prog 125 = false := by kernel_rfl
@[simp] theorem tf_bytes125 : tbytes Try.prog 125 = false := by kernel_rfl
@[simp] theorem tf_zc125 : tzc Try.prog 125 = some [.raw .nilFunc] := by kernel_rfl
@[simp] theorem tf_sz126 : tsz Try.prog 126 = some 1 := by kernel_rfl
@[simp] theorem tf_by126 : tby Try.prog 126 = some 8 := by kernel_rfl
@[simp] theorem tf_row126 : trow Try.prog 126 = some false := by kernel_rfl
@[simp] theorem tf_und126 : (Try.prog.underlying 126).isSome = true := by kernel_rfl
@[simp] theorem tf_sl126 : tsl Try.prog 126 = none := by kernel_rfl
@[simp] theorem tf_el126 : tel Try.prog 126 = none := by kernel_rfl
@[simp] theorem tf_int126 : tint Try.prog 126 = none := by kernel_rfl
@[simp] theorem tf_str126 : tstr Try.prog 126 = false := by kernel_rfl
@[simp] theorem tf_bool126 : tbool Try.prog 126 = false := by kernel_rfl
@[simp] theorem tf_ptr126 : tptr Try.prog 126 = false := by kernel_rfl
@[simp] theorem tf_bytes126 : tbytes Try.prog 126 = false := by kernel_rfl
@[simp] theorem tf_zc126 : tzc Try.prog 126 = some [.raw .nilFunc] := by kernel_rfl
@[simp] theorem tf_sz127 : tsz Try.prog 127 = some 1 := by kernel_rfl
@[simp] theorem tf_by127 : tby Try.prog 127 = some 8 := by kernel_rfl
@[simp] theorem tf_row127 : trow Try.prog 127 = some false := by kernel_rfl
@[simp] theorem tf_und127 : (Try.prog.underlying 127).isSome = true := by kernel_rfl
@[simp] theorem tf_sl127 : tsl Try.prog 127 = none := by kernel_rfl
@[simp] theorem tf_el127 : tel Try.prog 127 = none := by kernel_rfl
@[simp] theorem tf_int127 : tint Try.prog 127 = none := by kernel_rfl
@[simp] theorem tf_str127 : tstr Try.prog 127 = false := by kernel_rfl
@[simp] theorem tf_bool127 : tbool Try.prog 127 = false := by kernel_rfl
@[simp] theorem tf_ptr127 : tptr Try.prog 127 = false := by kernel_rfl
@[simp] theorem tf_bytes127 : tbytes Try.prog 127 = false := by kernel_rfl
@[simp] theorem tf_zc127 : tzc Try.prog 127 = some [.raw .nilFunc] := by kernel_rfl
@[simp] theorem tf_sz128 : tsz Try.prog 128 = some 1 := by kernel_rfl
@[simp] theorem tf_by128 : tby Try.prog 128 = some 8 := by kernel_rfl
@[simp] theorem tf_row128 : trow Try.prog 128 = some false := by kernel_rfl
@[simp] theorem tf_und128 : (Try.prog.underlying 128).isSome = true := by kernel_rfl
@[simp] theorem tf_sl128 : tsl Try.prog 128 = none := by kernel_rfl
@[simp] theorem tf_el128 : tel Try.prog 128 = none := by kernel_rfl
@[simp] theorem tf_int128 : tint Try.prog 128 = none := by kernel_rfl
@[simp] theorem tf_str128 : tstr Try.prog 128 = false := by kernel_rfl
@[simp] theorem tf_bool128 : tbool Try.prog 128 = false := by kernel_rfl
@[simp] theorem tf_ptr128 : tptr Try.prog 128 = false := by kernel_rfl
@[simp] theorem tf_bytes128 : tbytes Try.prog 128 = false := by kernel_rfl
@[simp] theorem tf_zc128 : tzc Try.prog 128 = some [.raw .nilFunc] := by kernel_rfl
@[simp] theorem tf_sz129 : tsz Try.prog 129 = some 1 := by kernel_rfl
@[simp] theorem tf_by129 : tby Try.prog 129 = some 8 := by kernel_rfl
@[simp] theorem tf_row129 : trow Try.prog 129 = some false := by kernel_rfl
@[simp] theorem tf_und129 : (Try.prog.underlying 129).isSome = true := by kernel_rfl
@[simp] theorem tf_sl129 : tsl Try.prog 129 = none := by kernel_rfl
@[simp] theorem tf_el129 : tel Try.prog 129 = none := by kernel_rfl
@[simp] theorem tf_int129 : tint Try.prog 129 = none := by kernel_rfl
@[simp] theorem tf_str129 : tstr Try.prog 129 = false := by kernel_rfl
@[simp] theorem tf_bool129 : tbool Try.prog 129 = false := by kernel_rfl
@[simp] theorem tf_ptr129 : tptr Try.prog 129 = false := by kernel_rfl
@[simp] theorem tf_bytes129 : tbytes Try.prog 129 = false := by kernel_rfl
@[simp] theorem tf_zc129 : tzc Try.prog 129 = some [.raw .nilFunc] := by kernel_rfl
@[simp] theorem tf_sz130 : tsz Try.prog 130 = some 1 := by kernel_rfl
@[simp] theorem tf_by130 : tby Try.prog 130 = some 8 := by kernel_rfl
@[simp] theorem tf_row130 : trow Try.prog 130 = some false := by kernel_rfl
@[simp] theorem tf_und130 : (Try.prog.underlying 130).isSome = true := by kernel_rfl
@[simp] theorem tf_sl130 : tsl Try.prog 130 = none := by kernel_rfl
@[simp] theorem tf_el130 : tel Try.prog 130 = none := by kernel_rfl
@[simp] theorem tf_int130 : tint Try.prog 130 = none := by kernel_rfl
@[simp] theorem tf_str130 : tstr Try.prog 130 = false := by kernel_rfl
@[simp] theorem tf_bool130 : tbool Try.prog 130 = false := by kernel_rfl
@[simp] theorem tf_ptr130 : tptr Try.prog 130 = false := by kernel_rfl
@[simp] theorem tf_bytes130 : tbytes Try.prog 130 = false := by kernel_rfl
@[simp] theorem tf_zc130 : tzc Try.prog 130 = some [.raw .nilFunc] := by kernel_rfl
@[simp] theorem tf_sz131 : tsz Try.prog 131 = some 1 := by kernel_rfl
@[simp] theorem tf_by131 : tby Try.prog 131 = some 8 := by kernel_rfl
@[simp] theorem tf_row131 : trow Try.prog 131 = some false := by kernel_rfl
@[simp] theorem tf_und131 : (Try.prog.underlying 131).isSome = true := by kernel_rfl
@[simp] theorem tf_sl131 : tsl Try.prog 131 = none := by kernel_rfl
@[simp] theorem tf_el131 : tel Try.prog 131 = none := by kernel_rfl
@[simp] theorem tf_int131 : tint Try.prog 131 = none := by kernel_rfl
@[simp] theorem tf_str131 : tstr Try.prog 131 = false := by kernel_rfl
@[simp] theorem tf_bool131 : tbool Try.prog 131 = false := by kernel_rfl
@[simp] theorem tf_ptr131 : tptr Try.prog 131 = false := by kernel_rfl
@[simp] theorem tf_bytes131 : tbytes Try.prog 131 = false := by kernel_rfl
@[simp] theorem tf_zc131 : tzc Try.prog 131 = some [.raw .nilFunc] := by kernel_rfl
@[simp] theorem tf_sz132 : tsz Try.prog 132 = some 1 := by kernel_rfl
@[simp] theorem tf_by132 : tby Try.prog 132 = some 8 := by kernel_rfl
@[simp] theorem tf_row132 : trow Try.prog 132 = some false := by kernel_rfl
@[simp] theorem tf_und132 : (Try.prog.underlying 132).isSome = true := by kernel_rfl
@[simp] theorem tf_sl132 : tsl Try.prog 132 = none := by kernel_rfl
@[simp] theorem tf_el132 : tel Try.prog 132 = none := by kernel_rfl
@[simp] theorem tf_int132 : tint Try.prog 132 = none := by kernel_rfl
@[simp] theorem tf_str132 : tstr Try.prog 132 = false := by kernel_rfl
@[simp] theorem tf_bool132 : tbool Try.prog 132 = false := by kernel_rfl
@[simp] theorem tf_ptr132 : tptr Try.prog 132 = false := by kernel_rfl
@[simp] theorem tf_bytes132 : tbytes Try.prog 132 = false := by kernel_rfl
@[simp] theorem tf_zc132 : tzc Try.prog 132 = some [.raw .nilFunc] := by kernel_rfl
@[simp] theorem tf_sz133 : tsz Try.prog 133 = some 1 := by kernel_rfl
@[simp] theorem tf_by133 : tby Try.prog 133 = some 8 := by kernel_rfl
@[simp] theorem tf_row133 : trow Try.prog 133 = some false := by kernel_rfl
@[simp] theorem tf_und133 : (Try.prog.underlying 133).isSome = true := by kernel_rfl
@[simp] theorem tf_sl133 : tsl Try.prog 133 = none := by kernel_rfl
@[simp] theorem tf_el133 : tel Try.prog 133 = none := by kernel_rfl
@[simp] theorem tf_int133 : tint Try.prog 133 = some .u64 := by kernel_rfl
@[simp] theorem tf_str133 : tstr Try.prog 133 = false := by kernel_rfl
@[simp] theorem tf_bool133 : tbool Try.prog 133 = false := by kernel_rfl
@[simp] theorem tf_ptr133 : tptr Try.prog 133 = false := by kernel_rfl
@[simp] theorem tf_bytes133 : tbytes Try.prog 133 = false := by kernel_rfl
@[simp] theorem tf_zc133 : tzc Try.prog 133 = some [.int .u64 0] := by kernel_rfl
@[simp] theorem tf_sz134 : tsz Try.prog 134 = some 1 := by kernel_rfl
@[simp] theorem tf_by134 : tby Try.prog 134 = some 8 := by kernel_rfl
@[simp] theorem tf_row134 : trow Try.prog 134 = some false := by kernel_rfl
@[simp] theorem tf_und134 : (Try.prog.underlying 134).isSome = true := by kernel_rfl
@[simp] theorem tf_sl134 : tsl Try.prog 134 = none := by kernel_rfl
@[simp] theorem tf_el134 : tel Try.prog 134 = none := by kernel_rfl
@[simp] theorem tf_int134 : tint Try.prog 134 = none := by kernel_rfl
@[simp] theorem tf_str134 : tstr Try.prog 134 = false := by kernel_rfl
@[simp] theorem tf_bool134 : tbool Try.prog 134 = false := by kernel_rfl
@[simp] theorem tf_ptr134 : tptr Try.prog 134 = false := by kernel_rfl
@[simp] theorem tf_bytes134 : tbytes Try.prog 134 = false := by kernel_rfl
@[simp] theorem tf_zc134 : tzc Try.prog 134 = some [.raw .nilFunc] := by kernel_rfl
@[simp] theorem tf_sz135 : tsz Try.prog 135 = some 1 := by kernel_rfl
@[simp] theorem tf_by135 : tby Try.prog 135 = some 4 := by kernel_rfl
@[simp] theorem tf_row135 : trow Try.prog 135 = some false := by kernel_rfl
@[simp] theorem tf_und135 : (Try.prog.underlying 135).isSome = true := by kernel_rfl
@[simp] theorem tf_sl135 : tsl Try.prog 135 = none := by kernel_rfl
@[simp] theorem tf_el135 : tel Try.prog 135 = none := by kernel_rfl
@[simp] theorem tf_int135 : tint Try.prog 135 = some .u32 := by kernel_rfl
@[simp] theorem tf_str135 : tstr Try.prog 135 = false := by kernel_rfl
@[simp] theorem tf_bool135 : tbool Try.prog 135 = false := by kernel_rfl
@[simp] theorem tf_ptr135 : tptr Try.prog 135 = false := by kernel_rfl
@[simp] theorem tf_bytes135 : tbytes Try.prog 135 = false := by kernel_rfl
@[simp] theorem tf_zc135 : tzc Try.prog 135 = some [.int .u32 0] := by kernel_rfl
@[simp] theorem tf_sz137 : tsz Try.prog 137 = some 1 := by kernel_rfl
@[simp] theorem tf_by137 : tby Try.prog 137 = some 8 := by kernel_rfl
@[simp] theorem tf_row137 : trow Try.prog 137 = some false := by kernel_rfl
@[simp] theorem tf_und137 : (Try.prog.underlying 137).isSome = true := by kernel_rfl
@[simp] theorem tf_sl137 : tsl Try.prog 137 = none := by kernel_rfl
@[simp] theorem tf_el137 : tel Try.prog 137 = none := by kernel_rfl
@[simp] theorem tf_int137 : tint Try.prog 137 = none := by kernel_rfl
@[simp] theorem tf_str137 : tstr Try.prog 137 = false := by kernel_rfl
@[simp] theorem tf_bool137 : tbool Try.prog 137 = false := by kernel_rfl
@[simp] theorem tf_ptr137 : tptr Try.prog 137 = false := by kernel_rfl
@[simp] theorem tf_bytes137 : tbytes Try.prog 137 = false := by kernel_rfl
@[simp] theorem tf_zc137 : tzc Try.prog 137 = some [.raw .nilFunc] := by kernel_rfl
@[simp] theorem tf_sz138 : tsz Try.prog 138 = some 1 := by kernel_rfl
@[simp] theorem tf_by138 : tby Try.prog 138 = some 8 := by kernel_rfl
@[simp] theorem tf_row138 : trow Try.prog 138 = some false := by kernel_rfl
@[simp] theorem tf_und138 : (Try.prog.underlying 138).isSome = true := by kernel_rfl
@[simp] theorem tf_sl138 : tsl Try.prog 138 = none := by kernel_rfl
@[simp] theorem tf_el138 : tel Try.prog 138 = none := by kernel_rfl
@[simp] theorem tf_int138 : tint Try.prog 138 = none := by kernel_rfl
@[simp] theorem tf_str138 : tstr Try.prog 138 = false := by kernel_rfl
@[simp] theorem tf_bool138 : tbool Try.prog 138 = false := by kernel_rfl
@[simp] theorem tf_ptr138 : tptr Try.prog 138 = false := by kernel_rfl
@[simp] theorem tf_bytes138 : tbytes Try.prog 138 = false := by kernel_rfl
@[simp] theorem tf_zc138 : tzc Try.prog 138 = some [.raw .nilFunc] := by kernel_rfl
@[simp] theorem tf_sz139 : tsz Try.prog 139 = some 4 := by kernel_rfl
@[simp] theorem tf_by139 : tby Try.prog 139 = some 40 := by kernel_rfl
@[simp] theorem tf_row139 : trow Try.prog 139 = some true := by kernel_rfl
@[simp] theorem tf_und139 : (Try.prog.underlying 139).isSome = true := by kernel_rfl
@[simp] theorem tf_sl139 : tsl Try.prog 139 = none := by kernel_rfl
@[simp] theorem tf_el139 : tel Try.prog 139 = none := by kernel_rfl
@[simp] theorem tf_int139 : tint Try.prog 139 = none := by kernel_rfl
@[simp] theorem tf_str139 : tstr Try.prog 139 = false := by kernel_rfl
@[simp] theorem tf_bool139 : tbool Try.prog 139 = false := by kernel_rfl
@[simp] theorem tf_ptr139 : tptr Try.prog 139 = false := by kernel_rfl
@[simp] theorem tf_bytes139 : tbytes Try.prog 139 = false := by kernel_rfl
@[simp] theorem tf_zc139 : tzc Try.prog 139 = some [.ptr none, .ptr none, .ptr none, .str []] := by kernel_rfl
@[simp] theorem tf_pl139 : tplaces Try.prog 139 = some [(0, 1), (1, 1), (2, 1), (3, 1)] := by kernel_rfl
@[simp] theorem tf_fld139x0 : tfld Try.prog 139 0 = some (0, 1, false) := by kernel_rfl
@[simp] theorem tf_fld139x1 : tfld Try.prog 139 1 = some (1, 1, false) := by kernel_rfl
@[simp] theorem tf_fld139x2 : tfld Try.prog 139 2 = some (2, 1, false) := by kernel_rfl
@[simp] theorem tf_fld139x3 : tfld Try.prog 139 3 = some (3, 1, false) := by kernel_rfl
@[simp] theorem tf_sz140 : tsz Try.prog 140 = some 4 := by kernel_rfl
@[simp] theorem tf_by140 : tby Try.prog 140 = some 40 := by kernel_rfl
@[simp] theorem tf_row140 : trow Try.prog 140 = some true := by kernel_rfl
@[simp] theorem tf_und140 : (Try.prog.underlying 140).isSome = true := by kernel_rfl
@[simp] theorem tf_sl140 : tsl Try.prog 140 = none := by kernel_rfl
@[simp] theorem tf_el140 : tel Try.prog 140 = none := by kernel_rfl
@[simp] theorem tf_int140 : tint Try.prog 140 = none := by kernel_rfl
@[simp] theorem tf_str140 : tstr Try.prog 140 = false := by kernel_rfl
@[simp] theorem tf_bool140 : tbool Try.prog 140 = false := by kernel_rfl
@[simp] theorem tf_ptr140 : tptr Try.prog 140 = false := by kernel_rfl
@[simp] theorem tf_bytes140 : tbytes Try.prog 140 = false := by kernel_rfl
@[simp] theorem tf_zc140 : tzc Try.prog 140 = some [.ptr none, .ptr none, .ptr none, .str []] := by kernel_rfl
@[simp] theorem tf_pl140 : tplaces Try.prog 140 = some [(0, 1), (1, 1), (2, 1), (3, 1)] := by kernel_rfl
@[simp] theorem tf_fld140x0 : tfld Try.prog 140 0 = some (0, 1, false) := by kernel_rfl
@[simp] theorem tf_fld140x1 : tfld Try.prog 140 1 = some (1, 1, false) := by kernel_rfl
@[simp] theorem tf_fld140x2 : tfld Try.prog 140 2 = some (2, 1, false) := by kernel_rfl
@[simp] theorem tf_fld140x3 : tfld Try.prog 140 3 = some (3, 1, false) := by kernel_rfl
@[simp] theorem tf_sz141 : tsz Try.prog 141 = some 0 := by kernel_rfl
@[simp] theorem tf_by141 : tby Try.prog 141 = some 0 := by kernel_rfl
@[simp] theorem tf_row141 : trow Try.prog 141 = some true := by kernel_rfl
@[simp] theorem tf_und141 : (Try.prog.underlying 141).isSome = true := by kernel_rfl
@[simp] theorem tf_sl141 : tsl Try.prog 141 = none := by kernel_rfl
@[simp] theorem tf_el141 : tel Try.prog 141 = none := by kernel_rfl
@[simp] theorem tf_int141 : tint Try.prog 141 = none := by kernel_rfl
@[simp] theorem tf_str141 : tstr Try.prog 141 = false := by kernel_rfl
@[simp] theorem tf_bool141 : tbool Try.prog 141 = false := by kernel_rfl
@[simp] theorem tf_ptr141 : tptr Try.prog 141 = false := by kernel_rfl
@[simp] theorem tf_bytes141 : tbytes Try.prog 141 = false := by kernel_rfl
@[simp] theorem tf_zc141 : tzc Try.prog 141 = some [] := by kernel_rfl
@[simp] theorem tf_arr141 : tarr Try.prog 141 = some (0, 1, false) := by kernel_rfl
@[simp] theorem tf_pl141 : tplaces Try.prog 141 = some [] := by kernel_rfl
@[simp] theorem tf_sz142 : tsz Try.prog 142 = some 0 := by kernel_rfl
@[simp] theorem tf_by142 : tby Try.prog 142 = some 0 := by kernel_rfl
@[simp] theorem tf_row142 : trow Try.prog 142 = some true := by kernel_rfl
@[simp] theorem tf_und142 : (Try.prog.underlying 142).isSome = true := by kernel_rfl
@[simp] theorem tf_sl142 : tsl Try.prog 142 = none := by kernel_rfl
@[simp] theorem tf_el142 : tel Try.prog 142 = none := by kernel_rfl
@[simp] theorem tf_int142 : tint Try.prog 142 = none := by kernel_rfl
@[simp] theorem tf_str142 : tstr Try.prog 142 = false := by kernel_rfl
@[simp] theorem tf_bool142 : tbool Try.prog 142 = false := by kernel_rfl
@[simp] theorem tf_ptr142 : tptr Try.prog 142 = false := by kernel_rfl
@[simp] theorem tf_bytes142 : tbytes Try.prog 142 = false := by kernel_rfl
@[simp] theorem tf_zc142 : tzc Try.prog 142 = some [] := by kernel_rfl
@[simp] theorem tf_pl142 : tplaces Try.prog 142 = some [(0, 0)] := by kernel_rfl
@[simp] theorem tf_sz143 : tsz Try.prog 143 = some 0 := by kernel_rfl
@[simp] theorem tf_by143 : tby Try.prog 143 = some 0 := by kernel_rfl
@[simp] theorem tf_row143 : trow Try.prog 143 = some true := by kernel_rfl
@[simp] theorem tf_und143 : (Try.prog.underlying 143).isSome = true := by kernel_rfl
@[simp] theorem tf_sl143 : tsl Try.prog 143 = none := by kernel_rfl
@[simp] theorem tf_el143 : tel Try.prog 143 = none := by kernel_rfl
@[simp] theorem tf_int143 : tint Try.prog 143 = none := by kernel_rfl
@[simp] theorem tf_str143 : tstr Try.prog 143 = false := by kernel_rfl
@[simp] theorem tf_bool143 : tbool Try.prog 143 = false := by kernel_rfl
@[simp] theorem tf_ptr143 : tptr Try.prog 143 = false := by kernel_rfl
@[simp] theorem tf_bytes143 : tbytes Try.prog 143 = false := by kernel_rfl
@[simp] theorem tf_zc143 : tzc Try.prog 143 = some [] := by kernel_rfl
@[simp] theorem tf_pl143 : tplaces Try.prog 143 = some [(0, 0)] := by kernel_rfl
@[simp] theorem tf_sz144 : tsz Try.prog 144 = some 1 := by kernel_rfl
@[simp] theorem tf_by144 : tby Try.prog 144 = some 1 := by kernel_rfl
@[simp] theorem tf_row144 : trow Try.prog 144 = some false := by kernel_rfl
@[simp] theorem tf_und144 : (Try.prog.underlying 144).isSome = true := by kernel_rfl
@[simp] theorem tf_sl144 : tsl Try.prog 144 = none := by kernel_rfl
@[simp] theorem tf_el144 : tel Try.prog 144 = none := by kernel_rfl
@[simp] theorem tf_int144 : tint Try.prog 144 = some .u8 := by kernel_rfl
@[simp] theorem tf_str144 : tstr Try.prog 144 = false := by kernel_rfl
@[simp] theorem tf_bool144 : tbool Try.prog 144 = false := by kernel_rfl
@[simp] theorem tf_ptr144 : tptr Try.prog 144 = false := by kernel_rfl
@[simp] theorem tf_bytes144 : tbytes Try.prog 144 = false := by kernel_rfl
@[simp] theorem tf_zc144 : tzc Try.prog 144 = some [.int .u8 0] := by kernel_rfl
@[simp] theorem tf_sz145 : tsz Try.prog 145 = some 1 := by kernel_rfl
@[simp] theorem tf_by145 : tby Try.prog 145 = some 1 := by kernel_rfl
@[simp] theorem tf_row145 : trow Try.prog 145 = some false := by kernel_rfl
@[simp] theorem tf_und145 : (Try.prog.underlying 145).isSome = true := by kernel_rfl
@[simp] theorem tf_sl145 : tsl Try.prog 145 = none := by kernel_rfl
@[simp] theorem tf_el145 : tel Try.prog 145 = none := by kernel_rfl
@[simp] theorem tf_int145 : tint Try.prog 145 = some .u8 := by kernel_rfl
@[simp] theorem tf_str145 : tstr Try.prog 145 = false := by kernel_rfl
@[simp] theorem tf_bool145 : tbool Try.prog 145 = false := by kernel_rfl
@[simp] theorem tf_ptr145 : tptr Try.prog 145 = false := by kernel_rfl
@[simp] theorem tf_bytes145 : tbytes Try.prog 145 = false := by kernel_rfl
@[simp] theorem tf_zc145 : tzc Try.prog 145 = some [.int .u8 0] := by kernel_rfl
@[simp] theorem tf_sz146 : tsz Try.prog 146 = some 1 := by kernel_rfl
@[simp] theorem tf_by146 : tby Try.prog 146 = some 8 := by kernel_rfl
@[simp] theorem tf_row146 : trow Try.prog 146 = some false := by kernel_rfl
@[simp] theorem tf_und146 : (Try.prog.underlying 146).isSome = true := by kernel_rfl
@[simp] theorem tf_sl146 : tsl Try.prog 146 = none := by kernel_rfl
@[simp] theorem tf_el146 : tel Try.prog 146 = none := by kernel_rfl
@[simp] theorem tf_int146 : tint Try.prog 146 = none := by kernel_rfl
@[simp] theorem tf_str146 : tstr Try.prog 146 = false := by kernel_rfl
@[simp] theorem tf_bool146 : tbool Try.prog 146 = false := by kernel_rfl
@[simp] theorem tf_ptr146 : tptr Try.prog 146 = false := by kernel_rfl
@[simp] theorem tf_bytes146 : tbytes Try.prog 146 = false := by kernel_rfl
@[simp] theorem tf_zc146 : tzc Try.prog 146 = some [.raw .nilFunc] := by kernel_rfl
@[simp] theorem tf_sz147 : tsz Try.prog 147 = some 1 := by kernel_rfl
@[simp] theorem tf_by147 : tby Try.prog 147 = some 8 := by kernel_rfl
@[simp] theorem tf_row147 : trow Try.prog 147 = some false := by kernel_rfl
@[simp] theorem tf_und147 : (Try.prog.underlying 147).isSome = true := by kernel_rfl
@[simp] theorem tf_sl147 : tsl Try.prog 147 = none := by kernel_rfl
@[simp] theorem tf_el147 : tel Try.prog 147 = none := by kernel_rfl
@[simp] theorem tf_int147 : tint Try.prog 147 = none := by kernel_rfl
@[simp] theorem tf_str147 : tstr Try.prog 147 = false := by kernel_rfl
@[simp] theorem tf_bool147 : tbool Try.prog 147 = false := by kernel_rfl
@[simp] theorem tf_ptr147 : tptr Try.prog 147 = true := by kernel_rfl
@[simp] theorem tf_bytes147 : tbytes Try.prog 147 = false := by kernel_rfl
@[simp] theorem tf_zc147 : tzc Try.prog 147 = some [.ptr none] := by kernel_rfl
@[simp] theorem tf_sz148 : tsz Try.prog 148 = some 1 := by kernel_rfl
@[simp] theorem tf_by148 : tby Try.prog 148 = some 4 := by kernel_rfl
@[simp] theorem tf_row148 : trow Try.prog 148 = some false := by kernel_rfl
@[simp] theorem tf_und148 : (Try.prog.underlying 148).isSome = true := by kernel_rfl
@[simp] theorem tf_sl148 : tsl Try.prog 148 = none := by kernel_rfl
@[simp] theorem tf_el148 : tel Try.prog 148 = none := by kernel_rfl
@[simp] theorem tf_int148 : tint Try.prog 148 = some .i32 := by kernel_rfl
@[simp] theorem tf_str148 : tstr Try.prog 148 = false := by kernel_rfl
@[simp] theorem tf_bool148 : tbool Try.prog 148 = false := by kernel_rfl
@[simp] theorem tf_ptr148 : tptr Try.prog 148 = false := by kernel_rfl
@[simp] theorem tf_bytes148 : tbytes Try.prog 148 = false := by kernel_rfl
@[simp] theorem tf_zc148 : tzc Try.prog 148 = some [.int .i32 0] := by kernel_rfl
@[simp] theorem tf_sz149 : tsz Try.prog 149 = some 1 := by kernel_rfl
@[simp] theorem tf_by149 : tby Try.prog 149 = some 4 := by kernel_rfl
@[simp] theorem tf_row149 : trow Try.prog 149 = some false := by kernel_rfl
@[simp] theorem tf_und149 : (Try.prog.underlying 149).isSome = true := by kernel_rfl
@[simp] theorem tf_sl149 : tsl Try.prog 149 = none := by kernel_rfl
@[simp] theorem tf_el149 : tel Try.prog 149 = none := by kernel_rfl
@[simp] theorem tf_int149 : tint Try.prog 149 = some .i32 := by kernel_rfl
@[simp] theorem tf_str149 : tstr Try.prog 149 = false := by kernel_rfl
@[simp] theorem tf_bool149 : tbool Try.prog 149 = false := by kernel_rfl
@[simp] theorem tf_ptr149 : tptr Try.prog 149 = false := by kernel_rfl
@[simp] theorem tf_bytes149 : tbytes Try.prog 149 = false := by kernel_rfl
@[simp] theorem tf_zc149 : tzc Try.prog 149 = some [.int .i32 0] := by kernel_rfl
@[simp] theorem tf_sz150 : tsz Try.prog 150 = some 11 := by kernel_rfl
@[simp] theorem tf_by150 : tby Try.prog 150 = some 48 := by kernel_rfl
@[simp] theorem tf_row150 : trow Try.prog 150 = some true := by kernel_rfl
@[simp] theorem tf_und150 : (Try.prog.underlying 150).isSome = true := by kernel_rfl
@[simp] theorem tf_sl150 : tsl Try.prog 150 = none := by kernel_rfl
@[simp] theorem tf_el150 : tel Try.prog 150 = none := by kernel_rfl
@[simp] theorem tf_int150 : tint Try.prog 150 = none := by kernel_rfl
@[simp] theorem tf_str150 : tstr Try.prog 150 = false := by kernel_rfl
@[simp] theorem tf_bool150 : tbool Try.prog 150 = false := by kernel_rfl
@[simp] theorem tf_ptr150 : tptr Try.prog 150 = false := by kernel_rfl
@[simp] theorem tf_bytes150 : tbytes Try.prog 150 = false := by kernel_rfl
@[simp] theorem tf_zc150 : tzc Try.prog 150 = some [.int .u64 0, .int .u64 0, .int .u32 0, .int .u8 0, .int .u8 0, .int .u8 0, .int .u8 0, .raw .nilFunc, .ptr none, .int .i32 0, .int .i32 0] := by kernel_rfl
@[simp] theorem tf_pl150 : tplaces Try.prog 150 = some [(0, 1), (1, 1), (2, 1), (3, 1), (4, 1), (5, 1), (6, 1), (7, 1), (8, 1), (9, 1), (10, 1)] := by kernel_rfl
@[simp] theorem tf_fld150x0 : tfld Try.prog 150 0 = some (0, 1, false) := by kernel_rfl
@[simp] theorem tf_fld150x1 : tfld Try.prog 150 1 = some (1, 1, false) := by kernel_rfl
@[simp] theorem tf_fld150x2 : tfld Try.prog 150 2 = some (2, 1, false) := by kernel_rfl
@[simp] theorem tf_fld150x3 : tfld Try.prog 150 3 = some (3, 1, false) := by kernel_rfl
@[simp] theorem tf_fld150x4 : tfld Try.prog 150 4 = some (4, 1, false) := by kernel_rfl
@[simp] theorem tf_fld150x5 : tfld Try.prog 150 5 = some (5, 1, false) := by kernel_rfl
@[simp] theorem tf_fld150x6 : tfld Try.prog 150 6 = some (6, 1, false) := by kernel_rfl
@[simp] theorem tf_fld150x7 : tfld Try.prog 150 7 = some (7, 1, false) := by kernel_rfl
@[simp] theorem tf_fld150x8 : tfld Try.prog 150 8 = some (8, 1, false) := by kernel_rfl
@[simp] theorem tf_fld150x9 : tfld Try.prog 150 9 = some (9, 1, false) := by kernel_rfl
@[simp] theorem tf_fld150x10 : tfld Try.prog 150 10 = some (10, 1, false) := by kernel_rfl
@[simp] theorem tf_sz151 : tsz Try.prog 151 = some 11 := by kernel_rfl
@[simp] theorem tf_by151 : tby Try.prog 151 = some 48 := by kernel_rfl
@[simp] theorem tf_row151 : trow Try.prog 151 = some true := by kernel_rfl
@[simp] theorem tf_und151 : (Try.prog.underlying 151).isSome = true := by kernel_rfl
@[simp] theorem tf_sl151 : tsl Try.prog 151 = none := by kernel_rfl
@[simp] theorem tf_el151 : tel Try.prog 151 = none := by kernel_rfl
@[simp] theorem tf_int151 : tint Try.prog 151 = none := by kernel_rfl
@[simp] theorem tf_str151 : tstr Try.prog 151 = false := by kernel_rfl
@[simp] theorem tf_bool151 : tbool Try.prog 151 = false := by kernel_rfl
@[simp] theorem tf_ptr151 : tptr Try.prog 151 = false := by kernel_rfl
@[simp] theorem tf_bytes151 : tbytes Try.prog 151 = false := by kernel_rfl
@[simp] theorem tf_zc151 : tzc Try.prog 151 = some [.int .u64 0, .int .u64 0, .int .u32 0, .int .u8 0, .int .u8 0, .int .u8 0, .int .u8 0, .raw .nilFunc, .ptr none, .int .i32 0, .int .i32 0] := by kernel_rfl
@[simp] theorem tf_pl151 : tplaces Try.prog 151 = some [(0, 1), (1, 1), (2, 1), (3, 1), (4, 1), (5, 1), (6, 1), (7, 1), (8, 1), (9, 1), (10, 1)] := by kernel_rfl
@[simp] theorem tf_fld151x0 : tfld Try.prog 151 0 = some (0, 1, false) := by kernel_rfl
@[simp] theorem tf_fld151x1 : tfld Try.prog 151 1 = some (1, 1, false) := by kernel_rfl
@[simp] theorem tf_fld151x2 : tfld Try.prog 151 2 = some (2, 1, false) := by kernel_rfl
@[simp] theorem tf_fld151x3 : tfld Try.prog 151 3 = some (3, 1, false) := by kernel_rfl
@[simp] theorem tf_fld151x4 : tfld Try.prog 151 4 = some (4, 1, false) := by kernel_rfl
@[simp] theorem tf_fld151x5 : tfld Try.prog 151 5 = some (5, 1, false) := by kernel_rfl
@[simp] theorem tf_fld151x6 : tfld Try.prog 151 6 = some (6, 1, false) := by kernel_rfl
@[simp] theorem tf_fld151x7 : tfld Try.prog 151 7 = some (7, 1, false) := by kernel_rfl
@[simp] theorem tf_fld151x8 : tfld Try.prog 151 8 = some (8, 1, false) := by kernel_rfl
@[simp] theorem tf_fld151x9 : tfld Try.prog 151 9 = some (9, 1, false) := by kernel_rfl
@[simp] theorem tf_fld151x10 : tfld Try.prog 151 10 = some (10, 1, false) := by kernel_rfl
@[simp] theorem tf_sz152 : tsz Try.prog 152 = some 1 := by kernel_rfl
@[simp] theorem tf_by152 : tby Try.prog 152 = some 8 := by kernel_rfl
@[simp] theorem tf_row152 : trow Try.prog 152 = some false := by kernel_rfl
@[simp] theorem tf_und152 : (Try.prog.underlying 152).isSome = true := by kernel_rfl
@[simp] theorem tf_sl152 : tsl Try.prog 152 = none := by kernel_rfl
@[simp] theorem tf_el152 : tel Try.prog 152 = none := by kernel_rfl
@[simp] theorem tf_int152 : tint Try.prog 152 = none := by kernel_rfl
@[simp] theorem tf_str152 : tstr Try.prog 152 = false := by kernel_rfl
@[simp] theorem tf_bool152 : tbool Try.prog 152 = false := by kernel_rfl
@[simp] theorem tf_ptr152 : tptr Try.prog 152 = false := by kernel_rfl
@[simp] theorem tf_bytes152 : tbytes Try.prog 152 = false := by kernel_rfl
@[simp] theorem tf_zc152 : tzc Try.prog 152 = some [.raw .nilFunc] := by kernel_rfl
@[simp] theorem tf_sz154 : tsz Try.prog 154 = some 1 := by kernel_rfl
@[simp] theorem tf_by154 : tby Try.prog 154 = some 8 := by kernel_rfl
@[simp] theorem tf_row154 : trow Try.prog 154 = some false := by kernel_rfl
@[simp] theorem tf_und154 : (Try.prog.underlying 154).isSome = true := by kernel_rfl
@[simp] theorem tf_sl154 : tsl Try.prog 154 = none := by kernel_rfl
@[simp] theorem tf_el154 : tel Try.prog 154 = none := by kernel_rfl
@[simp] theorem tf_int154 : tint Try.prog 154 = none := by kernel_rfl
@[simp] theorem tf_str154 : tstr Try.prog 154 = false := by kernel_rfl
@[simp] theorem tf_bool154 : tbool Try.prog 154 = false := by kernel_rfl
@[simp] theorem tf_ptr154 : tptr Try.prog 154 = false := by kernel_rfl
@[simp] theorem tf_bytes154 : tbytes Try.prog 154 = false := by kernel_rfl
@[simp] theorem tf_zc154 : tzc Try.prog 154 = some [.raw .nilFunc] := by kernel_rfl
@[simp] theorem tf_sz155 : tsz Try.prog 155 = some 1 := by kernel_rfl
@[simp] theorem tf_by155 : tby Try.prog 155 = some 8 := by kernel_rfl
@[simp] theorem tf_row155 : trow Try.prog 155 = some false := by kernel_rfl
@[simp] theorem tf_und155 : (Try.prog.underlying 155).isSome = true := by kernel_rfl
@[simp] theorem tf_sl155 : tsl Try.prog 155 = none := by kernel_rfl
@[simp] theorem tf_el155 : tel Try.prog 155 = none := by kernel_rfl
@[simp] theorem tf_int155 : tint Try.prog 155 = none := by kernel_rfl
@[simp] theorem tf_str155 : tstr Try.prog 155 = false := by kernel_rfl
@[simp] theorem tf_bool155 : tbool Try.prog 155 = false := by kernel_rfl
@[simp] theorem tf_ptr155 : tptr Try.prog 155 = false := by kernel_rfl
@[simp] theorem tf_bytes155 : tbytes Try.prog 155 = false := by kernel_rfl
@[simp] theorem tf_zc155 : tzc Try.prog 155 = some [.raw .nilFunc] := by kernel_rfl
@[simp] theorem tf_sz156 : tsz Try.prog 156 = some 1 := by kernel_rfl
@[simp] theorem tf_by156 : tby Try.prog 156 = some 8 := by kernel_rfl
@[simp] theorem tf_row156 : trow Try.prog 156 = some false := by kernel_rfl
@[simp] theorem tf_und156 : (Try.prog.underlying 156).isSome = true := by kernel_rfl
@[simp] theorem tf_sl156 : tsl Try.prog 156 = none := by kernel_rfl
@[simp] theorem tf_el156 : tel Try.prog 156 = none := by kernel_rfl
@[simp] theorem tf_int156 : tint Try.prog 156 = none := by kernel_rfl
@[simp] theorem tf_str156 : tstr Try.prog 156 = false := by kernel_rfl
@[simp] theorem tf_bool156 : tbool Try.prog 156 = false := by kernel_rfl
@[simp] theorem tf_ptr156 : tptr Try.prog 156 = false := by kernel_rfl
@[simp] theorem tf_bytes156 : tbytes Try.prog 156 = false := by kernel_rfl
@[simp] theorem tf_zc156 : tzc Try.prog 156 = some [.raw .nilFunc] := by kernel_rfl
end Go.Proofs.Ytgofogcfolhonaa
