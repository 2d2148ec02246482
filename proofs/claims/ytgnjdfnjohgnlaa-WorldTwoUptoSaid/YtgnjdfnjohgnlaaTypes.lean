/- What the types of this program are: closed facts. -/
import Derived.Test.YtgnjdfnjohgnlaaProg
import Derived.Test.YtgnjdfnjohgnlaaAm15
import Derived.KernelRfl
set_option linter.unusedVariables false
namespace Go.Proofs.Ytgnjdfnjohgnlaa
open Go
@[simp] theorem tf_sz1 : tsz Try.prog 1 = some 1 := by kernel_rfl
@[simp] theorem tf_by1 : tby Try.prog 1 = some 8 := by kernel_rfl
@[simp] theorem tf_row1 : trow Try.prog 1 = some false := by kernel_rfl
@[simp] theorem tf_und1 : (Try.prog.underlying 1).isSome = true := by kernel_rfl
@[simp] theorem tf_sl1 : tsl Try.prog 1 = none := by kernel_rfl
@[simp] theorem tf_el1 : tel Try.prog 1 = none := by kernel_rfl
@[simp] theorem tf_int1 : tint Try.prog 1 = none := by kernel_rfl
@[simp] theorem tf_str1 : tstr Try.prog 1 = false := by kernel_rfl
@[simp] theorem tf_bool1 : tbool Try.prog 1 = false := by kernel_rfl
@[simp] theorem tf_ptr1 : tptr Try.prog 1 = false := by kernel_rfl
@[simp] theorem tf_bytes1 : tbytes Try.prog 1 = false := by kernel_rfl
@[simp] theorem tf_zc1 : tzc Try.prog 1 = some [.raw .nilFunc] := by kernel_rfl
@[simp] theorem tf_sz2 : tsz Try.prog 2 = some 1 := by kernel_rfl
@[simp] theorem tf_by2 : tby Try.prog 2 = some 8 := by kernel_rfl
@[simp] theorem tf_row2 : trow Try.prog 2 = some false := by kernel_rfl
@[simp] theorem tf_und2 : (Try.prog.underlying 2).isSome = true := by kernel_rfl
@[simp] theorem tf_sl2 : tsl Try.prog 2 = none := by kernel_rfl
@[simp] theorem tf_el2 : tel Try.prog 2 = none := by kernel_rfl
@[simp] theorem tf_int2 : tint Try.prog 2 = some .i64 := by kernel_rfl
@[simp] theorem tf_str2 : tstr Try.prog 2 = false := by kernel_rfl
@[simp] theorem tf_bool2 : tbool Try.prog 2 = false := by kernel_rfl
@[simp] theorem tf_ptr2 : tptr Try.prog 2 = false := by kernel_rfl
@[simp] theorem tf_bytes2 : tbytes Try.prog 2 = false := by kernel_rfl
@[simp] theorem tf_zc2 : tzc Try.prog 2 = some [.int .i64 0] := by kernel_rfl
@[simp] theorem tf_sz3 : tsz Try.prog 3 = some 1 := by kernel_rfl
@[simp] theorem tf_by3 : tby Try.prog 3 = some 8 := by kernel_rfl
@[simp] theorem tf_row3 : trow Try.prog 3 = some false := by kernel_rfl
@[simp] theorem tf_und3 : (Try.prog.underlying 3).isSome = true := by kernel_rfl
@[simp] theorem tf_sl3 : tsl Try.prog 3 = none := by kernel_rfl
@[simp] theorem tf_el3 : tel Try.prog 3 = none := by kernel_rfl
@[simp] theorem tf_int3 : tint Try.prog 3 = some .i64 := by kernel_rfl
@[simp] theorem tf_str3 : tstr Try.prog 3 = false := by kernel_rfl
@[simp] theorem tf_bool3 : tbool Try.prog 3 = false := by kernel_rfl
@[simp] theorem tf_ptr3 : tptr Try.prog 3 = false := by kernel_rfl
@[simp] theorem tf_bytes3 : tbytes Try.prog 3 = false := by kernel_rfl
@[simp] theorem tf_zc3 : tzc Try.prog 3 = some [.int .i64 0] := by kernel_rfl
@[simp] theorem tf_sz4 : tsz Try.prog 4 = some 1 := by kernel_rfl
@[simp] theorem tf_by4 : tby Try.prog 4 = some 1 := by kernel_rfl
@[simp] theorem tf_row4 : trow Try.prog 4 = some false := by kernel_rfl
@[simp] theorem tf_und4 : (Try.prog.underlying 4).isSome = true := by kernel_rfl
@[simp] theorem tf_sl4 : tsl Try.prog 4 = none := by kernel_rfl
@[simp] theorem tf_el4 : tel Try.prog 4 = none := by kernel_rfl
@[simp] theorem tf_int4 : tint Try.prog 4 = none := by kernel_rfl
@[simp] theorem tf_str4 : tstr Try.prog 4 = false := by kernel_rfl
@[simp] theorem tf_bool4 : tbool Try.prog 4 = true := by kernel_rfl
@[simp] theorem tf_ptr4 : tptr Try.prog 4 = false := by kernel_rfl
@[simp] theorem tf_bytes4 : tbytes Try.prog 4 = false := by kernel_rfl
@[simp] theorem tf_zc4 : tzc Try.prog 4 = some [.bool false] := by kernel_rfl
@[simp] theorem tf_sz5 : tsz Try.prog 5 = some 1 := by kernel_rfl
@[simp] theorem tf_by5 : tby Try.prog 5 = some 1 := by kernel_rfl
@[simp] theorem tf_row5 : trow Try.prog 5 = some false := by kernel_rfl
@[simp] theorem tf_und5 : (Try.prog.underlying 5).isSome = true := by kernel_rfl
@[simp] theorem tf_sl5 : tsl Try.prog 5 = none := by kernel_rfl
@[simp] theorem tf_el5 : tel Try.prog 5 = none := by kernel_rfl
@[simp] theorem tf_int5 : tint Try.prog 5 = some .u8 := by kernel_rfl
@[simp] theorem tf_str5 : tstr Try.prog 5 = false := by kernel_rfl
@[simp] theorem tf_bool5 : tbool Try.prog 5 = false := by kernel_rfl
@[simp] theorem tf_ptr5 : tptr Try.prog 5 = false := by kernel_rfl
@[simp] theorem tf_bytes5 : tbytes Try.prog 5 = false := by kernel_rfl
@[simp] theorem tf_zc5 : tzc Try.prog 5 = some [.int .u8 0] := by kernel_rfl
@[simp] theorem tf_sz6 : tsz Try.prog 6 = some 1 := by kernel_rfl
@[simp] theorem tf_by6 : tby Try.prog 6 = some 1 := by kernel_rfl
@[simp] theorem tf_row6 : trow Try.prog 6 = some false := by kernel_rfl
@[simp] theorem tf_und6 : (Try.prog.underlying 6).isSome = true := by kernel_rfl
@[simp] theorem tf_sl6 : tsl Try.prog 6 = none := by kernel_rfl
@[simp] theorem tf_el6 : tel Try.prog 6 = none := by kernel_rfl
@[simp] theorem tf_int6 : tint Try.prog 6 = some .u8 := by kernel_rfl
@[simp] theorem tf_str6 : tstr Try.prog 6 = false := by kernel_rfl
@[simp] theorem tf_bool6 : tbool Try.prog 6 = false := by kernel_rfl
@[simp] theorem tf_ptr6 : tptr Try.prog 6 = false := by kernel_rfl
@[simp] theorem tf_bytes6 : tbytes Try.prog 6 = false := by kernel_rfl
@[simp] theorem tf_zc6 : tzc Try.prog 6 = some [.int .u8 0] := by kernel_rfl
@[simp] theorem tf_sz7 : tsz Try.prog 7 = some 4 := by kernel_rfl
@[simp] theorem tf_by7 : tby Try.prog 7 = some 24 := by kernel_rfl
@[simp] theorem tf_row7 : trow Try.prog 7 = some true := by kernel_rfl
@[simp] theorem tf_und7 : (Try.prog.underlying 7).isSome = true := by kernel_rfl
@[simp] theorem tf_sl7 : tsl Try.prog 7 = none := by kernel_rfl
@[simp] theorem tf_el7 : tel Try.prog 7 = none := by kernel_rfl
@[simp] theorem tf_int7 : tint Try.prog 7 = none := by kernel_rfl
@[simp] theorem tf_str7 : tstr Try.prog 7 = false := by kernel_rfl
@[simp] theorem tf_bool7 : tbool Try.prog 7 = false := by kernel_rfl
@[simp] theorem tf_ptr7 : tptr Try.prog 7 = false := by kernel_rfl
@[simp] theorem tf_bytes7 : tbytes Try.prog 7 = false := by kernel_rfl
@[simp] theorem tf_zc7 : tzc Try.prog 7 = some [.int .i64 0, .int .i64 0, .bool false, .int .u8 0] := by kernel_rfl
@[simp] theorem tf_pl7 : tplaces Try.prog 7 = some [(0, 1), (1, 1), (2, 1), (3, 1)] := by kernel_rfl
@[simp] theorem tf_fld7x0 : tfld Try.prog 7 0 = some (0, 1, false) := by kernel_rfl
@[simp] theorem tf_fld7x1 : tfld Try.prog 7 1 = some (1, 1, false) := by kernel_rfl
@[simp] theorem tf_fld7x2 : tfld Try.prog 7 2 = some (2, 1, false) := by kernel_rfl
@[simp] theorem tf_fld7x3 : tfld Try.prog 7 3 = some (3, 1, false) := by kernel_rfl
@[simp] theorem tf_sz8 : tsz Try.prog 8 = some 4 := by kernel_rfl
@[simp] theorem tf_by8 : tby Try.prog 8 = some 24 := by kernel_rfl
@[simp] theorem tf_row8 : trow Try.prog 8 = some true := by kernel_rfl
@[simp] theorem tf_und8 : (Try.prog.underlying 8).isSome = true := by kernel_rfl
@[simp] theorem tf_sl8 : tsl Try.prog 8 = none := by kernel_rfl
@[simp] theorem tf_el8 : tel Try.prog 8 = none := by kernel_rfl
@[simp] theorem tf_int8 : tint Try.prog 8 = none := by kernel_rfl
@[simp] theorem tf_str8 : tstr Try.prog 8 = false := by kernel_rfl
@[simp] theorem tf_bool8 : tbool Try.prog 8 = false := by kernel_rfl
@[simp] theorem tf_ptr8 : tptr Try.prog 8 = false := by kernel_rfl
@[simp] theorem tf_bytes8 : tbytes Try.prog 8 = false := by kernel_rfl
@[simp] theorem tf_zc8 : tzc Try.prog 8 = some [.int .i64 0, .int .i64 0, .bool false, .int .u8 0] := by kernel_rfl
@[simp] theorem tf_pl8 : tplaces Try.prog 8 = some [(0, 1), (1, 1), (2, 1), (3, 1)] := by kernel_rfl
@[simp] theorem tf_fld8x0 : tfld Try.prog 8 0 = some (0, 1, false) := by kernel_rfl
@[simp] theorem tf_fld8x1 : tfld Try.prog 8 1 = some (1, 1, false) := by kernel_rfl
@[simp] theorem tf_fld8x2 : tfld Try.prog 8 2 = some (2, 1, false) := by kernel_rfl
@[simp] theorem tf_fld8x3 : tfld Try.prog 8 3 = some (3, 1, false) := by kernel_rfl
@[simp] theorem tf_sz9 : tsz Try.prog 9 = some 1 := by kernel_rfl
@[simp] theorem tf_by9 : tby Try.prog 9 = some 16 := by kernel_rfl
@[simp] theorem tf_row9 : trow Try.prog 9 = some false := by kernel_rfl
@[simp] theorem tf_und9 : (Try.prog.underlying 9).isSome = true := by kernel_rfl
@[simp] theorem tf_sl9 : tsl Try.prog 9 = none := by kernel_rfl
@[simp] theorem tf_el9 : tel Try.prog 9 = none := by kernel_rfl
@[simp] theorem tf_int9 : tint Try.prog 9 = none := by kernel_rfl
@[simp] theorem tf_str9 : tstr Try.prog 9 = true := by kernel_rfl
@[simp] theorem tf_bool9 : tbool Try.prog 9 = false := by kernel_rfl
@[simp] theorem tf_ptr9 : tptr Try.prog 9 = false := by kernel_rfl
@[simp] theorem tf_bytes9 : tbytes Try.prog 9 = false := by kernel_rfl
@[simp] theorem tf_zc9 : tzc Try.prog 9 = some [.str []] := by kernel_rfl
@[simp] theorem tf_sz10 : tsz Try.prog 10 = some 1 := by kernel_rfl
@[simp] theorem tf_by10 : tby Try.prog 10 = some 16 := by kernel_rfl
@[simp] theorem tf_row10 : trow Try.prog 10 = some false := by kernel_rfl
@[simp] theorem tf_und10 : (Try.prog.underlying 10).isSome = true := by kernel_rfl
@[simp] theorem tf_sl10 : tsl Try.prog 10 = none := by kernel_rfl
@[simp] theorem tf_el10 : tel Try.prog 10 = none := by kernel_rfl
@[simp] theorem tf_int10 : tint Try.prog 10 = none := by kernel_rfl
@[simp] theorem tf_str10 : tstr Try.prog 10 = true := by kernel_rfl
@[simp] theorem tf_bool10 : tbool Try.prog 10 = false := by kernel_rfl
@[simp] theorem tf_ptr10 : tptr Try.prog 10 = false := by kernel_rfl
@[simp] theorem tf_bytes10 : tbytes Try.prog 10 = false := by kernel_rfl
@[simp] theorem tf_zc10 : tzc Try.prog 10 = some [.str []] := by kernel_rfl
@[simp] theorem tf_sz11 : tsz Try.prog 11 = some 1 := by kernel_rfl
@[simp] theorem tf_by11 : tby Try.prog 11 = some 16 := by kernel_rfl
@[simp] theorem tf_row11 : trow Try.prog 11 = some false := by kernel_rfl
@[simp] theorem tf_und11 : (Try.prog.underlying 11).isSome = true := by kernel_rfl
@[simp] theorem tf_sl11 : tsl Try.prog 11 = none := by kernel_rfl
@[simp] theorem tf_el11 : tel Try.prog 11 = none := by kernel_rfl
@[simp] theorem tf_int11 : tint Try.prog 11 = none := by kernel_rfl
@[simp] theorem tf_str11 : tstr Try.prog 11 = true := by kernel_rfl
@[simp] theorem tf_bool11 : tbool Try.prog 11 = false := by kernel_rfl
@[simp] theorem tf_ptr11 : tptr Try.prog 11 = false := by kernel_rfl
@[simp] theorem tf_bytes11 : tbytes Try.prog 11 = false := by kernel_rfl
@[simp] theorem tf_zc11 : tzc Try.prog 11 = some [.str []] := by kernel_rfl
@[simp] theorem tf_sz12 : tsz Try.prog 12 = some 1 := by kernel_rfl
@[simp] theorem tf_by12 : tby Try.prog 12 = some 8 := by kernel_rfl
@[simp] theorem tf_row12 : trow Try.prog 12 = some false := by kernel_rfl
@[simp] theorem tf_und12 : (Try.prog.underlying 12).isSome = true := by kernel_rfl
@[simp] theorem tf_sl12 : tsl Try.prog 12 = none := by kernel_rfl
@[simp] theorem tf_el12 : tel Try.prog 12 = none := by kernel_rfl
@[simp] theorem tf_int12 : tint Try.prog 12 = some .u64 := by kernel_rfl
@[simp] theorem tf_str12 : tstr Try.prog 12 = false := by kernel_rfl
@[simp] theorem tf_bool12 : tbool Try.prog 12 = false := by kernel_rfl
@[simp] theorem tf_ptr12 : tptr Try.prog 12 = false := by kernel_rfl
@[simp] theorem tf_bytes12 : tbytes Try.prog 12 = false := by kernel_rfl
@[simp] theorem tf_zc12 : tzc Try.prog 12 = some [.int .u64 0] := by kernel_rfl
@[simp] theorem tf_sz13 : tsz Try.prog 13 = some 2 := by kernel_rfl
@[simp] theorem tf_by13 : tby Try.prog 13 = some 24 := by kernel_rfl
@[simp] theorem tf_row13 : trow Try.prog 13 = some true := by kernel_rfl
@[simp] theorem tf_und13 : (Try.prog.underlying 13).isSome = true := by kernel_rfl
@[simp] theorem tf_sl13 : tsl Try.prog 13 = none := by kernel_rfl
@[simp] theorem tf_el13 : tel Try.prog 13 = none := by kernel_rfl
@[simp] theorem tf_int13 : tint Try.prog 13 = none := by kernel_rfl
@[simp] theorem tf_str13 : tstr Try.prog 13 = false := by kernel_rfl
@[simp] theorem tf_bool13 : tbool Try.prog 13 = false := by kernel_rfl
@[simp] theorem tf_ptr13 : tptr Try.prog 13 = false := by kernel_rfl
@[simp] theorem tf_bytes13 : tbytes Try.prog 13 = false := by kernel_rfl
@[simp] theorem tf_zc13 : tzc Try.prog 13 = some [.str [], .int .u64 0] := by kernel_rfl
@[simp] theorem tf_pl13 : tplaces Try.prog 13 = some [(0, 1), (1, 1)] := by kernel_rfl
@[simp] theorem tf_fld13x0 : tfld Try.prog 13 0 = some (0, 1, false) := by kernel_rfl
@[simp] theorem tf_fld13x1 : tfld Try.prog 13 1 = some (1, 1, false) := by kernel_rfl
@[simp] theorem tf_sz14 : tsz Try.prog 14 = some 2 := by kernel_rfl
@[simp] theorem tf_by14 : tby Try.prog 14 = some 24 := by kernel_rfl
@[simp] theorem tf_row14 : trow Try.prog 14 = some true := by kernel_rfl
@[simp] theorem tf_und14 : (Try.prog.underlying 14).isSome = true := by kernel_rfl
@[simp] theorem tf_sl14 : tsl Try.prog 14 = none := by kernel_rfl
@[simp] theorem tf_el14 : tel Try.prog 14 = none := by kernel_rfl
@[simp] theorem tf_int14 : tint Try.prog 14 = none := by kernel_rfl
@[simp] theorem tf_str14 : tstr Try.prog 14 = false := by kernel_rfl
@[simp] theorem tf_bool14 : tbool Try.prog 14 = false := by kernel_rfl
@[simp] theorem tf_ptr14 : tptr Try.prog 14 = false := by kernel_rfl
@[simp] theorem tf_bytes14 : tbytes Try.prog 14 = false := by kernel_rfl
@[simp] theorem tf_zc14 : tzc Try.prog 14 = some [.str [], .int .u64 0] := by kernel_rfl
@[simp] theorem tf_pl14 : tplaces Try.prog 14 = some [(0, 1), (1, 1)] := by kernel_rfl
@[simp] theorem tf_fld14x0 : tfld Try.prog 14 0 = some (0, 1, false) := by kernel_rfl
@[simp] theorem tf_fld14x1 : tfld Try.prog 14 1 = some (1, 1, false) := by kernel_rfl
@[simp] theorem tf_sz15 : tsz Try.prog 15 = some 1 := by kernel_rfl
@[simp] theorem tf_by15 : tby Try.prog 15 = some 8 := by kernel_rfl
@[simp] theorem tf_row15 : trow Try.prog 15 = some false := by kernel_rfl
@[simp] theorem tf_und15 : (Try.prog.underlying 15).isSome = true := by kernel_rfl
@[simp] theorem tf_sl15 : tsl Try.prog 15 = none := by kernel_rfl
@[simp] theorem tf_el15 : tel Try.prog 15 = none := by kernel_rfl
@[simp] theorem tf_int15 : tint Try.prog 15 = none := by kernel_rfl
@[simp] theorem tf_str15 : tstr Try.prog 15 = false := by kernel_rfl
@[simp] theorem tf_bool15 : tbool Try.prog 15 = false := by kernel_rfl
@[simp] theorem tf_ptr15 : tptr Try.prog 15 = true := by kernel_rfl
@[simp] theorem tf_bytes15 : tbytes Try.prog 15 = false := by kernel_rfl
@[simp] theorem tf_zc15 : tzc Try.prog 15 = some [.ptr none] := by kernel_rfl
@[simp] theorem tf_sz16 : tsz Try.prog 16 = some 1 := by kernel_rfl
@[simp] theorem tf_by16 : tby Try.prog 16 = some 8 := by kernel_rfl
@[simp] theorem tf_row16 : trow Try.prog 16 = some false := by kernel_rfl
@[simp] theorem tf_und16 : (Try.prog.underlying 16).isSome = true := by kernel_rfl
@[simp] theorem tf_sl16 : tsl Try.prog 16 = none := by kernel_rfl
@[simp] theorem tf_el16 : tel Try.prog 16 = none := by kernel_rfl
@[simp] theorem tf_int16 : tint Try.prog 16 = none := by kernel_rfl
@[simp] theorem tf_str16 : tstr Try.prog 16 = false := by kernel_rfl
@[simp] theorem tf_bool16 : tbool Try.prog 16 = false := by kernel_rfl
@[simp] theorem tf_ptr16 : tptr Try.prog 16 = true := by kernel_rfl
@[simp] theorem tf_bytes16 : tbytes Try.prog 16 = false := by kernel_rfl
@[simp] theorem tf_zc16 : tzc Try.prog 16 = some [.ptr none] := by kernel_rfl
@[simp] theorem tf_sz17 : tsz Try.prog 17 = some 1 := by kernel_rfl
@[simp] theorem tf_by17 : tby Try.prog 17 = some 8 := by kernel_rfl
@[simp] theorem tf_row17 : trow Try.prog 17 = some false := by kernel_rfl
@[simp] theorem tf_und17 : (Try.prog.underlying 17).isSome = true := by kernel_rfl
@[simp] theorem tf_sl17 : tsl Try.prog 17 = none := by kernel_rfl
@[simp] theorem tf_el17 : tel Try.prog 17 = none := by kernel_rfl
@[simp] theorem tf_int17 : tint Try.prog 17 = none := by kernel_rfl
@[simp] theorem tf_str17 : tstr Try.prog 17 = false := by kernel_rfl
@[simp] theorem tf_bool17 : tbool Try.prog 17 = false := by kernel_rfl
@[simp] theorem tf_ptr17 : tptr Try.prog 17 = true := by kernel_rfl
@[simp] theorem tf_bytes17 : tbytes Try.prog 17 = false := by kernel_rfl
@[simp] theorem tf_zc17 : tzc Try.prog 17 = some [.ptr none] := by kernel_rfl
@[simp] theorem tf_sz18 : tsz Try.prog 18 = some 1 := by kernel_rfl
@[simp] theorem tf_by18 : tby Try.prog 18 = some 8 := by kernel_rfl
@[simp] theorem tf_row18 : trow Try.prog 18 = some true := by kernel_rfl
@[simp] theorem tf_und18 : (Try.prog.underlying 18).isSome = true := by kernel_rfl
@[simp] theorem tf_sl18 : tsl Try.prog 18 = none := by kernel_rfl
@[simp] theorem tf_el18 : tel Try.prog 18 = none := by kernel_rfl
@[simp] theorem tf_int18 : tint Try.prog 18 = none := by kernel_rfl
@[simp] theorem tf_str18 : tstr Try.prog 18 = false := by kernel_rfl
@[simp] theorem tf_bool18 : tbool Try.prog 18 = false := by kernel_rfl
@[simp] theorem tf_ptr18 : tptr Try.prog 18 = false := by kernel_rfl
@[simp] theorem tf_bytes18 : tbytes Try.prog 18 = false := by kernel_rfl
@[simp] theorem tf_zc18 : tzc Try.prog 18 = some [.ptr none] := by kernel_rfl
@[simp] theorem tf_pl18 : tplaces Try.prog 18 = some [(0, 1)] := by kernel_rfl
@[simp] theorem tf_fld18x0 : tfld Try.prog 18 0 = some (0, 1, false) := by kernel_rfl
@[simp] theorem tf_sz19 : tsz Try.prog 19 = some 1 := by kernel_rfl
@[simp] theorem tf_by19 : tby Try.prog 19 = some 8 := by kernel_rfl
@[simp] theorem tf_row19 : trow Try.prog 19 = some true := by kernel_rfl
@[simp] theorem tf_und19 : (Try.prog.underlying 19).isSome = true := by kernel_rfl
@[simp] theorem tf_sl19 : tsl Try.prog 19 = none := by kernel_rfl
@[simp] theorem tf_el19 : tel Try.prog 19 = none := by kernel_rfl
@[simp] theorem tf_int19 : tint Try.prog 19 = none := by kernel_rfl
@[simp] theorem tf_str19 : tstr Try.prog 19 = false := by kernel_rfl
@[simp] theorem tf_bool19 : tbool Try.prog 19 = false := by kernel_rfl
@[simp] theorem tf_ptr19 : tptr Try.prog 19 = false := by kernel_rfl
@[simp] theorem tf_bytes19 : tbytes Try.prog 19 = false := by kernel_rfl
@[simp] theorem tf_zc19 : tzc Try.prog 19 = some [.ptr none] := by kernel_rfl
@[simp] theorem tf_pl19 : tplaces Try.prog 19 = some [(0, 1)] := by kernel_rfl
@[simp] theorem tf_fld19x0 : tfld Try.prog 19 0 = some (0, 1, false) := by kernel_rfl
@[simp] theorem tf_sz20 : tsz Try.prog 20 = some 1 := by kernel_rfl
@[simp] theorem tf_by20 : tby Try.prog 20 = some 16 := by kernel_rfl
@[simp] theorem tf_row20 : trow Try.prog 20 = some false := by kernel_rfl
@[simp] theorem tf_und20 : (Try.prog.underlying 20).isSome = true := by kernel_rfl
@[simp] theorem tf_sl20 : tsl Try.prog 20 = none := by kernel_rfl
@[simp] theorem tf_el20 : tel Try.prog 20 = none := by kernel_rfl
@[simp] theorem tf_int20 : tint Try.prog 20 = none := by kernel_rfl
@[simp] theorem tf_str20 : tstr Try.prog 20 = false := by kernel_rfl
@[simp] theorem tf_bool20 : tbool Try.prog 20 = false := by kernel_rfl
@[simp] theorem tf_ptr20 : tptr Try.prog 20 = false := by kernel_rfl
@[simp] theorem tf_bytes20 : tbytes Try.prog 20 = false := by kernel_rfl
@[simp] theorem tf_zc20 : tzc Try.prog 20 = some [.raw .nilIface] := by kernel_rfl
@[simp] theorem tf_sz21 : tsz Try.prog 21 = some 1 := by kernel_rfl
@[simp] theorem tf_by21 : tby Try.prog 21 = some 4 := by kernel_rfl
@[simp] theorem tf_row21 : trow Try.prog 21 = some false := by kernel_rfl
@[simp] theorem tf_und21 : (Try.prog.underlying 21).isSome = true := by kernel_rfl
@[simp] theorem tf_sl21 : tsl Try.prog 21 = none := by kernel_rfl
@[simp] theorem tf_el21 : tel Try.prog 21 = none := by kernel_rfl
@[simp] theorem tf_int21 : tint Try.prog 21 = some .i32 := by kernel_rfl
@[simp] theorem tf_str21 : tstr Try.prog 21 = false := by kernel_rfl
@[simp] theorem tf_bool21 : tbool Try.prog 21 = false := by kernel_rfl
@[simp] theorem tf_ptr21 : tptr Try.prog 21 = false := by kernel_rfl
@[simp] theorem tf_bytes21 : tbytes Try.prog 21 = false := by kernel_rfl
@[simp] theorem tf_zc21 : tzc Try.prog 21 = some [.int .i32 0] := by kernel_rfl
@[simp] theorem tf_sz22 : tsz Try.prog 22 = some 1 := by kernel_rfl
@[simp] theorem tf_by22 : tby Try.prog 22 = some 8 := by kernel_rfl
@[simp] theorem tf_row22 : trow Try.prog 22 = some false := by kernel_rfl
@[simp] theorem tf_und22 : (Try.prog.underlying 22).isSome = true := by kernel_rfl
@[simp] theorem tf_sl22 : tsl Try.prog 22 = none := by kernel_rfl
@[simp] theorem tf_el22 : tel Try.prog 22 = none := by kernel_rfl
@[simp] theorem tf_int22 : tint Try.prog 22 = none := by kernel_rfl
@[simp] theorem tf_str22 : tstr Try.prog 22 = false := by kernel_rfl
@[simp] theorem tf_bool22 : tbool Try.prog 22 = false := by kernel_rfl
@[simp] theorem tf_ptr22 : tptr Try.prog 22 = false := by kernel_rfl
@[simp] theorem tf_bytes22 : tbytes Try.prog 22 = false := by kernel_rfl
@[simp] theorem tf_zc22 : tzc Try.prog 22 = some [.raw .nilFunc] := by kernel_rfl
@[simp] theorem tf_sz23 : tsz Try.prog 23 = some 1 := by kernel_rfl
@[simp] theorem tf_by23 : tby Try.prog 23 = some 8 := by kernel_rfl
@[simp] theorem tf_row23 : trow Try.prog 23 = some false := by kernel_rfl
@[simp] theorem tf_und23 : (Try.prog.underlying 23).isSome = true := by kernel_rfl
@[simp] theorem tf_sl23 : tsl Try.prog 23 = none := by kernel_rfl
@[simp] theorem tf_el23 : tel Try.prog 23 = none := by kernel_rfl
@[simp] theorem tf_int23 : tint Try.prog 23 = none := by kernel_rfl
@[simp] theorem tf_str23 : tstr Try.prog 23 = false := by kernel_rfl
@[simp] theorem tf_bool23 : tbool Try.prog 23 = false := by kernel_rfl
@[simp] theorem tf_ptr23 : tptr Try.prog 23 = true := by kernel_rfl
@[simp] theorem tf_bytes23 : tbytes Try.prog 23 = false := by kernel_rfl
@[simp] theorem tf_zc23 : tzc Try.prog 23 = some [.ptr none] := by kernel_rfl
@[simp] theorem tf_sz24 : tsz Try.prog 24 = some 1 := by kernel_rfl
@[simp] theorem tf_by24 : tby Try.prog 24 = some 8 := by kernel_rfl
@[simp] theorem tf_row24 : trow Try.prog 24 = some false := by kernel_rfl
@[simp] theorem tf_und24 : (Try.prog.underlying 24).isSome = true := by kernel_rfl
@[simp] theorem tf_sl24 : tsl Try.prog 24 = none := by kernel_rfl
@[simp] theorem tf_el24 : tel Try.prog 24 = none := by kernel_rfl
@[simp] theorem tf_int24 : tint Try.prog 24 = none := by kernel_rfl
@[simp] theorem tf_str24 : tstr Try.prog 24 = false := by kernel_rfl
@[simp] theorem tf_bool24 : tbool Try.prog 24 = false := by kernel_rfl
@[simp] theorem tf_ptr24 : tptr Try.prog 24 = false := by kernel_rfl
@[simp] theorem tf_bytes24 : tbytes Try.prog 24 = false := by kernel_rfl
@[simp] theorem tf_zc24 : tzc Try.prog 24 = some [.raw .nilFunc] := by kernel_rfl
@[simp] theorem tf_sz25 : tsz Try.prog 25 = some 1 := by kernel_rfl
@[simp] theorem tf_by25 : tby Try.prog 25 = some 8 := by kernel_rfl
@[simp] theorem tf_row25 : trow Try.prog 25 = some false := by kernel_rfl
@[simp] theorem tf_und25 : (Try.prog.underlying 25).isSome = true := by kernel_rfl
@[simp] theorem tf_sl25 : tsl Try.prog 25 = none := by kernel_rfl
@[simp] theorem tf_el25 : tel Try.prog 25 = none := by kernel_rfl
@[simp] theorem tf_int25 : tint Try.prog 25 = some .i64 := by kernel_rfl
@[simp] theorem tf_str25 : tstr Try.prog 25 = false := by kernel_rfl
@[simp] theorem tf_bool25 : tbool Try.prog 25 = false := by kernel_rfl
@[simp] theorem tf_ptr25 : tptr Try.prog 25 = false := by kernel_rfl
@[simp] theorem tf_bytes25 : tbytes Try.prog 25 = false := by kernel_rfl
@[simp] theorem tf_zc25 : tzc Try.prog 25 = some [.int .i64 0] := by kernel_rfl
@[simp] theorem tf_sz26 : tsz Try.prog 26 = some 1 := by kernel_rfl
@[simp] theorem tf_by26 : tby Try.prog 26 = some 8 := by kernel_rfl
@[simp] theorem tf_row26 : trow Try.prog 26 = some false := by kernel_rfl
@[simp] theorem tf_und26 : (Try.prog.underlying 26).isSome = true := by kernel_rfl
@[simp] theorem tf_sl26 : tsl Try.prog 26 = none := by kernel_rfl
@[simp] theorem tf_el26 : tel Try.prog 26 = none := by kernel_rfl
@[simp] theorem tf_int26 : tint Try.prog 26 = none := by kernel_rfl
@[simp] theorem tf_str26 : tstr Try.prog 26 = false := by kernel_rfl
@[simp] theorem tf_bool26 : tbool Try.prog 26 = false := by kernel_rfl
@[simp] theorem tf_ptr26 : tptr Try.prog 26 = false := by kernel_rfl
@[simp] theorem tf_bytes26 : tbytes Try.prog 26 = false := by kernel_rfl
@[simp] theorem tf_zc26 : tzc Try.prog 26 = some [.raw .nilFunc] := by kernel_rfl
@[simp] theorem tf_sz27 : tsz Try.prog 27 = some 4 := by kernel_rfl
@[simp] theorem tf_by27 : tby Try.prog 27 = some 40 := by kernel_rfl
@[simp] theorem tf_row27 : trow Try.prog 27 = some true := by kernel_rfl
@[simp] theorem tf_und27 : (Try.prog.underlying 27).isSome = true := by kernel_rfl
@[simp] theorem tf_sl27 : tsl Try.prog 27 = none := by kernel_rfl
@[simp] theorem tf_el27 : tel Try.prog 27 = none := by kernel_rfl
@[simp] theorem tf_int27 : tint Try.prog 27 = none := by kernel_rfl
@[simp] theorem tf_str27 : tstr Try.prog 27 = false := by kernel_rfl
@[simp] theorem tf_bool27 : tbool Try.prog 27 = false := by kernel_rfl
@[simp] theorem tf_ptr27 : tptr Try.prog 27 = false := by kernel_rfl
@[simp] theorem tf_bytes27 : tbytes Try.prog 27 = false := by kernel_rfl
@[simp] theorem tf_zc27 : tzc Try.prog 27 = some [.int .i64 0, .int .i64 0, .int .i64 0, .str []] := by kernel_rfl
@[simp] theorem tf_pl27 : tplaces Try.prog 27 = some [(0, 1), (1, 1), (2, 1), (3, 1)] := by kernel_rfl
@[simp] theorem tf_fld27x0 : tfld Try.prog 27 0 = some (0, 1, false) := by kernel_rfl
@[simp] theorem tf_fld27x1 : tfld Try.prog 27 1 = some (1, 1, false) := by kernel_rfl
@[simp] theorem tf_fld27x2 : tfld Try.prog 27 2 = some (2, 1, false) := by kernel_rfl
@[simp] theorem tf_fld27x3 : tfld Try.prog 27 3 = some (3, 1, false) := by kernel_rfl
@[simp] theorem tf_flat27 : tflat Try.prog 27 = some [0, 0, 0, 2] := by kernel_rfl
@[simp] theorem tf_sz28 : tsz Try.prog 28 = some 4 := by kernel_rfl
@[simp] theorem tf_by28 : tby Try.prog 28 = some 40 := by kernel_rfl
@[simp] theorem tf_row28 : trow Try.prog 28 = some true := by kernel_rfl
@[simp] theorem tf_und28 : (Try.prog.underlying 28).isSome = true := by kernel_rfl
@[simp] theorem tf_sl28 : tsl Try.prog 28 = none := by kernel_rfl
@[simp] theorem tf_el28 : tel Try.prog 28 = none := by kernel_rfl
@[simp] theorem tf_int28 : tint Try.prog 28 = none := by kernel_rfl
@[simp] theorem tf_str28 : tstr Try.prog 28 = false := by kernel_rfl
@[simp] theorem tf_bool28 : tbool Try.prog 28 = false := by kernel_rfl
@[simp] theorem tf_ptr28 : tptr Try.prog 28 = false := by kernel_rfl
@[simp] theorem tf_bytes28 : tbytes Try.prog 28 = false := by kernel_rfl
@[simp] theorem tf_zc28 : tzc Try.prog 28 = some [.int .i64 0, .int .i64 0, .int .i64 0, .str []] := by kernel_rfl
@[simp] theorem tf_pl28 : tplaces Try.prog 28 = some [(0, 1), (1, 1), (2, 1), (3, 1)] := by kernel_rfl
@[simp] theorem tf_fld28x0 : tfld Try.prog 28 0 = some (0, 1, false) := by kernel_rfl
@[simp] theorem tf_fld28x1 : tfld Try.prog 28 1 = some (1, 1, false) := by kernel_rfl
@[simp] theorem tf_fld28x2 : tfld Try.prog 28 2 = some (2, 1, false) := by kernel_rfl
@[simp] theorem tf_fld28x3 : tfld Try.prog 28 3 = some (3, 1, false) := by kernel_rfl
@[simp] theorem tf_flat28 : tflat Try.prog 28 = some [0, 0, 0, 2] := by kernel_rfl
@[simp] theorem tf_sz29 : tsz Try.prog 29 = some 1 := by kernel_rfl
@[simp] theorem tf_by29 : tby Try.prog 29 = some 8 := by kernel_rfl
@[simp] theorem tf_row29 : trow Try.prog 29 = some false := by kernel_rfl
@[simp] theorem tf_und29 : (Try.prog.underlying 29).isSome = true := by kernel_rfl
@[simp] theorem tf_sl29 : tsl Try.prog 29 = none := by kernel_rfl
@[simp] theorem tf_el29 : tel Try.prog 29 = none := by kernel_rfl
@[simp] theorem tf_int29 : tint Try.prog 29 = none := by kernel_rfl
@[simp] theorem tf_str29 : tstr Try.prog 29 = false := by kernel_rfl
@[simp] theorem tf_bool29 : tbool Try.prog 29 = false := by kernel_rfl
@[simp] theorem tf_ptr29 : tptr Try.prog 29 = false := by kernel_rfl
@[simp] theorem tf_bytes29 : tbytes Try.prog 29 = false := by kernel_rfl
@[simp] theorem tf_zc29 : tzc Try.prog 29 = some [.raw .nilFunc] := by kernel_rfl
@[simp] theorem tf_sz30 : tsz Try.prog 30 = some 1 := by kernel_rfl
@[simp] theorem tf_by30 : tby Try.prog 30 = some 8 := by kernel_rfl
@[simp] theorem tf_row30 : trow Try.prog 30 = some false := by kernel_rfl
@[simp] theorem tf_und30 : (Try.prog.underlying 30).isSome = true := by kernel_rfl
@[simp] theorem tf_sl30 : tsl Try.prog 30 = none := by kernel_rfl
@[simp] theorem tf_el30 : tel Try.prog 30 = none := by kernel_rfl
@[simp] theorem tf_int30 : tint Try.prog 30 = none := by kernel_rfl
@[simp] theorem tf_str30 : tstr Try.prog 30 = false := by kernel_rfl
@[simp] theorem tf_bool30 : tbool Try.prog 30 = false := by kernel_rfl
@[simp] theorem tf_ptr30 : tptr Try.prog 30 = false := by kernel_rfl
@[simp] theorem tf_bytes30 : tbytes Try.prog 30 = false := by kernel_rfl
@[simp] theorem tf_zc30 : tzc Try.prog 30 = some [.raw .nilFunc] := by kernel_rfl
@[simp] theorem tf_sz31 : tsz Try.prog 31 = some 1 := by kernel_rfl
@[simp] theorem tf_by31 : tby Try.prog 31 = some 8 := by kernel_rfl
@[simp] theorem tf_row31 : trow Try.prog 31 = some false := by kernel_rfl
@[simp] theorem tf_und31 : (Try.prog.underlying 31).isSome = true := by kernel_rfl
@[simp] theorem tf_sl31 : tsl Try.prog 31 = none := by kernel_rfl
@[simp] theorem tf_el31 : tel Try.prog 31 = none := by kernel_rfl
@[simp] theorem tf_int31 : tint Try.prog 31 = none := by kernel_rfl
@[simp] theorem tf_str31 : tstr Try.prog 31 = false := by kernel_rfl
@[simp] theorem tf_bool31 : tbool Try.prog 31 = false := by kernel_rfl
@[simp] theorem tf_ptr31 : tptr Try.prog 31 = false := by kernel_rfl
@[simp] theorem tf_bytes31 : tbytes Try.prog 31 = false := by kernel_rfl
@[simp] theorem tf_zc31 : tzc Try.prog 31 = some [.raw .nilFunc] := by kernel_rfl
@[simp] theorem tf_sz32 : tsz Try.prog 32 = some 1 := by kernel_rfl
@[simp] theorem tf_by32 : tby Try.prog 32 = some 24 := by kernel_rfl
@[simp] theorem tf_row32 : trow Try.prog 32 = some false := by kernel_rfl
@[simp] theorem tf_und32 : (Try.prog.underlying 32).isSome = true := by kernel_rfl
@[simp] theorem tf_sl32 : tsl Try.prog 32 = some 41 := by kernel_rfl
@[simp] theorem tf_el32 : tel Try.prog 32 = some 10 := by kernel_rfl
@[simp] theorem tf_int32 : tint Try.prog 32 = none := by kernel_rfl
@[simp] theorem tf_str32 : tstr Try.prog 32 = false := by kernel_rfl
@[simp] theorem tf_bool32 : tbool Try.prog 32 = false := by kernel_rfl
@[simp] theorem tf_ptr32 : tptr Try.prog 32 = false := by kernel_rfl
@[simp] theorem tf_bytes32 : tbytes Try.prog 32 = false := by kernel_rfl
@[simp] theorem tf_zc32 : tzc Try.prog 32 = some [.nil] := by kernel_rfl
@[simp] theorem tf_sz34 : tsz Try.prog 34 = some 1 := by kernel_rfl
@[simp] theorem tf_by34 : tby Try.prog 34 = some 8 := by kernel_rfl
@[simp] theorem tf_row34 : trow Try.prog 34 = some false := by kernel_rfl
@[simp] theorem tf_und34 : (Try.prog.underlying 34).isSome = true := by kernel_rfl
@[simp] theorem tf_sl34 : tsl Try.prog 34 = none := by kernel_rfl
@[simp] theorem tf_el34 : tel Try.prog 34 = none := by kernel_rfl
@[simp] theorem tf_int34 : tint Try.prog 34 = none := by kernel_rfl
@[simp] theorem tf_str34 : tstr Try.prog 34 = false := by kernel_rfl
@[simp] theorem tf_bool34 : tbool Try.prog 34 = false := by kernel_rfl
@[simp] theorem tf_ptr34 : tptr Try.prog 34 = false := by kernel_rfl
@[simp] theorem tf_bytes34 : tbytes Try.prog 34 = false := by kernel_rfl
@[simp] theorem tf_zc34 : tzc Try.prog 34 = some [.raw .nilFunc] := by kernel_rfl
@[simp] theorem tf_sz35 : tsz Try.prog 35 = some 1 := by kernel_rfl
@[simp] theorem tf_by35 : tby Try.prog 35 = some 8 := by kernel_rfl
@[simp] theorem tf_row35 : trow Try.prog 35 = some false := by kernel_rfl
@[simp] theorem tf_und35 : (Try.prog.underlying 35).isSome = true := by kernel_rfl
@[simp] theorem tf_sl35 : tsl Try.prog 35 = none := by kernel_rfl
@[simp] theorem tf_el35 : tel Try.prog 35 = none := by kernel_rfl
@[simp] theorem tf_int35 : tint Try.prog 35 = none := by kernel_rfl
@[simp] theorem tf_str35 : tstr Try.prog 35 = false := by kernel_rfl
@[simp] theorem tf_bool35 : tbool Try.prog 35 = false := by kernel_rfl
@[simp] theorem tf_ptr35 : tptr Try.prog 35 = false := by kernel_rfl
@[simp] theorem tf_bytes35 : tbytes Try.prog 35 = false := by kernel_rfl
@[simp] theorem tf_zc35 : tzc Try.prog 35 = some [.raw .nilFunc] := by kernel_rfl
@[simp] theorem tf_sz36 : tsz Try.prog 36 = some 11 := by kernel_rfl
@[simp] theorem tf_by36 : tby Try.prog 36 = some 48 := by kernel_rfl
@[simp] theorem tf_row36 : trow Try.prog 36 = some true := by kernel_rfl
@[simp] theorem tf_und36 : (Try.prog.underlying 36).isSome = true := by kernel_rfl
@[simp] theorem tf_sl36 : tsl Try.prog 36 = none := by kernel_rfl
@[simp] theorem tf_el36 : tel Try.prog 36 = none := by kernel_rfl
@[simp] theorem tf_int36 : tint Try.prog 36 = none := by kernel_rfl
@[simp] theorem tf_str36 : tstr Try.prog 36 = false := by kernel_rfl
@[simp] theorem tf_bool36 : tbool Try.prog 36 = false := by kernel_rfl
@[simp] theorem tf_ptr36 : tptr Try.prog 36 = false := by kernel_rfl
@[simp] theorem tf_bytes36 : tbytes Try.prog 36 = false := by kernel_rfl
@[simp] theorem tf_zc36 : tzc Try.prog 36 = some [.bool false, .bool false, .bool false, .bool false, .bool false, .bool false, .int .i64 0, .int .i64 0, .int .i64 0, .int .i64 0, .int .i64 0] := by kernel_rfl
@[simp] theorem tf_pl36 : tplaces Try.prog 36 = some [(0, 1), (1, 1), (2, 1), (3, 1), (4, 1), (5, 1), (6, 1), (7, 1), (8, 1), (9, 1), (10, 1)] := by kernel_rfl
@[simp] theorem tf_fld36x0 : tfld Try.prog 36 0 = some (0, 1, false) := by kernel_rfl
@[simp] theorem tf_fld36x1 : tfld Try.prog 36 1 = some (1, 1, false) := by kernel_rfl
@[simp] theorem tf_fld36x2 : tfld Try.prog 36 2 = some (2, 1, false) := by kernel_rfl
@[simp] theorem tf_fld36x3 : tfld Try.prog 36 3 = some (3, 1, false) := by kernel_rfl
@[simp] theorem tf_fld36x4 : tfld Try.prog 36 4 = some (4, 1, false) := by kernel_rfl
@[simp] theorem tf_fld36x5 : tfld Try.prog 36 5 = some (5, 1, false) := by kernel_rfl
@[simp] theorem tf_fld36x6 : tfld Try.prog 36 6 = some (6, 1, false) := by kernel_rfl
@[simp] theorem tf_fld36x7 : tfld Try.prog 36 7 = some (7, 1, false) := by kernel_rfl
@[simp] theorem tf_fld36x8 : tfld Try.prog 36 8 = some (8, 1, false) := by kernel_rfl
@[simp] theorem tf_fld36x9 : tfld Try.prog 36 9 = some (9, 1, false) := by kernel_rfl
@[simp] theorem tf_fld36x10 : tfld Try.prog 36 10 = some (10, 1, false) := by kernel_rfl
@[simp] theorem tf_flat36 : tflat Try.prog 36 = some [1, 1, 1, 1, 1, 1, 0, 0, 0, 0, 0] := by kernel_rfl
@[simp] theorem tf_sz37 : tsz Try.prog 37 = some 11 := by kernel_rfl
@[simp] theorem tf_by37 : tby Try.prog 37 = some 48 := by kernel_rfl
@[simp] theorem tf_row37 : trow Try.prog 37 = some true := by kernel_rfl
@[simp] theorem tf_und37 : (Try.prog.underlying 37).isSome = true := by kernel_rfl
@[simp] theorem tf_sl37 : tsl Try.prog 37 = none := by kernel_rfl
@[simp] theorem tf_el37 : tel Try.prog 37 = none := by kernel_rfl
@[simp] theorem tf_int37 : tint Try.prog 37 = none := by kernel_rfl
@[simp] theorem tf_str37 : tstr Try.prog 37 = false := by kernel_rfl
@[simp] theorem tf_bool37 : tbool Try.prog 37 = false := by kernel_rfl
@[simp] theorem tf_ptr37 : tptr Try.prog 37 = false := by kernel_rfl
@[simp] theorem tf_bytes37 : tbytes Try.prog 37 = false := by kernel_rfl
@[simp] theorem tf_zc37 : tzc Try.prog 37 = some [.bool false, .bool false, .bool false, .bool false, .bool false, .bool false, .int .i64 0, .int .i64 0, .int .i64 0, .int .i64 0, .int .i64 0] := by kernel_rfl
@[simp] theorem tf_pl37 : tplaces Try.prog 37 = some [(0, 1), (1, 1), (2, 1), (3, 1), (4, 1), (5, 1), (6, 1), (7, 1), (8, 1), (9, 1), (10, 1)] := by kernel_rfl
@[simp] theorem tf_fld37x0 : tfld Try.prog 37 0 = some (0, 1, false) := by kernel_rfl
@[simp] theorem tf_fld37x1 : tfld Try.prog 37 1 = some (1, 1, false) := by kernel_rfl
@[simp] theorem tf_fld37x2 : tfld Try.prog 37 2 = some (2, 1, false) := by kernel_rfl
@[simp] theorem tf_fld37x3 : tfld Try.prog 37 3 = some (3, 1, false) := by kernel_rfl
@[simp] theorem tf_fld37x4 : tfld Try.prog 37 4 = some (4, 1, false) := by kernel_rfl
@[simp] theorem tf_fld37x5 : tfld Try.prog 37 5 = some (5, 1, false) := by kernel_rfl
@[simp] theorem tf_fld37x6 : tfld Try.prog 37 6 = some (6, 1, false) := by kernel_rfl
@[simp] theorem tf_fld37x7 : tfld Try.prog 37 7 = some (7, 1, false) := by kernel_rfl
@[simp] theorem tf_fld37x8 : tfld Try.prog 37 8 = some (8, 1, false) := by kernel_rfl
@[simp] theorem tf_fld37x9 : tfld Try.prog 37 9 = some (9, 1, false) := by kernel_rfl
@[simp] theorem tf_fld37x10 : tfld Try.prog 37 10 = some (10, 1, false) := by kernel_rfl
@[simp] theorem tf_flat37 : tflat Try.prog 37 = some [1, 1, 1, 1, 1, 1, 0, 0, 0, 0, 0] := by kernel_rfl
@[simp] theorem tf_sz39 : tsz Try.prog 39 = some 1 := by kernel_rfl
@[simp] theorem tf_by39 : tby Try.prog 39 = some 8 := by kernel_rfl
@[simp] theorem tf_row39 : trow Try.prog 39 = some false := by kernel_rfl
@[simp] theorem tf_und39 : (Try.prog.underlying 39).isSome = true := by kernel_rfl
@[simp] theorem tf_sl39 : tsl Try.prog 39 = none := by kernel_rfl
@[simp] theorem tf_el39 : tel Try.prog 39 = none := by kernel_rfl
@[simp] theorem tf_int39 : tint Try.prog 39 = none := by kernel_rfl
@[simp] theorem tf_str39 : tstr Try.prog 39 = false := by kernel_rfl
@[simp] theorem tf_bool39 : tbool Try.prog 39 = false := by kernel_rfl
@[simp] theorem tf_ptr39 : tptr Try.prog 39 = false := by kernel_rfl
@[simp] theorem tf_bytes39 : tbytes Try.prog 39 = false := by kernel_rfl
@[simp] theorem tf_zc39 : tzc Try.prog 39 = some [.raw .nilFunc] := by kernel_rfl
@[simp] theorem tf_sz40 : tsz Try.prog 40 = some 10 := by kernel_rfl
@[simp] theorem tf_by40 : tby Try.prog 40 = some 88 := by kernel_rfl
@[simp] theorem tf_row40 : trow Try.prog 40 = some true := by kernel_rfl
@[simp] theorem tf_und40 : (Try.prog.underlying 40).isSome = true := by kernel_rfl
@[simp] theorem tf_sl40 : tsl Try.prog 40 = none := by kernel_rfl
@[simp] theorem tf_el40 : tel Try.prog 40 = none := by kernel_rfl
@[simp] theorem tf_int40 : tint Try.prog 40 = none := by kernel_rfl
@[simp] theorem tf_str40 : tstr Try.prog 40 = false := by kernel_rfl
@[simp] theorem tf_bool40 : tbool Try.prog 40 = false := by kernel_rfl
@[simp] theorem tf_ptr40 : tptr Try.prog 40 = false := by kernel_rfl
@[simp] theorem tf_bytes40 : tbytes Try.prog 40 = false := by kernel_rfl
@[simp] theorem tf_zc40 : tzc Try.prog 40 = some [.int .i64 0, .int .i64 0, .int .i64 0, .int .i64 0, .str [], .int .i64 0, .int .i64 0, .str [], .bool false, .bool false] := by kernel_rfl
@[simp] theorem tf_pl40 : tplaces Try.prog 40 = some [(0, 1), (1, 4), (5, 1), (6, 1), (7, 1), (8, 1), (9, 1)] := by kernel_rfl
@[simp] theorem tf_fld40x0 : tfld Try.prog 40 0 = some (0, 1, false) := by kernel_rfl
@[simp] theorem tf_fld40x1 : tfld Try.prog 40 1 = some (1, 4, true) := by kernel_rfl
@[simp] theorem tf_fld40x2 : tfld Try.prog 40 2 = some (5, 1, false) := by kernel_rfl
@[simp] theorem tf_fld40x3 : tfld Try.prog 40 3 = some (6, 1, false) := by kernel_rfl
@[simp] theorem tf_fld40x4 : tfld Try.prog 40 4 = some (7, 1, false) := by kernel_rfl
@[simp] theorem tf_fld40x5 : tfld Try.prog 40 5 = some (8, 1, false) := by kernel_rfl
@[simp] theorem tf_fld40x6 : tfld Try.prog 40 6 = some (9, 1, false) := by kernel_rfl
@[simp] theorem tf_sz41 : tsz Try.prog 41 = some 10 := by kernel_rfl
@[simp] theorem tf_by41 : tby Try.prog 41 = some 88 := by kernel_rfl
@[simp] theorem tf_row41 : trow Try.prog 41 = some true := by kernel_rfl
@[simp] theorem tf_und41 : (Try.prog.underlying 41).isSome = true := by kernel_rfl
@[simp] theorem tf_sl41 : tsl Try.prog 41 = none := by kernel_rfl
@[simp] theorem tf_el41 : tel Try.prog 41 = none := by kernel_rfl
@[simp] theorem tf_int41 : tint Try.prog 41 = none := by kernel_rfl
@[simp] theorem tf_str41 : tstr Try.prog 41 = false := by kernel_rfl
@[simp] theorem tf_bool41 : tbool Try.prog 41 = false := by kernel_rfl
@[simp] theorem tf_ptr41 : tptr Try.prog 41 = false := by kernel_rfl
@[simp] theorem tf_bytes41 : tbytes Try.prog 41 = false := by kernel_rfl
@[simp] theorem tf_zc41 : tzc Try.prog 41 = some [.int .i64 0, .int .i64 0, .int .i64 0, .int .i64 0, .str [], .int .i64 0, .int .i64 0, .str [], .bool false, .bool false] := by kernel_rfl
@[simp] theorem tf_pl41 : tplaces Try.prog 41 = some [(0, 1), (1, 4), (5, 1), (6, 1), (7, 1), (8, 1), (9, 1)] := by kernel_rfl
@[simp] theorem tf_fld41x0 : tfld Try.prog 41 0 = some (0, 1, false) := by kernel_rfl
@[simp] theorem tf_fld41x1 : tfld Try.prog 41 1 = some (1, 4, true) := by kernel_rfl
@[simp] theorem tf_fld41x2 : tfld Try.prog 41 2 = some (5, 1, false) := by kernel_rfl
@[simp] theorem tf_fld41x3 : tfld Try.prog 41 3 = some (6, 1, false) := by kernel_rfl
@[simp] theorem tf_fld41x4 : tfld Try.prog 41 4 = some (7, 1, false) := by kernel_rfl
@[simp] theorem tf_fld41x5 : tfld Try.prog 41 5 = some (8, 1, false) := by kernel_rfl
@[simp] theorem tf_fld41x6 : tfld Try.prog 41 6 = some (9, 1, false) := by kernel_rfl
@[simp] theorem tf_sz43 : tsz Try.prog 43 = some 1 := by kernel_rfl
@[simp] theorem tf_by43 : tby Try.prog 43 = some 8 := by kernel_rfl
@[simp] theorem tf_row43 : trow Try.prog 43 = some false := by kernel_rfl
@[simp] theorem tf_und43 : (Try.prog.underlying 43).isSome = true := by kernel_rfl
@[simp] theorem tf_sl43 : tsl Try.prog 43 = none := by kernel_rfl
@[simp] theorem tf_el43 : tel Try.prog 43 = none := by kernel_rfl
@[simp] theorem tf_int43 : tint Try.prog 43 = none := by kernel_rfl
@[simp] theorem tf_str43 : tstr Try.prog 43 = false := by kernel_rfl
@[simp] theorem tf_bool43 : tbool Try.prog 43 = false := by kernel_rfl
@[simp] theorem tf_ptr43 : tptr Try.prog 43 = false := by kernel_rfl
@[simp] theorem tf_bytes43 : tbytes Try.prog 43 = false := by kernel_rfl
@[simp] theorem tf_zc43 : tzc Try.prog 43 = some [.raw .nilFunc] := by kernel_rfl
@[simp] theorem tf_sz44 : tsz Try.prog 44 = some 1 := by kernel_rfl
@[simp] theorem tf_by44 : tby Try.prog 44 = some 8 := by kernel_rfl
@[simp] theorem tf_row44 : trow Try.prog 44 = some false := by kernel_rfl
@[simp] theorem tf_und44 : (Try.prog.underlying 44).isSome = true := by kernel_rfl
@[simp] theorem tf_sl44 : tsl Try.prog 44 = none := by kernel_rfl
@[simp] theorem tf_el44 : tel Try.prog 44 = none := by kernel_rfl
@[simp] theorem tf_int44 : tint Try.prog 44 = none := by kernel_rfl
@[simp] theorem tf_str44 : tstr Try.prog 44 = false := by kernel_rfl
@[simp] theorem tf_bool44 : tbool Try.prog 44 = false := by kernel_rfl
@[simp] theorem tf_ptr44 : tptr Try.prog 44 = false := by kernel_rfl
@[simp] theorem tf_bytes44 : tbytes Try.prog 44 = false := by kernel_rfl
@[simp] theorem tf_zc44 : tzc Try.prog 44 = some [.raw .nilFunc] := by kernel_rfl
@[simp] theorem tf_sz45 : tsz Try.prog 45 = some 1 := by kernel_rfl
@[simp] theorem tf_by45 : tby Try.prog 45 = some 8 := by kernel_rfl
@[simp] theorem tf_row45 : trow Try.prog 45 = some false := by kernel_rfl
@[simp] theorem tf_und45 : (Try.prog.underlying 45).isSome = true := by kernel_rfl
@[simp] theorem tf_sl45 : tsl Try.prog 45 = none := by kernel_rfl
@[simp] theorem tf_el45 : tel Try.prog 45 = none := by kernel_rfl
@[simp] theorem tf_int45 : tint Try.prog 45 = none := by kernel_rfl
@[simp] theorem tf_str45 : tstr Try.prog 45 = false := by kernel_rfl
@[simp] theorem tf_bool45 : tbool Try.prog 45 = false := by kernel_rfl
@[simp] theorem tf_ptr45 : tptr Try.prog 45 = false := by kernel_rfl
@[simp] theorem tf_bytes45 : tbytes Try.prog 45 = false := by kernel_rfl
@[simp] theorem tf_zc45 : tzc Try.prog 45 = some [.raw .nilFunc] := by kernel_rfl
@[simp] theorem tf_sz46 : tsz Try.prog 46 = some 1 := by kernel_rfl
@[simp] theorem tf_by46 : tby Try.prog 46 = some 8 := by kernel_rfl
@[simp] theorem tf_row46 : trow Try.prog 46 = some false := by kernel_rfl
@[simp] theorem tf_und46 : (Try.prog.underlying 46).isSome = true := by kernel_rfl
@[simp] theorem tf_sl46 : tsl Try.prog 46 = none := by kernel_rfl
@[simp] theorem tf_el46 : tel Try.prog 46 = none := by kernel_rfl
@[simp] theorem tf_int46 : tint Try.prog 46 = none := by kernel_rfl
@[simp] theorem tf_str46 : tstr Try.prog 46 = false := by kernel_rfl
@[simp] theorem tf_bool46 : tbool Try.prog 46 = false := by kernel_rfl
@[simp] theorem tf_ptr46 : tptr Try.prog 46 = false := by kernel_rfl
@[simp] theorem tf_bytes46 : tbytes Try.prog 46 = false := by kernel_rfl
@[simp] theorem tf_zc46 : tzc Try.prog 46 = some [.raw .nilFunc] := by kernel_rfl
@[simp] theorem tf_sz47 : tsz Try.prog 47 = some 1 := by kernel_rfl
@[simp] theorem tf_by47 : tby Try.prog 47 = some 8 := by kernel_rfl
@[simp] theorem tf_row47 : trow Try.prog 47 = some false := by kernel_rfl
@[simp] theorem tf_und47 : (Try.prog.underlying 47).isSome = true := by kernel_rfl
@[simp] theorem tf_sl47 : tsl Try.prog 47 = none := by kernel_rfl
@[simp] theorem tf_el47 : tel Try.prog 47 = none := by kernel_rfl
@[simp] theorem tf_int47 : tint Try.prog 47 = none := by kernel_rfl
@[simp] theorem tf_str47 : tstr Try.prog 47 = false := by kernel_rfl
@[simp] theorem tf_bool47 : tbool Try.prog 47 = false := by kernel_rfl
@[simp] theorem tf_ptr47 : tptr Try.prog 47 = false := by kernel_rfl
@[simp] theorem tf_bytes47 : tbytes Try.prog 47 = false := by kernel_rfl
@[simp] theorem tf_zc47 : tzc Try.prog 47 = some [.raw .nilFunc] := by kernel_rfl
@[simp] theorem tf_sz48 : tsz Try.prog 48 = some 1 := by kernel_rfl
@[simp] theorem tf_by48 : tby Try.prog 48 = some 24 := by kernel_rfl
@[simp] theorem tf_row48 : trow Try.prog 48 = some false := by kernel_rfl
@[simp] theorem tf_und48 : (Try.prog.underlying 48).isSome = true := by kernel_rfl
@[simp] theorem tf_sl48 : tsl Try.prog 48 = some 3 := by kernel_rfl
@[simp] theorem tf_el48 : tel Try.prog 48 = some 1 := by kernel_rfl
@[simp] theorem tf_int48 : tint Try.prog 48 = none := by kernel_rfl
@[simp] theorem tf_str48 : tstr Try.prog 48 = false := by kernel_rfl
@[simp] theorem tf_bool48 : tbool Try.prog 48 = false := by kernel_rfl
@[simp] theorem tf_ptr48 : tptr Try.prog 48 = false := by kernel_rfl
@[simp] theorem tf_bytes48 : tbytes Try.prog 48 = false := by kernel_rfl
@[simp] theorem tf_zc48 : tzc Try.prog 48 = some [.nil] := by kernel_rfl
@[simp] theorem tf_sz49 : tsz Try.prog 49 = some 1 := by kernel_rfl
@[simp] theorem tf_by49 : tby Try.prog 49 = some 24 := by kernel_rfl
@[simp] theorem tf_row49 : trow Try.prog 49 = some false := by kernel_rfl
@[simp] theorem tf_und49 : (Try.prog.underlying 49).isSome = true := by kernel_rfl
@[simp] theorem tf_sl49 : tsl Try.prog 49 = some 52 := by kernel_rfl
@[simp] theorem tf_el49 : tel Try.prog 49 = some 5 := by kernel_rfl
@[simp] theorem tf_int49 : tint Try.prog 49 = none := by kernel_rfl
@[simp] theorem tf_str49 : tstr Try.prog 49 = false := by kernel_rfl
@[simp] theorem tf_bool49 : tbool Try.prog 49 = false := by kernel_rfl
@[simp] theorem tf_ptr49 : tptr Try.prog 49 = false := by kernel_rfl
@[simp] theorem tf_bytes49 : tbytes Try.prog 49 = false := by kernel_rfl
@[simp] theorem tf_zc49 : tzc Try.prog 49 = some [.nil] := by kernel_rfl
@[simp] theorem tf_sz50 : tsz Try.prog 50 = some 1 := by kernel_rfl
@[simp] theorem tf_by50 : tby Try.prog 50 = some 8 := by kernel_rfl
@[simp] theorem tf_row50 : trow Try.prog 50 = some false := by kernel_rfl
@[simp] theorem tf_und50 : (Try.prog.underlying 50).isSome = true := by kernel_rfl
@[simp] theorem tf_sl50 : tsl Try.prog 50 = none := by kernel_rfl
@[simp] theorem tf_el50 : tel Try.prog 50 = none := by kernel_rfl
@[simp] theorem tf_int50 : tint Try.prog 50 = none := by kernel_rfl
@[simp] theorem tf_str50 : tstr Try.prog 50 = false := by kernel_rfl
@[simp] theorem tf_bool50 : tbool Try.prog 50 = false := by kernel_rfl
@[simp] theorem tf_ptr50 : tptr Try.prog 50 = false := by kernel_rfl
@[simp] theorem tf_bytes50 : tbytes Try.prog 50 = false := by kernel_rfl
@[simp] theorem tf_zc50 : tzc Try.prog 50 = some [.raw .nilFunc] := by kernel_rfl
@[simp] theorem tf_sz51 : tsz Try.prog 51 = some 5 := by kernel_rfl
@[simp] theorem tf_by51 : tby Try.prog 51 = some 16 := by kernel_rfl
@[simp] theorem tf_row51 : trow Try.prog 51 = some true := by kernel_rfl
@[simp] theorem tf_und51 : (Try.prog.underlying 51).isSome = true := by kernel_rfl
@[simp] theorem tf_sl51 : tsl Try.prog 51 = none := by kernel_rfl
@[simp] theorem tf_el51 : tel Try.prog 51 = none := by kernel_rfl
@[simp] theorem tf_int51 : tint Try.prog 51 = none := by kernel_rfl
@[simp] theorem tf_str51 : tstr Try.prog 51 = false := by kernel_rfl
@[simp] theorem tf_bool51 : tbool Try.prog 51 = false := by kernel_rfl
@[simp] theorem tf_ptr51 : tptr Try.prog 51 = false := by kernel_rfl
@[simp] theorem tf_bytes51 : tbytes Try.prog 51 = false := by kernel_rfl
@[simp] theorem tf_zc51 : tzc Try.prog 51 = some [.int .i64 0, .bool false, .bool false, .bool false, .bool false] := by kernel_rfl
@[simp] theorem tf_pl51 : tplaces Try.prog 51 = some [(0, 1), (1, 1), (2, 1), (3, 1), (4, 1)] := by kernel_rfl
@[simp] theorem tf_fld51x0 : tfld Try.prog 51 0 = some (0, 1, false) := by kernel_rfl
@[simp] theorem tf_fld51x1 : tfld Try.prog 51 1 = some (1, 1, false) := by kernel_rfl
@[simp] theorem tf_fld51x2 : tfld Try.prog 51 2 = some (2, 1, false) := by kernel_rfl
@[simp] theorem tf_fld51x3 : tfld Try.prog 51 3 = some (3, 1, false) := by kernel_rfl
@[simp] theorem tf_fld51x4 : tfld Try.prog 51 4 = some (4, 1, false) := by kernel_rfl
@[simp] theorem tf_flat51 : tflat Try.prog 51 = some [0, 1, 1, 1, 1] := by kernel_rfl
@[simp] theorem tf_sz52 : tsz Try.prog 52 = some 5 := by kernel_rfl
@[simp] theorem tf_by52 : tby Try.prog 52 = some 16 := by kernel_rfl
@[simp] theorem tf_row52 : trow Try.prog 52 = some true := by kernel_rfl
@[simp] theorem tf_und52 : (Try.prog.underlying 52).isSome = true := by kernel_rfl
@[simp] theorem tf_sl52 : tsl Try.prog 52 = none := by kernel_rfl
@[simp] theorem tf_el52 : tel Try.prog 52 = none := by kernel_rfl
@[simp] theorem tf_int52 : tint Try.prog 52 = none := by kernel_rfl
@[simp] theorem tf_str52 : tstr Try.prog 52 = false := by kernel_rfl
@[simp] theorem tf_bool52 : tbool Try.prog 52 = false := by kernel_rfl
@[simp] theorem tf_ptr52 : tptr Try.prog 52 = false := by kernel_rfl
@[simp] theorem tf_bytes52 : tbytes Try.prog 52 = false := by kernel_rfl
@[simp] theorem tf_zc52 : tzc Try.prog 52 = some [.int .i64 0, .bool false, .bool false, .bool false, .bool false] := by kernel_rfl
@[simp] theorem tf_pl52 : tplaces Try.prog 52 = some [(0, 1), (1, 1), (2, 1), (3, 1), (4, 1)] := by kernel_rfl
@[simp] theorem tf_fld52x0 : tfld Try.prog 52 0 = some (0, 1, false) := by kernel_rfl
@[simp] theorem tf_fld52x1 : tfld Try.prog 52 1 = some (1, 1, false) := by kernel_rfl
@[simp] theorem tf_fld52x2 : tfld Try.prog 52 2 = some (2, 1, false) := by kernel_rfl
@[simp] theorem tf_fld52x3 : tfld Try.prog 52 3 = some (3, 1, false) := by kernel_rfl
@[simp] theorem tf_fld52x4 : tfld Try.prog 52 4 = some (4, 1, false) := by kernel_rfl
@[simp] theorem tf_flat52 : tflat Try.prog 52 = some [0, 1, 1, 1, 1] := by kernel_rfl
@[simp] theorem tf_sz53 : tsz Try.prog 53 = some 1 := by kernel_rfl
@[simp] theorem tf_by53 : tby Try.prog 53 = some 8 := by kernel_rfl
@[simp] theorem tf_row53 : trow Try.prog 53 = some false := by kernel_rfl
@[simp] theorem tf_und53 : (Try.prog.underlying 53).isSome = true := by kernel_rfl
@[simp] theorem tf_sl53 : tsl Try.prog 53 = none := by kernel_rfl
@[simp] theorem tf_el53 : tel Try.prog 53 = none := by kernel_rfl
@[simp] theorem tf_int53 : tint Try.prog 53 = none := by kernel_rfl
@[simp] theorem tf_str53 : tstr Try.prog 53 = false := by kernel_rfl
@[simp] theorem tf_bool53 : tbool Try.prog 53 = false := by kernel_rfl
@[simp] theorem tf_ptr53 : tptr Try.prog 53 = false := by kernel_rfl
@[simp] theorem tf_bytes53 : tbytes Try.prog 53 = false := by kernel_rfl
@[simp] theorem tf_zc53 : tzc Try.prog 53 = some [.raw .nilFunc] := by kernel_rfl
@[simp] theorem tf_sz54 : tsz Try.prog 54 = some 1 := by kernel_rfl
@[simp] theorem tf_by54 : tby Try.prog 54 = some 24 := by kernel_rfl
@[simp] theorem tf_row54 : trow Try.prog 54 = some false := by kernel_rfl
@[simp] theorem tf_und54 : (Try.prog.underlying 54).isSome = true := by kernel_rfl
@[simp] theorem tf_sl54 : tsl Try.prog 54 = some 98 := by kernel_rfl
@[simp] theorem tf_el54 : tel Try.prog 54 = some 11 := by kernel_rfl
@[simp] theorem tf_int54 : tint Try.prog 54 = none := by kernel_rfl
@[simp] theorem tf_str54 : tstr Try.prog 54 = false := by kernel_rfl
@[simp] theorem tf_bool54 : tbool Try.prog 54 = false := by kernel_rfl
@[simp] theorem tf_ptr54 : tptr Try.prog 54 = false := by kernel_rfl
@[simp] theorem tf_bytes54 : tbytes Try.prog 54 = false := by kernel_rfl
@[simp] theorem tf_zc54 : tzc Try.prog 54 = some [.nil] := by kernel_rfl
@[simp] theorem tf_sz55 : tsz Try.prog 55 = some 2 := by kernel_rfl
@[simp] theorem tf_by55 : tby Try.prog 55 = some 32 := by kernel_rfl
@[simp] theorem tf_row55 : trow Try.prog 55 = some true := by kernel_rfl
@[simp] theorem tf_und55 : (Try.prog.underlying 55).isSome = true := by kernel_rfl
@[simp] theorem tf_sl55 : tsl Try.prog 55 = none := by kernel_rfl
@[simp] theorem tf_el55 : tel Try.prog 55 = none := by kernel_rfl
@[simp] theorem tf_int55 : tint Try.prog 55 = none := by kernel_rfl
@[simp] theorem tf_str55 : tstr Try.prog 55 = false := by kernel_rfl
@[simp] theorem tf_bool55 : tbool Try.prog 55 = false := by kernel_rfl
@[simp] theorem tf_ptr55 : tptr Try.prog 55 = false := by kernel_rfl
@[simp] theorem tf_bytes55 : tbytes Try.prog 55 = false := by kernel_rfl
@[simp] theorem tf_zc55 : tzc Try.prog 55 = some [.bool false, .nil] := by kernel_rfl
@[simp] theorem tf_pl55 : tplaces Try.prog 55 = some [(0, 1), (1, 1)] := by kernel_rfl
@[simp] theorem tf_fld55x0 : tfld Try.prog 55 0 = some (0, 1, false) := by kernel_rfl
@[simp] theorem tf_fld55x1 : tfld Try.prog 55 1 = some (1, 1, false) := by kernel_rfl
@[simp] theorem tf_sz56 : tsz Try.prog 56 = some 2 := by kernel_rfl
@[simp] theorem tf_by56 : tby Try.prog 56 = some 32 := by kernel_rfl
@[simp] theorem tf_row56 : trow Try.prog 56 = some true := by kernel_rfl
@[simp] theorem tf_und56 : (Try.prog.underlying 56).isSome = true := by kernel_rfl
@[simp] theorem tf_sl56 : tsl Try.prog 56 = none := by kernel_rfl
@[simp] theorem tf_el56 : tel Try.prog 56 = none := by kernel_rfl
@[simp] theorem tf_int56 : tint Try.prog 56 = none := by kernel_rfl
@[simp] theorem tf_str56 : tstr Try.prog 56 = false := by kernel_rfl
@[simp] theorem tf_bool56 : tbool Try.prog 56 = false := by kernel_rfl
@[simp] theorem tf_ptr56 : tptr Try.prog 56 = false := by kernel_rfl
@[simp] theorem tf_bytes56 : tbytes Try.prog 56 = false := by kernel_rfl
@[simp] theorem tf_zc56 : tzc Try.prog 56 = some [.bool false, .nil] := by kernel_rfl
@[simp] theorem tf_pl56 : tplaces Try.prog 56 = some [(0, 1), (1, 1)] := by kernel_rfl
@[simp] theorem tf_fld56x0 : tfld Try.prog 56 0 = some (0, 1, false) := by kernel_rfl
@[simp] theorem tf_fld56x1 : tfld Try.prog 56 1 = some (1, 1, false) := by kernel_rfl
@[simp] theorem tf_sz58 : tsz Try.prog 58 = some 1 := by kernel_rfl
@[simp] theorem tf_by58 : tby Try.prog 58 = some 8 := by kernel_rfl
@[simp] theorem tf_row58 : trow Try.prog 58 = some false := by kernel_rfl
@[simp] theorem tf_und58 : (Try.prog.underlying 58).isSome = true := by kernel_rfl
@[simp] theorem tf_sl58 : tsl Try.prog 58 = none := by kernel_rfl
@[simp] theorem tf_el58 : tel Try.prog 58 = none := by kernel_rfl
@[simp] theorem tf_int58 : tint Try.prog 58 = none := by kernel_rfl
@[simp] theorem tf_str58 : tstr Try.prog 58 = false := by kernel_rfl
@[simp] theorem tf_bool58 : tbool Try.prog 58 = false := by kernel_rfl
@[simp] theorem tf_ptr58 : tptr Try.prog 58 = false := by kernel_rfl
@[simp] theorem tf_bytes58 : tbytes Try.prog 58 = false := by kernel_rfl
@[simp] theorem tf_zc58 : tzc Try.prog 58 = some [.raw .nilFunc] := by kernel_rfl
@[simp] theorem tf_sz59 : tsz Try.prog 59 = some 1 := by kernel_rfl
@[simp] theorem tf_by59 : tby Try.prog 59 = some 8 := by kernel_rfl
@[simp] theorem tf_row59 : trow Try.prog 59 = some false := by kernel_rfl
@[simp] theorem tf_und59 : (Try.prog.underlying 59).isSome = true := by kernel_rfl
@[simp] theorem tf_sl59 : tsl Try.prog 59 = none := by kernel_rfl
@[simp] theorem tf_el59 : tel Try.prog 59 = none := by kernel_rfl
@[simp] theorem tf_int59 : tint Try.prog 59 = none := by kernel_rfl
@[simp] theorem tf_str59 : tstr Try.prog 59 = false := by kernel_rfl
@[simp] theorem tf_bool59 : tbool Try.prog 59 = false := by kernel_rfl
@[simp] theorem tf_ptr59 : tptr Try.prog 59 = false := by kernel_rfl
@[simp] theorem tf_bytes59 : tbytes Try.prog 59 = false := by kernel_rfl
@[simp] theorem tf_zc59 : tzc Try.prog 59 = some [.raw .nilFunc] := by kernel_rfl
@[simp] theorem tf_sz60 : tsz Try.prog 60 = some 1 := by kernel_rfl
@[simp] theorem tf_by60 : tby Try.prog 60 = some 8 := by kernel_rfl
@[simp] theorem tf_row60 : trow Try.prog 60 = some false := by kernel_rfl
@[simp] theorem tf_und60 : (Try.prog.underlying 60).isSome = true := by kernel_rfl
@[simp] theorem tf_sl60 : tsl Try.prog 60 = none := by kernel_rfl
@[simp] theorem tf_el60 : tel Try.prog 60 = none := by kernel_rfl
@[simp] theorem tf_int60 : tint Try.prog 60 = none := by kernel_rfl
@[simp] theorem tf_str60 : tstr Try.prog 60 = false := by kernel_rfl
@[simp] theorem tf_bool60 : tbool Try.prog 60 = false := by kernel_rfl
@[simp] theorem tf_ptr60 : tptr Try.prog 60 = false := by kernel_rfl
@[simp] theorem tf_bytes60 : tbytes Try.prog 60 = false := by kernel_rfl
@[simp] theorem tf_zc60 : tzc Try.prog 60 = some [.raw .nilFunc] := by kernel_rfl
@[simp] theorem tf_sz61 : tsz Try.prog 61 = some 1 := by kernel_rfl
@[simp] theorem tf_by61 : tby Try.prog 61 = some 8 := by kernel_rfl
@[simp] theorem tf_row61 : trow Try.prog 61 = some false := by kernel_rfl
@[simp] theorem tf_und61 : (Try.prog.underlying 61).isSome = true := by kernel_rfl
@[simp] theorem tf_sl61 : tsl Try.prog 61 = none := by kernel_rfl
@[simp] theorem tf_el61 : tel Try.prog 61 = none := by kernel_rfl
@[simp] theorem tf_int61 : tint Try.prog 61 = none := by kernel_rfl
@[simp] theorem tf_str61 : tstr Try.prog 61 = false := by kernel_rfl
@[simp] theorem tf_bool61 : tbool Try.prog 61 = false := by kernel_rfl
@[simp] theorem tf_ptr61 : tptr Try.prog 61 = false := by kernel_rfl
@[simp] theorem tf_bytes61 : tbytes Try.prog 61 = false := by kernel_rfl
@[simp] theorem tf_zc61 : tzc Try.prog 61 = some [.raw .nilFunc] := by kernel_rfl
@[simp] theorem tf_sz62 : tsz Try.prog 62 = some 1 := by kernel_rfl
@[simp] theorem tf_by62 : tby Try.prog 62 = some 24 := by kernel_rfl
@[simp] theorem tf_row62 : trow Try.prog 62 = some false := by kernel_rfl
@[simp] theorem tf_und62 : (Try.prog.underlying 62).isSome = true := by kernel_rfl
@[simp] theorem tf_sl62 : tsl Try.prog 62 = some 96 := by kernel_rfl
@[simp] theorem tf_el62 : tel Try.prog 62 = some 5 := by kernel_rfl
@[simp] theorem tf_int62 : tint Try.prog 62 = none := by kernel_rfl
@[simp] theorem tf_str62 : tstr Try.prog 62 = false := by kernel_rfl
@[simp] theorem tf_bool62 : tbool Try.prog 62 = false := by kernel_rfl
@[simp] theorem tf_ptr62 : tptr Try.prog 62 = false := by kernel_rfl
@[simp] theorem tf_bytes62 : tbytes Try.prog 62 = false := by kernel_rfl
@[simp] theorem tf_zc62 : tzc Try.prog 62 = some [.nil] := by kernel_rfl
@[simp] theorem tf_sz63 : tsz Try.prog 63 = some 1 := by kernel_rfl
@[simp] theorem tf_by63 : tby Try.prog 63 = some 8 := by kernel_rfl
@[simp] theorem tf_row63 : trow Try.prog 63 = some false := by kernel_rfl
@[simp] theorem tf_und63 : (Try.prog.underlying 63).isSome = true := by kernel_rfl
@[simp] theorem tf_sl63 : tsl Try.prog 63 = none := by kernel_rfl
@[simp] theorem tf_el63 : tel Try.prog 63 = none := by kernel_rfl
@[simp] theorem tf_int63 : tint Try.prog 63 = none := by kernel_rfl
@[simp] theorem tf_str63 : tstr Try.prog 63 = false := by kernel_rfl
@[simp] theorem tf_bool63 : tbool Try.prog 63 = false := by kernel_rfl
@[simp] theorem tf_ptr63 : tptr Try.prog 63 = false := by kernel_rfl
@[simp] theorem tf_bytes63 : tbytes Try.prog 63 = false := by kernel_rfl
@[simp] theorem tf_zc63 : tzc Try.prog 63 = some [.raw .nilFunc] := by kernel_rfl
@[simp] theorem tf_sz64 : tsz Try.prog 64 = some 1 := by kernel_rfl
@[simp] theorem tf_by64 : tby Try.prog 64 = some 24 := by kernel_rfl
@[simp] theorem tf_row64 : trow Try.prog 64 = some false := by kernel_rfl
@[simp] theorem tf_und64 : (Try.prog.underlying 64).isSome = true := by kernel_rfl
@[simp] theorem tf_sl64 : tsl Try.prog 64 = some 67 := by kernel_rfl
@[simp] theorem tf_el64 : tel Try.prog 64 = some 1 := by kernel_rfl
@[simp] theorem tf_int64 : tint Try.prog 64 = none := by kernel_rfl
@[simp] theorem tf_str64 : tstr Try.prog 64 = false := by kernel_rfl
@[simp] theorem tf_bool64 : tbool Try.prog 64 = false := by kernel_rfl
@[simp] theorem tf_ptr64 : tptr Try.prog 64 = false := by kernel_rfl
@[simp] theorem tf_bytes64 : tbytes Try.prog 64 = false := by kernel_rfl
@[simp] theorem tf_zc64 : tzc Try.prog 64 = some [.nil] := by kernel_rfl
@[simp] theorem tf_sz65 : tsz Try.prog 65 = some 1 := by kernel_rfl
@[simp] theorem tf_by65 : tby Try.prog 65 = some 24 := by kernel_rfl
@[simp] theorem tf_row65 : trow Try.prog 65 = some true := by kernel_rfl
@[simp] theorem tf_und65 : (Try.prog.underlying 65).isSome = true := by kernel_rfl
@[simp] theorem tf_sl65 : tsl Try.prog 65 = none := by kernel_rfl
@[simp] theorem tf_el65 : tel Try.prog 65 = none := by kernel_rfl
@[simp] theorem tf_int65 : tint Try.prog 65 = none := by kernel_rfl
@[simp] theorem tf_str65 : tstr Try.prog 65 = false := by kernel_rfl
@[simp] theorem tf_bool65 : tbool Try.prog 65 = false := by kernel_rfl
@[simp] theorem tf_ptr65 : tptr Try.prog 65 = false := by kernel_rfl
@[simp] theorem tf_bytes65 : tbytes Try.prog 65 = false := by kernel_rfl
@[simp] theorem tf_zc65 : tzc Try.prog 65 = some [.nil] := by kernel_rfl
@[simp] theorem tf_pl65 : tplaces Try.prog 65 = some [(0, 1)] := by kernel_rfl
@[simp] theorem tf_fld65x0 : tfld Try.prog 65 0 = some (0, 1, false) := by kernel_rfl
@[simp] theorem tf_sz66 : tsz Try.prog 66 = some 1 := by kernel_rfl
@[simp] theorem tf_by66 : tby Try.prog 66 = some 24 := by kernel_rfl
@[simp] theorem tf_row66 : trow Try.prog 66 = some true := by kernel_rfl
@[simp] theorem tf_und66 : (Try.prog.underlying 66).isSome = true := by kernel_rfl
@[simp] theorem tf_sl66 : tsl Try.prog 66 = none := by kernel_rfl
@[simp] theorem tf_el66 : tel Try.prog 66 = none := by kernel_rfl
@[simp] theorem tf_int66 : tint Try.prog 66 = none := by kernel_rfl
@[simp] theorem tf_str66 : tstr Try.prog 66 = false := by kernel_rfl
@[simp] theorem tf_bool66 : tbool Try.prog 66 = false := by kernel_rfl
@[simp] theorem tf_ptr66 : tptr Try.prog 66 = false := by kernel_rfl
@[simp] theorem tf_bytes66 : tbytes Try.prog 66 = false := by kernel_rfl
@[simp] theorem tf_zc66 : tzc Try.prog 66 = some [.nil] := by kernel_rfl
@[simp] theorem tf_pl66 : tplaces Try.prog 66 = some [(0, 1)] := by kernel_rfl
@[simp] theorem tf_fld66x0 : tfld Try.prog 66 0 = some (0, 1, false) := by kernel_rfl
@[simp] theorem tf_sz67 : tsz Try.prog 67 = some 1 := by kernel_rfl
@[simp] theorem tf_by67 : tby Try.prog 67 = some 8 := by kernel_rfl
@[simp] theorem tf_row67 : trow Try.prog 67 = some false := by kernel_rfl
@[simp] theorem tf_und67 : (Try.prog.underlying 67).isSome = true := by kernel_rfl
@[simp] theorem tf_sl67 : tsl Try.prog 67 = none := by kernel_rfl
@[simp] theorem tf_el67 : tel Try.prog 67 = none := by kernel_rfl
@[simp] theorem tf_int67 : tint Try.prog 67 = none := by kernel_rfl
@[simp] theorem tf_str67 : tstr Try.prog 67 = false := by kernel_rfl
@[simp] theorem tf_bool67 : tbool Try.prog 67 = false := by kernel_rfl
@[simp] theorem tf_ptr67 : tptr Try.prog 67 = true := by kernel_rfl
@[simp] theorem tf_bytes67 : tbytes Try.prog 67 = false := by kernel_rfl
@[simp] theorem tf_zc67 : tzc Try.prog 67 = some [.ptr none] := by kernel_rfl
@[simp] theorem tf_sz68 : tsz Try.prog 68 = some 1 := by kernel_rfl
@[simp] theorem tf_by68 : tby Try.prog 68 = some 24 := by kernel_rfl
@[simp] theorem tf_row68 : trow Try.prog 68 = some false := by kernel_rfl
@[simp] theorem tf_und68 : (Try.prog.underlying 68).isSome = true := by kernel_rfl
@[simp] theorem tf_sl68 : tsl Try.prog 68 = some 5 := by kernel_rfl
@[simp] theorem tf_el68 : tel Try.prog 68 = some 1 := by kernel_rfl
@[simp] theorem tf_int68 : tint Try.prog 68 = none := by kernel_rfl
@[simp] theorem tf_str68 : tstr Try.prog 68 = false := by kernel_rfl
@[simp] theorem tf_bool68 : tbool Try.prog 68 = false := by kernel_rfl
@[simp] theorem tf_ptr68 : tptr Try.prog 68 = false := by kernel_rfl
@[simp] theorem tf_bytes68 : tbytes Try.prog 68 = true := by kernel_rfl
@[simp] theorem tf_zc68 : tzc Try.prog 68 = some [.nil] := by kernel_rfl
@[simp] theorem tf_sz69 : tsz Try.prog 69 = some 3 := by kernel_rfl
@[simp] theorem tf_by69 : tby Try.prog 69 = some 40 := by kernel_rfl
@[simp] theorem tf_row69 : trow Try.prog 69 = some true := by kernel_rfl
@[simp] theorem tf_und69 : (Try.prog.underlying 69).isSome = true := by kernel_rfl
@[simp] theorem tf_sl69 : tsl Try.prog 69 = none := by kernel_rfl
@[simp] theorem tf_el69 : tel Try.prog 69 = none := by kernel_rfl
@[simp] theorem tf_int69 : tint Try.prog 69 = none := by kernel_rfl
@[simp] theorem tf_str69 : tstr Try.prog 69 = false := by kernel_rfl
@[simp] theorem tf_bool69 : tbool Try.prog 69 = false := by kernel_rfl
@[simp] theorem tf_ptr69 : tptr Try.prog 69 = false := by kernel_rfl
@[simp] theorem tf_bytes69 : tbytes Try.prog 69 = false := by kernel_rfl
@[simp] theorem tf_zc69 : tzc Try.prog 69 = some [.nil, .int .i64 0, .int .i64 0] := by kernel_rfl
@[simp] theorem tf_pl69 : tplaces Try.prog 69 = some [(0, 1), (1, 1), (2, 1)] := by kernel_rfl
@[simp] theorem tf_fld69x0 : tfld Try.prog 69 0 = some (0, 1, false) := by kernel_rfl
@[simp] theorem tf_fld69x1 : tfld Try.prog 69 1 = some (1, 1, false) := by kernel_rfl
@[simp] theorem tf_fld69x2 : tfld Try.prog 69 2 = some (2, 1, false) := by kernel_rfl
@[simp] theorem tf_sz70 : tsz Try.prog 70 = some 3 := by kernel_rfl
@[simp] theorem tf_by70 : tby Try.prog 70 = some 40 := by kernel_rfl
@[simp] theorem tf_row70 : trow Try.prog 70 = some true := by kernel_rfl
@[simp] theorem tf_und70 : (Try.prog.underlying 70).isSome = true := by kernel_rfl
@[simp] theorem tf_sl70 : tsl Try.prog 70 = none := by kernel_rfl
@[simp] theorem tf_el70 : tel Try.prog 70 = none := by kernel_rfl
@[simp] theorem tf_int70 : tint Try.prog 70 = none := by kernel_rfl
@[simp] theorem tf_str70 : tstr Try.prog 70 = false := by kernel_rfl
@[simp] theorem tf_bool70 : tbool Try.prog 70 = false := by kernel_rfl
@[simp] theorem tf_ptr70 : tptr Try.prog 70 = false := by kernel_rfl
@[simp] theorem tf_bytes70 : tbytes Try.prog 70 = false := by kernel_rfl
@[simp] theorem tf_zc70 : tzc Try.prog 70 = some [.nil, .int .i64 0, .int .i64 0] := by kernel_rfl
@[simp] theorem tf_pl70 : tplaces Try.prog 70 = some [(0, 1), (1, 1), (2, 1)] := by kernel_rfl
@[simp] theorem tf_fld70x0 : tfld Try.prog 70 0 = some (0, 1, false) := by kernel_rfl
@[simp] theorem tf_fld70x1 : tfld Try.prog 70 1 = some (1, 1, false) := by kernel_rfl
@[simp] theorem tf_fld70x2 : tfld Try.prog 70 2 = some (2, 1, false) := by kernel_rfl
@[simp] theorem tf_sz71 : tsz Try.prog 71 = some 3 := by kernel_rfl
@[simp] theorem tf_by71 : tby Try.prog 71 = some 40 := by kernel_rfl
@[simp] theorem tf_row71 : trow Try.prog 71 = some true := by kernel_rfl
@[simp] theorem tf_und71 : (Try.prog.underlying 71).isSome = true := by kernel_rfl
@[simp] theorem tf_sl71 : tsl Try.prog 71 = none := by kernel_rfl
@[simp] theorem tf_el71 : tel Try.prog 71 = none := by kernel_rfl
@[simp] theorem tf_int71 : tint Try.prog 71 = none := by kernel_rfl
@[simp] theorem tf_str71 : tstr Try.prog 71 = false := by kernel_rfl
@[simp] theorem tf_bool71 : tbool Try.prog 71 = false := by kernel_rfl
@[simp] theorem tf_ptr71 : tptr Try.prog 71 = false := by kernel_rfl
@[simp] theorem tf_bytes71 : tbytes Try.prog 71 = false := by kernel_rfl
@[simp] theorem tf_zc71 : tzc Try.prog 71 = some [.nil, .int .i64 0, .int .i64 0] := by kernel_rfl
@[simp] theorem tf_pl71 : tplaces Try.prog 71 = some [(0, 3)] := by kernel_rfl
@[simp] theorem tf_fld71x0 : tfld Try.prog 71 0 = some (0, 3, true) := by kernel_rfl
@[simp] theorem tf_sz72 : tsz Try.prog 72 = some 3 := by kernel_rfl
@[simp] theorem tf_by72 : tby Try.prog 72 = some 40 := by kernel_rfl
@[simp] theorem tf_row72 : trow Try.prog 72 = some true := by kernel_rfl
@[simp] theorem tf_und72 : (Try.prog.underlying 72).isSome = true := by kernel_rfl
@[simp] theorem tf_sl72 : tsl Try.prog 72 = none := by kernel_rfl
@[simp] theorem tf_el72 : tel Try.prog 72 = none := by kernel_rfl
@[simp] theorem tf_int72 : tint Try.prog 72 = none := by kernel_rfl
@[simp] theorem tf_str72 : tstr Try.prog 72 = false := by kernel_rfl
@[simp] theorem tf_bool72 : tbool Try.prog 72 = false := by kernel_rfl
@[simp] theorem tf_ptr72 : tptr Try.prog 72 = false := by kernel_rfl
@[simp] theorem tf_bytes72 : tbytes Try.prog 72 = false := by kernel_rfl
@[simp] theorem tf_zc72 : tzc Try.prog 72 = some [.nil, .int .i64 0, .int .i64 0] := by kernel_rfl
@[simp] theorem tf_pl72 : tplaces Try.prog 72 = some [(0, 3)] := by kernel_rfl
@[simp] theorem tf_fld72x0 : tfld Try.prog 72 0 = some (0, 3, true) := by kernel_rfl
@[simp] theorem tf_sz73 : tsz Try.prog 73 = some 3 := by kernel_rfl
@[simp] theorem tf_by73 : tby Try.prog 73 = some 40 := by kernel_rfl
@[simp] theorem tf_row73 : trow Try.prog 73 = some true := by kernel_rfl
@[simp] theorem tf_und73 : (Try.prog.underlying 73).isSome = true := by kernel_rfl
@[simp] theorem tf_sl73 : tsl Try.prog 73 = none := by kernel_rfl
@[simp] theorem tf_el73 : tel Try.prog 73 = none := by kernel_rfl
@[simp] theorem tf_int73 : tint Try.prog 73 = none := by kernel_rfl
@[simp] theorem tf_str73 : tstr Try.prog 73 = false := by kernel_rfl
@[simp] theorem tf_bool73 : tbool Try.prog 73 = false := by kernel_rfl
@[simp] theorem tf_ptr73 : tptr Try.prog 73 = false := by kernel_rfl
@[simp] theorem tf_bytes73 : tbytes Try.prog 73 = false := by kernel_rfl
@[simp] theorem tf_zc73 : tzc Try.prog 73 = some [.nil, .int .i64 0, .int .i64 0] := by kernel_rfl
@[simp] theorem tf_pl73 : tplaces Try.prog 73 = some [(0, 3)] := by kernel_rfl
@[simp] theorem tf_fld73x0 : tfld Try.prog 73 0 = some (0, 3, true) := by kernel_rfl
@[simp] theorem tf_sz74 : tsz Try.prog 74 = some 12 := by kernel_rfl
@[simp] theorem tf_by74 : tby Try.prog 74 = some 88 := by kernel_rfl
@[simp] theorem tf_row74 : trow Try.prog 74 = some true := by kernel_rfl
@[simp] theorem tf_und74 : (Try.prog.underlying 74).isSome = true := by kernel_rfl
@[simp] theorem tf_sl74 : tsl Try.prog 74 = none := by kernel_rfl
@[simp] theorem tf_el74 : tel Try.prog 74 = none := by kernel_rfl
@[simp] theorem tf_int74 : tint Try.prog 74 = none := by kernel_rfl
@[simp] theorem tf_str74 : tstr Try.prog 74 = false := by kernel_rfl
@[simp] theorem tf_bool74 : tbool Try.prog 74 = false := by kernel_rfl
@[simp] theorem tf_ptr74 : tptr Try.prog 74 = false := by kernel_rfl
@[simp] theorem tf_bytes74 : tbytes Try.prog 74 = false := by kernel_rfl
@[simp] theorem tf_zc74 : tzc Try.prog 74 = some [.nil, .int .i64 0, .int .i64 0, .nil, .int .i64 0, .int .i64 0, .bool false, .bool false, .bool false, .bool false, .bool false, .bool false] := by kernel_rfl
@[simp] theorem tf_pl74 : tplaces Try.prog 74 = some [(0, 3), (3, 3), (6, 1), (7, 1), (8, 1), (9, 1), (10, 1), (11, 1)] := by kernel_rfl
@[simp] theorem tf_fld74x0 : tfld Try.prog 74 0 = some (0, 3, true) := by kernel_rfl
@[simp] theorem tf_fld74x1 : tfld Try.prog 74 1 = some (3, 3, true) := by kernel_rfl
@[simp] theorem tf_fld74x2 : tfld Try.prog 74 2 = some (6, 1, false) := by kernel_rfl
@[simp] theorem tf_fld74x3 : tfld Try.prog 74 3 = some (7, 1, false) := by kernel_rfl
@[simp] theorem tf_fld74x4 : tfld Try.prog 74 4 = some (8, 1, false) := by kernel_rfl
@[simp] theorem tf_fld74x5 : tfld Try.prog 74 5 = some (9, 1, false) := by kernel_rfl
@[simp] theorem tf_fld74x6 : tfld Try.prog 74 6 = some (10, 1, false) := by kernel_rfl
@[simp] theorem tf_fld74x7 : tfld Try.prog 74 7 = some (11, 1, false) := by kernel_rfl
@[simp] theorem tf_sz75 : tsz Try.prog 75 = some 12 := by kernel_rfl
@[simp] theorem tf_by75 : tby Try.prog 75 = some 88 := by kernel_rfl
@[simp] theorem tf_row75 : trow Try.prog 75 = some true := by kernel_rfl
@[simp] theorem tf_und75 : (Try.prog.underlying 75).isSome = true := by kernel_rfl
@[simp] theorem tf_sl75 : tsl Try.prog 75 = none := by kernel_rfl
@[simp] theorem tf_el75 : tel Try.prog 75 = none := by kernel_rfl
@[simp] theorem tf_int75 : tint Try.prog 75 = none := by kernel_rfl
@[simp] theorem tf_str75 : tstr Try.prog 75 = false := by kernel_rfl
@[simp] theorem tf_bool75 : tbool Try.prog 75 = false := by kernel_rfl
@[simp] theorem tf_ptr75 : tptr Try.prog 75 = false := by kernel_rfl
@[simp] theorem tf_bytes75 : tbytes Try.prog 75 = false := by kernel_rfl
@[simp] theorem tf_zc75 : tzc Try.prog 75 = some [.nil, .int .i64 0, .int .i64 0, .nil, .int .i64 0, .int .i64 0, .bool false, .bool false, .bool false, .bool false, .bool false, .bool false] := by kernel_rfl
@[simp] theorem tf_pl75 : tplaces Try.prog 75 = some [(0, 3), (3, 3), (6, 1), (7, 1), (8, 1), (9, 1), (10, 1), (11, 1)] := by kernel_rfl
@[simp] theorem tf_fld75x0 : tfld Try.prog 75 0 = some (0, 3, true) := by kernel_rfl
@[simp] theorem tf_fld75x1 : tfld Try.prog 75 1 = some (3, 3, true) := by kernel_rfl
@[simp] theorem tf_fld75x2 : tfld Try.prog 75 2 = some (6, 1, false) := by kernel_rfl
@[simp] theorem tf_fld75x3 : tfld Try.prog 75 3 = some (7, 1, false) := by kernel_rfl
@[simp] theorem tf_fld75x4 : tfld Try.prog 75 4 = some (8, 1, false) := by kernel_rfl
@[simp] theorem tf_fld75x5 : tfld Try.prog 75 5 = some (9, 1, false) := by kernel_rfl
@[simp] theorem tf_fld75x6 : tfld Try.prog 75 6 = some (10, 1, false) := by kernel_rfl
@[simp] theorem tf_fld75x7 : tfld Try.prog 75 7 = some (11, 1, false) := by kernel_rfl
@[simp] theorem tf_sz76 : tsz Try.prog 76 = some 1 := by kernel_rfl
@[simp] theorem tf_by76 : tby Try.prog 76 = some 8 := by kernel_rfl
@[simp] theorem tf_row76 : trow Try.prog 76 = some false := by kernel_rfl
@[simp] theorem tf_und76 : (Try.prog.underlying 76).isSome = true := by kernel_rfl
@[simp] theorem tf_sl76 : tsl Try.prog 76 = none := by kernel_rfl
@[simp] theorem tf_el76 : tel Try.prog 76 = none := by kernel_rfl
@[simp] theorem tf_int76 : tint Try.prog 76 = none := by kernel_rfl
@[simp] theorem tf_str76 : tstr Try.prog 76 = false := by kernel_rfl
@[simp] theorem tf_bool76 : tbool Try.prog 76 = false := by kernel_rfl
@[simp] theorem tf_ptr76 : tptr Try.prog 76 = false := by kernel_rfl
@[simp] theorem tf_bytes76 : tbytes Try.prog 76 = false := by kernel_rfl
@[simp] theorem tf_zc76 : tzc Try.prog 76 = some [.raw .nilFunc] := by kernel_rfl
@[simp] theorem tf_sz77 : tsz Try.prog 77 = some 1 := by kernel_rfl
@[simp] theorem tf_by77 : tby Try.prog 77 = some 8 := by kernel_rfl
@[simp] theorem tf_row77 : trow Try.prog 77 = some false := by kernel_rfl
@[simp] theorem tf_und77 : (Try.prog.underlying 77).isSome = true := by kernel_rfl
@[simp] theorem tf_sl77 : tsl Try.prog 77 = none := by kernel_rfl
@[simp] theorem tf_el77 : tel Try.prog 77 = none := by kernel_rfl
@[simp] theorem tf_int77 : tint Try.prog 77 = none := by kernel_rfl
@[simp] theorem tf_str77 : tstr Try.prog 77 = false := by kernel_rfl
@[simp] theorem tf_bool77 : tbool Try.prog 77 = false := by kernel_rfl
@[simp] theorem tf_ptr77 : tptr Try.prog 77 = false := by kernel_rfl
@[simp] theorem tf_bytes77 : tbytes Try.prog 77 = false := by kernel_rfl
@[simp] theorem tf_zc77 : tzc Try.prog 77 = some [.raw .nilFunc] := by kernel_rfl
@[simp] theorem tf_sz78 : tsz Try.prog 78 = some 1 := by kernel_rfl
@[simp] theorem tf_by78 : tby Try.prog 78 = some 8 := by kernel_rfl
@[simp] theorem tf_row78 : trow Try.prog 78 = some false := by kernel_rfl
@[simp] theorem tf_und78 : (Try.prog.underlying 78).isSome = true := by kernel_rfl
@[simp] theorem tf_sl78 : tsl Try.prog 78 = none := by kernel_rfl
@[simp] theorem tf_el78 : tel Try.prog 78 = none := by kernel_rfl
@[simp] theorem tf_int78 : tint Try.prog 78 = none := by kernel_rfl
@[simp] theorem tf_str78 : tstr Try.prog 78 = false := by kernel_rfl
@[simp] theorem tf_bool78 : tbool Try.prog 78 = false := by kernel_rfl
@[simp] theorem tf_ptr78 : tptr Try.prog 78 = false := by kernel_rfl
@[simp] theorem tf_bytes78 : tbytes Try.prog 78 = false := by kernel_rfl
@[simp] theorem tf_zc78 : tzc Try.prog 78 = some [.raw .nilFunc] := by kernel_rfl
@[simp] theorem tf_sz79 : tsz Try.prog 79 = some 1 := by kernel_rfl
@[simp] theorem tf_by79 : tby Try.prog 79 = some 8 := by kernel_rfl
@[simp] theorem tf_row79 : trow Try.prog 79 = some false := by kernel_rfl
@[simp] theorem tf_und79 : (Try.prog.underlying 79).isSome = true := by kernel_rfl
@[simp] theorem tf_sl79 : tsl Try.prog 79 = none := by kernel_rfl
@[simp] theorem tf_el79 : tel Try.prog 79 = none := by kernel_rfl
@[simp] theorem tf_int79 : tint Try.prog 79 = none := by kernel_rfl
@[simp] theorem tf_str79 : tstr Try.prog 79 = false := by kernel_rfl
@[simp] theorem tf_bool79 : tbool Try.prog 79 = false := by kernel_rfl
@[simp] theorem tf_ptr79 : tptr Try.prog 79 = false := by kernel_rfl
@[simp] theorem tf_bytes79 : tbytes Try.prog 79 = false := by kernel_rfl
@[simp] theorem tf_zc79 : tzc Try.prog 79 = some [.raw .nilFunc] := by kernel_rfl
@[simp] theorem tf_sz81 : tsz Try.prog 81 = some 1 := by kernel_rfl
@[simp] theorem tf_by81 : tby Try.prog 81 = some 8 := by kernel_rfl
@[simp] theorem tf_row81 : trow Try.prog 81 = some false := by kernel_rfl
@[simp] theorem tf_und81 : (Try.prog.underlying 81).isSome = true := by kernel_rfl
@[simp] theorem tf_sl81 : tsl Try.prog 81 = none := by kernel_rfl
@[simp] theorem tf_el81 : tel Try.prog 81 = none := by kernel_rfl
@[simp] theorem tf_int81 : tint Try.prog 81 = none := by kernel_rfl
@[simp] theorem tf_str81 : tstr Try.prog 81 = false := by kernel_rfl
@[simp] theorem tf_bool81 : tbool Try.prog 81 = false := by kernel_rfl
@[simp] theorem tf_ptr81 : tptr Try.prog 81 = false := by kernel_rfl
@[simp] theorem tf_bytes81 : tbytes Try.prog 81 = false := by kernel_rfl
@[simp] theorem tf_zc81 : tzc Try.prog 81 = some [.raw .nilFunc] := by kernel_rfl
@[simp] theorem tf_sz83 : tsz Try.prog 83 = some 1 := by kernel_rfl
@[simp] theorem tf_by83 : tby Try.prog 83 = some 8 := by kernel_rfl
@[simp] theorem tf_row83 : trow Try.prog 83 = some false := by kernel_rfl
@[simp] theorem tf_und83 : (Try.prog.underlying 83).isSome = true := by kernel_rfl
@[simp] theorem tf_sl83 : tsl Try.prog 83 = none := by kernel_rfl
@[simp] theorem tf_el83 : tel Try.prog 83 = none := by kernel_rfl
@[simp] theorem tf_int83 : tint Try.prog 83 = none := by kernel_rfl
@[simp] theorem tf_str83 : tstr Try.prog 83 = false := by kernel_rfl
@[simp] theorem tf_bool83 : tbool Try.prog 83 = false := by kernel_rfl
@[simp] theorem tf_ptr83 : tptr Try.prog 83 = false := by kernel_rfl
@[simp] theorem tf_bytes83 : tbytes Try.prog 83 = false := by kernel_rfl
@[simp] theorem tf_zc83 : tzc Try.prog 83 = some [.raw .nilFunc] := by kernel_rfl
@[simp] theorem tf_sz84 : tsz Try.prog 84 = some 4 := by kernel_rfl
@[simp] theorem tf_by84 : tby Try.prog 84 = some 40 := by kernel_rfl
@[simp] theorem tf_row84 : trow Try.prog 84 = some true := by kernel_rfl
@[simp] theorem tf_und84 : (Try.prog.underlying 84).isSome = true := by kernel_rfl
@[simp] theorem tf_sl84 : tsl Try.prog 84 = none := by kernel_rfl
@[simp] theorem tf_el84 : tel Try.prog 84 = none := by kernel_rfl
@[simp] theorem tf_int84 : tint Try.prog 84 = none := by kernel_rfl
@[simp] theorem tf_str84 : tstr Try.prog 84 = false := by kernel_rfl
@[simp] theorem tf_bool84 : tbool Try.prog 84 = false := by kernel_rfl
@[simp] theorem tf_ptr84 : tptr Try.prog 84 = false := by kernel_rfl
@[simp] theorem tf_bytes84 : tbytes Try.prog 84 = false := by kernel_rfl
@[simp] theorem tf_zc84 : tzc Try.prog 84 = some [.int .i64 0, .int .i64 0, .int .i64 0, .str []] := by kernel_rfl
@[simp] theorem tf_pl84 : tplaces Try.prog 84 = some [(0, 1), (1, 1), (2, 1), (3, 1)] := by kernel_rfl
@[simp] theorem tf_fld84x0 : tfld Try.prog 84 0 = some (0, 1, false) := by kernel_rfl
@[simp] theorem tf_fld84x1 : tfld Try.prog 84 1 = some (1, 1, false) := by kernel_rfl
@[simp] theorem tf_fld84x2 : tfld Try.prog 84 2 = some (2, 1, false) := by kernel_rfl
@[simp] theorem tf_fld84x3 : tfld Try.prog 84 3 = some (3, 1, false) := by kernel_rfl
@[simp] theorem tf_flat84 : tflat Try.prog 84 = some [0, 0, 0, 2] := by kernel_rfl
@[simp] theorem tf_sz85 : tsz Try.prog 85 = some 1 := by kernel_rfl
@[simp] theorem tf_by85 : tby Try.prog 85 = some 8 := by kernel_rfl
@[simp] theorem tf_row85 : trow Try.prog 85 = some false := by kernel_rfl
@[simp] theorem tf_und85 : (Try.prog.underlying 85).isSome = true := by kernel_rfl
@[simp] theorem tf_sl85 : tsl Try.prog 85 = none := by kernel_rfl
@[simp] theorem tf_el85 : tel Try.prog 85 = none := by kernel_rfl
@[simp] theorem tf_int85 : tint Try.prog 85 = none := by kernel_rfl
@[simp] theorem tf_str85 : tstr Try.prog 85 = false := by kernel_rfl
@[simp] theorem tf_bool85 : tbool Try.prog 85 = false := by kernel_rfl
@[simp] theorem tf_ptr85 : tptr Try.prog 85 = false := by kernel_rfl
@[simp] theorem tf_bytes85 : tbytes Try.prog 85 = false := by kernel_rfl
@[simp] theorem tf_zc85 : tzc Try.prog 85 = some [.raw .nilFunc] := by kernel_rfl
@[simp] theorem tf_sz87 : tsz Try.prog 87 = some 1 := by kernel_rfl
@[simp] theorem tf_by87 : tby Try.prog 87 = some 8 := by kernel_rfl
@[simp] theorem tf_row87 : trow Try.prog 87 = some false := by kernel_rfl
@[simp] theorem tf_und87 : (Try.prog.underlying 87).isSome = true := by kernel_rfl
@[simp] theorem tf_sl87 : tsl Try.prog 87 = none := by kernel_rfl
@[simp] theorem tf_el87 : tel Try.prog 87 = none := by kernel_rfl
@[simp] theorem tf_int87 : tint Try.prog 87 = none := by kernel_rfl
@[simp] theorem tf_str87 : tstr Try.prog 87 = false := by kernel_rfl
@[simp] theorem tf_bool87 : tbool Try.prog 87 = false := by kernel_rfl
@[simp] theorem tf_ptr87 : tptr Try.prog 87 = false := by kernel_rfl
@[simp] theorem tf_bytes87 : tbytes Try.prog 87 = false := by kernel_rfl
@[simp] theorem tf_zc87 : tzc Try.prog 87 = some [.raw .nilFunc] := by kernel_rfl
@[simp] theorem tf_sz89 : tsz Try.prog 89 = some 1 := by kernel_rfl
@[simp] theorem tf_by89 : tby Try.prog 89 = some 8 := by kernel_rfl
@[simp] theorem tf_row89 : trow Try.prog 89 = some false := by kernel_rfl
@[simp] theorem tf_und89 : (Try.prog.underlying 89).isSome = true := by kernel_rfl
@[simp] theorem tf_sl89 : tsl Try.prog 89 = none := by kernel_rfl
@[simp] theorem tf_el89 : tel Try.prog 89 = none := by kernel_rfl
@[simp] theorem tf_int89 : tint Try.prog 89 = none := by kernel_rfl
@[simp] theorem tf_str89 : tstr Try.prog 89 = false := by kernel_rfl
@[simp] theorem tf_bool89 : tbool Try.prog 89 = false := by kernel_rfl
@[simp] theorem tf_ptr89 : tptr Try.prog 89 = false := by kernel_rfl
@[simp] theorem tf_bytes89 : tbytes Try.prog 89 = false := by kernel_rfl
@[simp] theorem tf_zc89 : tzc Try.prog 89 = some [.raw .nilFunc] := by kernel_rfl
@[simp] theorem tf_sz90 : tsz Try.prog 90 = some 1 := by kernel_rfl
@[simp] theorem tf_by90 : tby Try.prog 90 = some 8 := by kernel_rfl
@[simp] theorem tf_row90 : trow Try.prog 90 = some false := by kernel_rfl
@[simp] theorem tf_und90 : (Try.prog.underlying 90).isSome = true := by kernel_rfl
@[simp] theorem tf_sl90 : tsl Try.prog 90 = none := by kernel_rfl
@[simp] theorem tf_el90 : tel Try.prog 90 = none := by kernel_rfl
@[simp] theorem tf_int90 : tint Try.prog 90 = none := by kernel_rfl
@[simp] theorem tf_str90 : tstr Try.prog 90 = false := by kernel_rfl
@[simp] theorem tf_bool90 : tbool Try.prog 90 = false := by kernel_rfl
@[simp] theorem tf_ptr90 : tptr Try.prog 90 = false := by kernel_rfl
@[simp] theorem tf_bytes90 : tbytes Try.prog 90 = false := by kernel_rfl
@[simp] theorem tf_zc90 : tzc Try.prog 90 = some [.raw .nilFunc] := by kernel_rfl
@[simp] theorem tf_sz92 : tsz Try.prog 92 = some 1 := by kernel_rfl
@[simp] theorem tf_by92 : tby Try.prog 92 = some 8 := by kernel_rfl
@[simp] theorem tf_row92 : trow Try.prog 92 = some false := by kernel_rfl
@[simp] theorem tf_und92 : (Try.prog.underlying 92).isSome = true := by kernel_rfl
@[simp] theorem tf_sl92 : tsl Try.prog 92 = none := by kernel_rfl
@[simp] theorem tf_el92 : tel Try.prog 92 = none := by kernel_rfl
@[simp] theorem tf_int92 : tint Try.prog 92 = none := by kernel_rfl
@[simp] theorem tf_str92 : tstr Try.prog 92 = false := by kernel_rfl
@[simp] theorem tf_bool92 : tbool Try.prog 92 = false := by kernel_rfl
@[simp] theorem tf_ptr92 : tptr Try.prog 92 = false := by kernel_rfl
@[simp] theorem tf_bytes92 : tbytes Try.prog 92 = false := by kernel_rfl
@[simp] theorem tf_zc92 : tzc Try.prog 92 = some [.raw .nilFunc] := by kernel_rfl
@[simp] theorem tf_sz93 : tsz Try.prog 93 = some 1 := by kernel_rfl
@[simp] theorem tf_by93 : tby Try.prog 93 = some 8 := by kernel_rfl
@[simp] theorem tf_row93 : trow Try.prog 93 = some false := by kernel_rfl
@[simp] theorem tf_und93 : (Try.prog.underlying 93).isSome = true := by kernel_rfl
@[simp] theorem tf_sl93 : tsl Try.prog 93 = none := by kernel_rfl
@[simp] theorem tf_el93 : tel Try.prog 93 = none := by kernel_rfl
@[simp] theorem tf_int93 : tint Try.prog 93 = none := by kernel_rfl
@[simp] theorem tf_str93 : tstr Try.prog 93 = false := by kernel_rfl
@[simp] theorem tf_bool93 : tbool Try.prog 93 = false := by kernel_rfl
@[simp] theorem tf_ptr93 : tptr Try.prog 93 = false := by kernel_rfl
@[simp] theorem tf_bytes93 : tbytes Try.prog 93 = false := by kernel_rfl
@[simp] theorem tf_zc93 : tzc Try.prog 93 = some [.raw .nilFunc] := by kernel_rfl
@[simp] theorem tf_sz94 : tsz Try.prog 94 = some 1 := by kernel_rfl
@[simp] theorem tf_by94 : tby Try.prog 94 = some 8 := by kernel_rfl
@[simp] theorem tf_row94 : trow Try.prog 94 = some false := by kernel_rfl
@[simp] theorem tf_und94 : (Try.prog.underlying 94).isSome = true := by kernel_rfl
@[simp] theorem tf_sl94 : tsl Try.prog 94 = none := by kernel_rfl
@[simp] theorem tf_el94 : tel Try.prog 94 = none := by kernel_rfl
@[simp] theorem tf_int94 : tint Try.prog 94 = none := by kernel_rfl
@[simp] theorem tf_str94 : tstr Try.prog 94 = false := by kernel_rfl
@[simp] theorem tf_bool94 : tbool Try.prog 94 = false := by kernel_rfl
@[simp] theorem tf_ptr94 : tptr Try.prog 94 = false := by kernel_rfl
@[simp] theorem tf_bytes94 : tbytes Try.prog 94 = false := by kernel_rfl
@[simp] theorem tf_zc94 : tzc Try.prog 94 = some [.raw .nilFunc] := by kernel_rfl
@[simp] theorem tf_sz95 : tsz Try.prog 95 = some 1 := by kernel_rfl
@[simp] theorem tf_by95 : tby Try.prog 95 = some 8 := by kernel_rfl
@[simp] theorem tf_row95 : trow Try.prog 95 = some false := by kernel_rfl
@[simp] theorem tf_und95 : (Try.prog.underlying 95).isSome = true := by kernel_rfl
@[simp] theorem tf_sl95 : tsl Try.prog 95 = none := by kernel_rfl
@[simp] theorem tf_el95 : tel Try.prog 95 = none := by kernel_rfl
@[simp] theorem tf_int95 : tint Try.prog 95 = none := by kernel_rfl
@[simp] theorem tf_str95 : tstr Try.prog 95 = false := by kernel_rfl
@[simp] theorem tf_bool95 : tbool Try.prog 95 = false := by kernel_rfl
@[simp] theorem tf_ptr95 : tptr Try.prog 95 = false := by kernel_rfl
@[simp] theorem tf_bytes95 : tbytes Try.prog 95 = false := by kernel_rfl
@[simp] theorem tf_zc95 : tzc Try.prog 95 = some [.raw .nilFunc] := by kernel_rfl
@[simp] theorem tf_sz96 : tsz Try.prog 96 = some 5 := by kernel_rfl
@[simp] theorem tf_by96 : tby Try.prog 96 = some 16 := by kernel_rfl
@[simp] theorem tf_row96 : trow Try.prog 96 = some true := by kernel_rfl
@[simp] theorem tf_und96 : (Try.prog.underlying 96).isSome = true := by kernel_rfl
@[simp] theorem tf_sl96 : tsl Try.prog 96 = none := by kernel_rfl
@[simp] theorem tf_el96 : tel Try.prog 96 = none := by kernel_rfl
@[simp] theorem tf_int96 : tint Try.prog 96 = none := by kernel_rfl
@[simp] theorem tf_str96 : tstr Try.prog 96 = false := by kernel_rfl
@[simp] theorem tf_bool96 : tbool Try.prog 96 = false := by kernel_rfl
@[simp] theorem tf_ptr96 : tptr Try.prog 96 = false := by kernel_rfl
@[simp] theorem tf_bytes96 : tbytes Try.prog 96 = false := by kernel_rfl
@[simp] theorem tf_zc96 : tzc Try.prog 96 = some [.int .i64 0, .bool false, .bool false, .bool false, .bool false] := by kernel_rfl
@[simp] theorem tf_pl96 : tplaces Try.prog 96 = some [(0, 1), (1, 1), (2, 1), (3, 1), (4, 1)] := by kernel_rfl
@[simp] theorem tf_fld96x0 : tfld Try.prog 96 0 = some (0, 1, false) := by kernel_rfl
@[simp] theorem tf_fld96x1 : tfld Try.prog 96 1 = some (1, 1, false) := by kernel_rfl
@[simp] theorem tf_fld96x2 : tfld Try.prog 96 2 = some (2, 1, false) := by kernel_rfl
@[simp] theorem tf_fld96x3 : tfld Try.prog 96 3 = some (3, 1, false) := by kernel_rfl
@[simp] theorem tf_fld96x4 : tfld Try.prog 96 4 = some (4, 1, false) := by kernel_rfl
@[simp] theorem tf_flat96 : tflat Try.prog 96 = some [0, 1, 1, 1, 1] := by kernel_rfl
@[simp] theorem tf_sz97 : tsz Try.prog 97 = some 11 := by kernel_rfl
@[simp] theorem tf_by97 : tby Try.prog 97 = some 64 := by kernel_rfl
@[simp] theorem tf_row97 : trow Try.prog 97 = some true := by kernel_rfl
@[simp] theorem tf_und97 : (Try.prog.underlying 97).isSome = true := by kernel_rfl
@[simp] theorem tf_sl97 : tsl Try.prog 97 = none := by kernel_rfl
@[simp] theorem tf_el97 : tel Try.prog 97 = none := by kernel_rfl
@[simp] theorem tf_int97 : tint Try.prog 97 = none := by kernel_rfl
@[simp] theorem tf_str97 : tstr Try.prog 97 = false := by kernel_rfl
@[simp] theorem tf_bool97 : tbool Try.prog 97 = false := by kernel_rfl
@[simp] theorem tf_ptr97 : tptr Try.prog 97 = false := by kernel_rfl
@[simp] theorem tf_bytes97 : tbytes Try.prog 97 = false := by kernel_rfl
@[simp] theorem tf_zc97 : tzc Try.prog 97 = some [.str [], .str [], .int .i64 0, .bool false, .bool false, .bool false, .bool false, .bool false, .bool false, .int .i64 0, .int .i64 0] := by kernel_rfl
@[simp] theorem tf_pl97 : tplaces Try.prog 97 = some [(0, 1), (1, 1), (2, 1), (3, 1), (4, 1), (5, 1), (6, 1), (7, 1), (8, 1), (9, 1), (10, 1)] := by kernel_rfl
@[simp] theorem tf_fld97x0 : tfld Try.prog 97 0 = some (0, 1, false) := by kernel_rfl
@[simp] theorem tf_fld97x1 : tfld Try.prog 97 1 = some (1, 1, false) := by kernel_rfl
@[simp] theorem tf_fld97x2 : tfld Try.prog 97 2 = some (2, 1, false) := by kernel_rfl
@[simp] theorem tf_fld97x3 : tfld Try.prog 97 3 = some (3, 1, false) := by kernel_rfl
@[simp] theorem tf_fld97x4 : tfld Try.prog 97 4 = some (4, 1, false) := by kernel_rfl
@[simp] theorem tf_fld97x5 : tfld Try.prog 97 5 = some (5, 1, false) := by kernel_rfl
@[simp] theorem tf_fld97x6 : tfld Try.prog 97 6 = some (6, 1, false) := by kernel_rfl
@[simp] theorem tf_fld97x7 : tfld Try.prog 97 7 = some (7, 1, false) := by kernel_rfl
@[simp] theorem tf_fld97x8 : tfld Try.prog 97 8 = some (8, 1, false) := by kernel_rfl
@[simp] theorem tf_fld97x9 : tfld Try.prog 97 9 = some (9, 1, false) := by kernel_rfl
@[simp] theorem tf_fld97x10 : tfld Try.prog 97 10 = some (10, 1, false) := by kernel_rfl
@[simp] theorem tf_flat97 : tflat Try.prog 97 = some [2, 2, 0, 1, 1, 1, 1, 1, 1, 0, 0] := by kernel_rfl
@[simp] theorem tf_sz98 : tsz Try.prog 98 = some 11 := by kernel_rfl
@[simp] theorem tf_by98 : tby Try.prog 98 = some 64 := by kernel_rfl
@[simp] theorem tf_row98 : trow Try.prog 98 = some true := by kernel_rfl
@[simp] theorem tf_und98 : (Try.prog.underlying 98).isSome = true := by kernel_rfl
@[simp] theorem tf_sl98 : tsl Try.prog 98 = none := by kernel_rfl
@[simp] theorem tf_el98 : tel Try.prog 98 = none := by kernel_rfl
@[simp] theorem tf_int98 : tint Try.prog 98 = none := by kernel_rfl
@[simp] theorem tf_str98 : tstr Try.prog 98 = false := by kernel_rfl
@[simp] theorem tf_bool98 : tbool Try.prog 98 = false := by kernel_rfl
@[simp] theorem tf_ptr98 : tptr Try.prog 98 = false := by kernel_rfl
@[simp] theorem tf_bytes98 : tbytes Try.prog 98 = false := by kernel_rfl
@[simp] theorem tf_zc98 : tzc Try.prog 98 = some [.str [], .str [], .int .i64 0, .bool false, .bool false, .bool false, .bool false, .bool false, .bool false, .int .i64 0, .int .i64 0] := by kernel_rfl
@[simp] theorem tf_pl98 : tplaces Try.prog 98 = some [(0, 1), (1, 1), (2, 1), (3, 1), (4, 1), (5, 1), (6, 1), (7, 1), (8, 1), (9, 1), (10, 1)] := by kernel_rfl
@[simp] theorem tf_fld98x0 : tfld Try.prog 98 0 = some (0, 1, false) := by kernel_rfl
@[simp] theorem tf_fld98x1 : tfld Try.prog 98 1 = some (1, 1, false) := by kernel_rfl
@[simp] theorem tf_fld98x2 : tfld Try.prog 98 2 = some (2, 1, false) := by kernel_rfl
@[simp] theorem tf_fld98x3 : tfld Try.prog 98 3 = some (3, 1, false) := by kernel_rfl
@[simp] theorem tf_fld98x4 : tfld Try.prog 98 4 = some (4, 1, false) := by kernel_rfl
@[simp] theorem tf_fld98x5 : tfld Try.prog 98 5 = some (5, 1, false) := by kernel_rfl
@[simp] theorem tf_fld98x6 : tfld Try.prog 98 6 = some (6, 1, false) := by kernel_rfl
@[simp] theorem tf_fld98x7 : tfld Try.prog 98 7 = some (7, 1, false) := by kernel_rfl
@[simp] theorem tf_fld98x8 : tfld Try.prog 98 8 = some (8, 1, false) := by kernel_rfl
@[simp] theorem tf_fld98x9 : tfld Try.prog 98 9 = some (9, 1, false) := by kernel_rfl
@[simp] theorem tf_fld98x10 : tfld Try.prog 98 10 = some (10, 1, false) := by kernel_rfl
@[simp] theorem tf_flat98 : tflat Try.prog 98 = some [2, 2, 0, 1, 1, 1, 1, 1, 1, 0, 0] := by kernel_rfl
@[simp] theorem tf_sz99 : tsz Try.prog 99 = some 1 := by kernel_rfl
@[simp] theorem tf_by99 : tby Try.prog 99 = some 8 := by kernel_rfl
@[simp] theorem tf_row99 : trow Try.prog 99 = some false := by kernel_rfl
@[simp] theorem tf_und99 : (Try.prog.underlying 99).isSome = true := by kernel_rfl
@[simp] theorem tf_sl99 : tsl Try.prog 99 = none := by kernel_rfl
@[simp] theorem tf_el99 : tel Try.prog 99 = none := by kernel_rfl
@[simp] theorem tf_int99 : tint Try.prog 99 = none := by kernel_rfl
@[simp] theorem tf_str99 : tstr Try.prog 99 = false := by kernel_rfl
@[simp] theorem tf_bool99 : tbool Try.prog 99 = false := by kernel_rfl
@[simp] theorem tf_ptr99 : tptr Try.prog 99 = false := by kernel_rfl
@[simp] theorem tf_bytes99 : tbytes Try.prog 99 = false := by kernel_rfl
@[simp] theorem tf_zc99 : tzc Try.prog 99 = some [.raw .nilFunc] := by kernel_rfl
@[simp] theorem tf_sz100 : tsz Try.prog 100 = some 7 := by kernel_rfl
@[simp] theorem tf_by100 : tby Try.prog 100 = some 56 := by kernel_rfl
@[simp] theorem tf_row100 : trow Try.prog 100 = some true := by kernel_rfl
@[simp] theorem tf_und100 : (Try.prog.underlying 100).isSome = true := by kernel_rfl
@[simp] theorem tf_sl100 : tsl Try.prog 100 = none := by kernel_rfl
@[simp] theorem tf_el100 : tel Try.prog 100 = none := by kernel_rfl
@[simp] theorem tf_int100 : tint Try.prog 100 = none := by kernel_rfl
@[simp] theorem tf_str100 : tstr Try.prog 100 = false := by kernel_rfl
@[simp] theorem tf_bool100 : tbool Try.prog 100 = false := by kernel_rfl
@[simp] theorem tf_ptr100 : tptr Try.prog 100 = false := by kernel_rfl
@[simp] theorem tf_bytes100 : tbytes Try.prog 100 = false := by kernel_rfl
@[simp] theorem tf_zc100 : tzc Try.prog 100 = some [.raw .nilFunc, .raw .nilFunc, .raw .nilFunc, .raw .nilFunc, .raw .nilFunc, .raw .nilFunc, .raw .nilFunc] := by kernel_rfl
@[simp] theorem tf_arr100 : tarr Try.prog 100 = some (7, 1, false) := by kernel_rfl
@[simp] theorem tf_pl100 : tplaces Try.prog 100 = some [(0, 1), (1, 1), (2, 1), (3, 1), (4, 1), (5, 1), (6, 1)] := by kernel_rfl
@[simp] theorem tf_sz101 : tsz Try.prog 101 = some 1 := by kernel_rfl
@[simp] theorem tf_by101 : tby Try.prog 101 = some 8 := by kernel_rfl
@[simp] theorem tf_row101 : trow Try.prog 101 = some false := by kernel_rfl
@[simp] theorem tf_und101 : (Try.prog.underlying 101).isSome = true := by kernel_rfl
@[simp] theorem tf_sl101 : tsl Try.prog 101 = none := by kernel_rfl
@[simp] theorem tf_el101 : tel Try.prog 101 = none := by kernel_rfl
@[simp] theorem tf_int101 : tint Try.prog 101 = none := by kernel_rfl
@[simp] theorem tf_str101 : tstr Try.prog 101 = false := by kernel_rfl
@[simp] theorem tf_bool101 : tbool Try.prog 101 = false := by kernel_rfl
@[simp] theorem tf_ptr101 : tptr Try.prog 101 = true := by kernel_rfl
@[simp] theorem tf_bytes101 : tbytes Try.prog 101 = false := by kernel_rfl
@[simp] theorem tf_zc101 : tzc Try.prog 101 = some [.ptr none] := by kernel_rfl
@[simp] theorem tf_sz102 : tsz Try.prog 102 = some 1 := by kernel_rfl
@[simp] theorem tf_by102 : tby Try.prog 102 = some 8 := by kernel_rfl
@[simp] theorem tf_row102 : trow Try.prog 102 = some false := by kernel_rfl
@[simp] theorem tf_und102 : (Try.prog.underlying 102).isSome = true := by kernel_rfl
@[simp] theorem tf_sl102 : tsl Try.prog 102 = none := by kernel_rfl
@[simp] theorem tf_el102 : tel Try.prog 102 = none := by kernel_rfl
@[simp] theorem tf_int102 : tint Try.prog 102 = none := by kernel_rfl
@[simp] theorem tf_str102 : tstr Try.prog 102 = false := by kernel_rfl
@[simp] theorem tf_bool102 : tbool Try.prog 102 = false := by kernel_rfl
@[simp] theorem tf_ptr102 : tptr Try.prog 102 = false := by kernel_rfl
@[simp] theorem tf_bytes102 : tbytes Try.prog 102 = false := by kernel_rfl
@[simp] theorem tf_zc102 : tzc Try.prog 102 = some [.raw .nilFunc] := by kernel_rfl
@[simp] theorem tf_sz103 : tsz Try.prog 103 = some 1 := by kernel_rfl
@[simp] theorem tf_by103 : tby Try.prog 103 = some 8 := by kernel_rfl
@[simp] theorem tf_row103 : trow Try.prog 103 = some false := by kernel_rfl
@[simp] theorem tf_und103 : (Try.prog.underlying 103).isSome = true := by kernel_rfl
@[simp] theorem tf_sl103 : tsl Try.prog 103 = none := by kernel_rfl
@[simp] theorem tf_el103 : tel Try.prog 103 = none := by kernel_rfl
@[simp] theorem tf_int103 : tint Try.prog 103 = none := by kernel_rfl
@[simp] theorem tf_str103 : tstr Try.prog 103 = false := by kernel_rfl
@[simp] theorem tf_bool103 : tbool Try.prog 103 = false := by kernel_rfl
@[simp] theorem tf_ptr103 : tptr Try.prog 103 = false := by kernel_rfl
@[simp] theorem tf_bytes103 : tbytes Try.prog 103 = false := by kernel_rfl
@[simp] theorem tf_zc103 : tzc Try.prog 103 = some [.raw .nilFunc] := by kernel_rfl
@[simp] theorem tf_sz104 : tsz Try.prog 104 = some 1 := by kernel_rfl
@[simp] theorem tf_by104 : tby Try.prog 104 = some 8 := by kernel_rfl
@[simp] theorem tf_row104 : trow Try.prog 104 = some false := by kernel_rfl
@[simp] theorem tf_und104 : (Try.prog.underlying 104).isSome = true := by kernel_rfl
@[simp] theorem tf_sl104 : tsl Try.prog 104 = none := by kernel_rfl
@[simp] theorem tf_el104 : tel Try.prog 104 = none := by kernel_rfl
@[simp] theorem tf_int104 : tint Try.prog 104 = none := by kernel_rfl
@[simp] theorem tf_str104 : tstr Try.prog 104 = false := by kernel_rfl
@[simp] theorem tf_bool104 : tbool Try.prog 104 = false := by kernel_rfl
@[simp] theorem tf_ptr104 : tptr Try.prog 104 = false := by kernel_rfl
@[simp] theorem tf_bytes104 : tbytes Try.prog 104 = false := by kernel_rfl
@[simp] theorem tf_zc104 : tzc Try.prog 104 = some [.raw .nilFunc] := by kernel_rfl
@[simp] theorem tf_sz105 : tsz Try.prog 105 = some 1 := by kernel_rfl
@[simp] theorem tf_by105 : tby Try.prog 105 = some 8 := by kernel_rfl
@[simp] theorem tf_row105 : trow Try.prog 105 = some false := by kernel_rfl
@[simp] theorem tf_und105 : (Try.prog.underlying 105).isSome = true := by kernel_rfl
@[simp] theorem tf_sl105 : tsl Try.prog 105 = none := by kernel_rfl
@[simp] theorem tf_el105 : tel Try.prog 105 = none := by kernel_rfl
@[simp] theorem tf_int105 : tint Try.prog 105 = none := by kernel_rfl
@[simp] theorem tf_str105 : tstr Try.prog 105 = false := by kernel_rfl
@[simp] theorem tf_bool105 : tbool Try.prog 105 = false := by kernel_rfl
@[simp] theorem tf_ptr105 : tptr Try.prog 105 = false := by kernel_rfl
@[simp] theorem tf_bytes105 : tbytes Try.prog 105 = false := by kernel_rfl
@[simp] theorem tf_zc105 : tzc Try.prog 105 = some [.raw .nilFunc] := by kernel_rfl
@[simp] theorem tf_sz106 : tsz Try.prog 106 = some 1 := by kernel_rfl
@[simp] theorem tf_by106 : tby Try.prog 106 = some 8 := by kernel_rfl
@[simp] theorem tf_row106 : trow Try.prog 106 = some false := by kernel_rfl
@[simp] theorem tf_und106 : (Try.prog.underlying 106).isSome = true := by kernel_rfl
@[simp] theorem tf_sl106 : tsl Try.prog 106 = none := by kernel_rfl
@[simp] theorem tf_el106 : tel Try.prog 106 = none := by kernel_rfl
@[simp] theorem tf_int106 : tint Try.prog 106 = none := by kernel_rfl
@[simp] theorem tf_str106 : tstr Try.prog 106 = false := by kernel_rfl
@[simp] theorem tf_bool106 : tbool Try.prog 106 = false := by kernel_rfl
@[simp] theorem tf_ptr106 : tptr Try.prog 106 = false := by kernel_rfl
@[simp] theorem tf_bytes106 : tbytes Try.prog 106 = false := by kernel_rfl
@[simp] theorem tf_zc106 : tzc Try.prog 106 = some [.raw .nilFunc] := by kernel_rfl
@[simp] theorem tf_sz107 : tsz Try.prog 107 = some 4 := by kernel_rfl
@[simp] theorem tf_by107 : tby Try.prog 107 = some 40 := by kernel_rfl
@[simp] theorem tf_row107 : trow Try.prog 107 = some true := by kernel_rfl
@[simp] theorem tf_und107 : (Try.prog.underlying 107).isSome = true := by kernel_rfl
@[simp] theorem tf_sl107 : tsl Try.prog 107 = none := by kernel_rfl
@[simp] theorem tf_el107 : tel Try.prog 107 = none := by kernel_rfl
@[simp] theorem tf_int107 : tint Try.prog 107 = none := by kernel_rfl
@[simp] theorem tf_str107 : tstr Try.prog 107 = false := by kernel_rfl
@[simp] theorem tf_bool107 : tbool Try.prog 107 = false := by kernel_rfl
@[simp] theorem tf_ptr107 : tptr Try.prog 107 = false := by kernel_rfl
@[simp] theorem tf_bytes107 : tbytes Try.prog 107 = false := by kernel_rfl
@[simp] theorem tf_zc107 : tzc Try.prog 107 = some [.ptr none, .ptr none, .ptr none, .str []] := by kernel_rfl
@[simp] theorem tf_pl107 : tplaces Try.prog 107 = some [(0, 1), (1, 1), (2, 1), (3, 1)] := by kernel_rfl
@[simp] theorem tf_fld107x0 : tfld Try.prog 107 0 = some (0, 1, false) := by kernel_rfl
@[simp] theorem tf_fld107x1 : tfld Try.prog 107 1 = some (1, 1, false) := by kernel_rfl
@[simp] theorem tf_fld107x2 : tfld Try.prog 107 2 = some (2, 1, false) := by kernel_rfl
@[simp] theorem tf_fld107x3 : tfld Try.prog 107 3 = some (3, 1, false) := by kernel_rfl
@[simp] theorem tf_sz108 : tsz Try.prog 108 = some 4 := by kernel_rfl
@[simp] theorem tf_by108 : tby Try.prog 108 = some 40 := by kernel_rfl
@[simp] theorem tf_row108 : trow Try.prog 108 = some true := by kernel_rfl
@[simp] theorem tf_und108 : (Try.prog.underlying 108).isSome = true := by kernel_rfl
@[simp] theorem tf_sl108 : tsl Try.prog 108 = none := by kernel_rfl
@[simp] theorem tf_el108 : tel Try.prog 108 = none := by kernel_rfl
@[simp] theorem tf_int108 : tint Try.prog 108 = none := by kernel_rfl
@[simp] theorem tf_str108 : tstr Try.prog 108 = false := by kernel_rfl
@[simp] theorem tf_bool108 : tbool Try.prog 108 = false := by kernel_rfl
@[simp] theorem tf_ptr108 : tptr Try.prog 108 = false := by kernel_rfl
@[simp] theorem tf_bytes108 : tbytes Try.prog 108 = false := by kernel_rfl
@[simp] theorem tf_zc108 : tzc Try.prog 108 = some [.ptr none, .ptr none, .ptr none, .str []] := by kernel_rfl
@[simp] theorem tf_pl108 : tplaces Try.prog 108 = some [(0, 1), (1, 1), (2, 1), (3, 1)] := by kernel_rfl
@[simp] theorem tf_fld108x0 : tfld Try.prog 108 0 = some (0, 1, false) := by kernel_rfl
@[simp] theorem tf_fld108x1 : tfld Try.prog 108 1 = some (1, 1, false) := by kernel_rfl
@[simp] theorem tf_fld108x2 : tfld Try.prog 108 2 = some (2, 1, false) := by kernel_rfl
@[simp] theorem tf_fld108x3 : tfld Try.prog 108 3 = some (3, 1, false) := by kernel_rfl
@[simp] theorem tf_sz109 : tsz Try.prog 109 = some 0 := by kernel_rfl
@[simp] theorem tf_by109 : tby Try.prog 109 = some 0 := by kernel_rfl
@[simp] theorem tf_row109 : trow Try.prog 109 = some true := by kernel_rfl
@[simp] theorem tf_und109 : (Try.prog.underlying 109).isSome = true := by kernel_rfl
@[simp] theorem tf_sl109 : tsl Try.prog 109 = none := by kernel_rfl
@[simp] theorem tf_el109 : tel Try.prog 109 = none := by kernel_rfl
@[simp] theorem tf_int109 : tint Try.prog 109 = none := by kernel_rfl
@[simp] theorem tf_str109 : tstr Try.prog 109 = false := by kernel_rfl
@[simp] theorem tf_bool109 : tbool Try.prog 109 = false := by kernel_rfl
@[simp] theorem tf_ptr109 : tptr Try.prog 109 = false := by kernel_rfl
@[simp] theorem tf_bytes109 : tbytes Try.prog 109 = false := by kernel_rfl
@[simp] theorem tf_zc109 : tzc Try.prog 109 = some [] := by kernel_rfl
@[simp] theorem tf_arr109 : tarr Try.prog 109 = some (0, 1, false) := by kernel_rfl
@[simp] theorem tf_pl109 : tplaces Try.prog 109 = some [] := by kernel_rfl
@[simp] theorem tf_sz110 : tsz Try.prog 110 = some 0 := by kernel_rfl
@[simp] theorem tf_by110 : tby Try.prog 110 = some 0 := by kernel_rfl
@[simp] theorem tf_row110 : trow Try.prog 110 = some true := by kernel_rfl
@[simp] theorem tf_und110 : (Try.prog.underlying 110).isSome = true := by kernel_rfl
@[simp] theorem tf_sl110 : tsl Try.prog 110 = none := by kernel_rfl
@[simp] theorem tf_el110 : tel Try.prog 110 = none := by kernel_rfl
@[simp] theorem tf_int110 : tint Try.prog 110 = none := by kernel_rfl
@[simp] theorem tf_str110 : tstr Try.prog 110 = false := by kernel_rfl
@[simp] theorem tf_bool110 : tbool Try.prog 110 = false := by kernel_rfl
@[simp] theorem tf_ptr110 : tptr Try.prog 110 = false := by kernel_rfl
@[simp] theorem tf_bytes110 : tbytes Try.prog 110 = false := by kernel_rfl
@[simp] theorem tf_zc110 : tzc Try.prog 110 = some [] := by kernel_rfl
@[simp] theorem tf_pl110 : tplaces Try.prog 110 = some [(0, 0)] := by kernel_rfl
@[simp] theorem tf_sz111 : tsz Try.prog 111 = some 0 := by kernel_rfl
@[simp] theorem tf_by111 : tby Try.prog 111 = some 0 := by kernel_rfl
@[simp] theorem tf_row111 : trow Try.prog 111 = some true := by kernel_rfl
@[simp] theorem tf_und111 : (Try.prog.underlying 111).isSome = true := by kernel_rfl
@[simp] theorem tf_sl111 : tsl Try.prog 111 = none := by kernel_rfl
@[simp] theorem tf_el111 : tel Try.prog 111 = none := by kernel_rfl
@[simp] theorem tf_int111 : tint Try.prog 111 = none := by kernel_rfl
@[simp] theorem tf_str111 : tstr Try.prog 111 = false := by kernel_rfl
@[simp] theorem tf_bool111 : tbool Try.prog 111 = false := by kernel_rfl
@[simp] theorem tf_ptr111 : tptr Try.prog 111 = false := by kernel_rfl
@[simp] theorem tf_bytes111 : tbytes Try.prog 111 = false := by kernel_rfl
@[simp] theorem tf_zc111 : tzc Try.prog 111 = some [] := by kernel_rfl
@[simp] theorem tf_pl111 : tplaces Try.prog 111 = some [(0, 0)] := by kernel_rfl
@[simp] theorem tf_sz112 : tsz Try.prog 112 = some 1 := by kernel_rfl
@[simp] theorem tf_by112 : tby Try.prog 112 = some 4 := by kernel_rfl
@[simp] theorem tf_row112 : trow Try.prog 112 = some false := by kernel_rfl
@[simp] theorem tf_und112 : (Try.prog.underlying 112).isSome = true := by kernel_rfl
@[simp] theorem tf_sl112 : tsl Try.prog 112 = none := by kernel_rfl
@[simp] theorem tf_el112 : tel Try.prog 112 = none := by kernel_rfl
@[simp] theorem tf_int112 : tint Try.prog 112 = some .u32 := by kernel_rfl
@[simp] theorem tf_str112 : tstr Try.prog 112 = false := by kernel_rfl
@[simp] theorem tf_bool112 : tbool Try.prog 112 = false := by kernel_rfl
@[simp] theorem tf_ptr112 : tptr Try.prog 112 = false := by kernel_rfl
@[simp] theorem tf_bytes112 : tbytes Try.prog 112 = false := by kernel_rfl
@[simp] theorem tf_zc112 : tzc Try.prog 112 = some [.int .u32 0] := by kernel_rfl
@[simp] theorem tf_sz113 : tsz Try.prog 113 = some 1 := by kernel_rfl
@[simp] theorem tf_by113 : tby Try.prog 113 = some 1 := by kernel_rfl
@[simp] theorem tf_row113 : trow Try.prog 113 = some false := by kernel_rfl
@[simp] theorem tf_und113 : (Try.prog.underlying 113).isSome = true := by kernel_rfl
@[simp] theorem tf_sl113 : tsl Try.prog 113 = none := by kernel_rfl
@[simp] theorem tf_el113 : tel Try.prog 113 = none := by kernel_rfl
@[simp] theorem tf_int113 : tint Try.prog 113 = some .u8 := by kernel_rfl
@[simp] theorem tf_str113 : tstr Try.prog 113 = false := by kernel_rfl
@[simp] theorem tf_bool113 : tbool Try.prog 113 = false := by kernel_rfl
@[simp] theorem tf_ptr113 : tptr Try.prog 113 = false := by kernel_rfl
@[simp] theorem tf_bytes113 : tbytes Try.prog 113 = false := by kernel_rfl
@[simp] theorem tf_zc113 : tzc Try.prog 113 = some [.int .u8 0] := by kernel_rfl
@[simp] theorem tf_sz114 : tsz Try.prog 114 = some 1 := by kernel_rfl
@[simp] theorem tf_by114 : tby Try.prog 114 = some 1 := by kernel_rfl
@[simp] theorem tf_row114 : trow Try.prog 114 = some false := by kernel_rfl
@[simp] theorem tf_und114 : (Try.prog.underlying 114).isSome = true := by kernel_rfl
@[simp] theorem tf_sl114 : tsl Try.prog 114 = none := by kernel_rfl
@[simp] theorem tf_el114 : tel Try.prog 114 = none := by kernel_rfl
@[simp] theorem tf_int114 : tint Try.prog 114 = some .u8 := by kernel_rfl
@[simp] theorem tf_str114 : tstr Try.prog 114 = false := by kernel_rfl
@[simp] theorem tf_bool114 : tbool Try.prog 114 = false := by kernel_rfl
@[simp] theorem tf_ptr114 : tptr Try.prog 114 = false := by kernel_rfl
@[simp] theorem tf_bytes114 : tbytes Try.prog 114 = false := by kernel_rfl
@[simp] theorem tf_zc114 : tzc Try.prog 114 = some [.int .u8 0] := by kernel_rfl
@[simp] theorem tf_sz115 : tsz Try.prog 115 = some 1 := by kernel_rfl
@[simp] theorem tf_by115 : tby Try.prog 115 = some 8 := by kernel_rfl
@[simp] theorem tf_row115 : trow Try.prog 115 = some false := by kernel_rfl
@[simp] theorem tf_und115 : (Try.prog.underlying 115).isSome = true := by kernel_rfl
@[simp] theorem tf_sl115 : tsl Try.prog 115 = none := by kernel_rfl
@[simp] theorem tf_el115 : tel Try.prog 115 = none := by kernel_rfl
@[simp] theorem tf_int115 : tint Try.prog 115 = none := by kernel_rfl
@[simp] theorem tf_str115 : tstr Try.prog 115 = false := by kernel_rfl
@[simp] theorem tf_bool115 : tbool Try.prog 115 = false := by kernel_rfl
@[simp] theorem tf_ptr115 : tptr Try.prog 115 = false := by kernel_rfl
@[simp] theorem tf_bytes115 : tbytes Try.prog 115 = false := by kernel_rfl
@[simp] theorem tf_zc115 : tzc Try.prog 115 = some [.raw .nilFunc] := by kernel_rfl
@[simp] theorem tf_sz116 : tsz Try.prog 116 = some 1 := by kernel_rfl
@[simp] theorem tf_by116 : tby Try.prog 116 = some 8 := by kernel_rfl
@[simp] theorem tf_row116 : trow Try.prog 116 = some false := by kernel_rfl
@[simp] theorem tf_und116 : (Try.prog.underlying 116).isSome = true := by kernel_rfl
@[simp] theorem tf_sl116 : tsl Try.prog 116 = none := by kernel_rfl
@[simp] theorem tf_el116 : tel Try.prog 116 = none := by kernel_rfl
@[simp] theorem tf_int116 : tint Try.prog 116 = none := by kernel_rfl
@[simp] theorem tf_str116 : tstr Try.prog 116 = false := by kernel_rfl
@[simp] theorem tf_bool116 : tbool Try.prog 116 = false := by kernel_rfl
@[simp] theorem tf_ptr116 : tptr Try.prog 116 = true := by kernel_rfl
@[simp] theorem tf_bytes116 : tbytes Try.prog 116 = false := by kernel_rfl
@[simp] theorem tf_zc116 : tzc Try.prog 116 = some [.ptr none] := by kernel_rfl
@[simp] theorem tf_sz117 : tsz Try.prog 117 = some 1 := by kernel_rfl
@[simp] theorem tf_by117 : tby Try.prog 117 = some 4 := by kernel_rfl
@[simp] theorem tf_row117 : trow Try.prog 117 = some false := by kernel_rfl
@[simp] theorem tf_und117 : (Try.prog.underlying 117).isSome = true := by kernel_rfl
@[simp] theorem tf_sl117 : tsl Try.prog 117 = none := by kernel_rfl
@[simp] theorem tf_el117 : tel Try.prog 117 = none := by kernel_rfl
@[simp] theorem tf_int117 : tint Try.prog 117 = some .i32 := by kernel_rfl
@[simp] theorem tf_str117 : tstr Try.prog 117 = false := by kernel_rfl
@[simp] theorem tf_bool117 : tbool Try.prog 117 = false := by kernel_rfl
@[simp] theorem tf_ptr117 : tptr Try.prog 117 = false := by kernel_rfl
@[simp] theorem tf_bytes117 : tbytes Try.prog 117 = false := by kernel_rfl
@[simp] theorem tf_zc117 : tzc Try.prog 117 = some [.int .i32 0] := by kernel_rfl
@[simp] theorem tf_sz118 : tsz Try.prog 118 = some 1 := by kernel_rfl
@[simp] theorem tf_by118 : tby Try.prog 118 = some 4 := by kernel_rfl
@[simp] theorem tf_row118 : trow Try.prog 118 = some false := by kernel_rfl
@[simp] theorem tf_und118 : (Try.prog.underlying 118).isSome = true := by kernel_rfl
@[simp] theorem tf_sl118 : tsl Try.prog 118 = none := by kernel_rfl
@[simp] theorem tf_el118 : tel Try.prog 118 = none := by kernel_rfl
@[simp] theorem tf_int118 : tint Try.prog 118 = some .i32 := by kernel_rfl
@[simp] theorem tf_str118 : tstr Try.prog 118 = false := by kernel_rfl
@[simp] theorem tf_bool118 : tbool Try.prog 118 = false := by kernel_rfl
@[simp] theorem tf_ptr118 : tptr Try.prog 118 = false := by kernel_rfl
@[simp] theorem tf_bytes118 : tbytes Try.prog 118 = false := by kernel_rfl
@[simp] theorem tf_zc118 : tzc Try.prog 118 = some [.int .i32 0] := by kernel_rfl
@[simp] theorem tf_sz119 : tsz Try.prog 119 = some 11 := by kernel_rfl
@[simp] theorem tf_by119 : tby Try.prog 119 = some 48 := by kernel_rfl
@[simp] theorem tf_row119 : trow Try.prog 119 = some true := by kernel_rfl
@[simp] theorem tf_und119 : (Try.prog.underlying 119).isSome = true := by kernel_rfl
@[simp] theorem tf_sl119 : tsl Try.prog 119 = none := by kernel_rfl
@[simp] theorem tf_el119 : tel Try.prog 119 = none := by kernel_rfl
@[simp] theorem tf_int119 : tint Try.prog 119 = none := by kernel_rfl
@[simp] theorem tf_str119 : tstr Try.prog 119 = false := by kernel_rfl
@[simp] theorem tf_bool119 : tbool Try.prog 119 = false := by kernel_rfl
@[simp] theorem tf_ptr119 : tptr Try.prog 119 = false := by kernel_rfl
@[simp] theorem tf_bytes119 : tbytes Try.prog 119 = false := by kernel_rfl
@[simp] theorem tf_zc119 : tzc Try.prog 119 = some [.int .u64 0, .int .u64 0, .int .u32 0, .int .u8 0, .int .u8 0, .int .u8 0, .int .u8 0, .raw .nilFunc, .ptr none, .int .i32 0, .int .i32 0] := by kernel_rfl
@[simp] theorem tf_pl119 : tplaces Try.prog 119 = some [(0, 1), (1, 1), (2, 1), (3, 1), (4, 1), (5, 1), (6, 1), (7, 1), (8, 1), (9, 1), (10, 1)] := by kernel_rfl
@[simp] theorem tf_fld119x0 : tfld Try.prog 119 0 = some (0, 1, false) := by kernel_rfl
@[simp] theorem tf_fld119x1 : tfld Try.prog 119 1 = some (1, 1, false) := by kernel_rfl
@[simp] theorem tf_fld119x2 : tfld Try.prog 119 2 = some (2, 1, false) := by kernel_rfl
@[simp] theorem tf_fld119x3 : tfld Try.prog 119 3 = some (3, 1, false) := by kernel_rfl
@[simp] theorem tf_fld119x4 : tfld Try.prog 119 4 = some (4, 1, false) := by kernel_rfl
@[simp] theorem tf_fld119x5 : tfld Try.prog 119 5 = some (5, 1, false) := by kernel_rfl
@[simp] theorem tf_fld119x6 : tfld Try.prog 119 6 = some (6, 1, false) := by kernel_rfl
@[simp] theorem tf_fld119x7 : tfld Try.prog 119 7 = some (7, 1, false) := by kernel_rfl
@[simp] theorem tf_fld119x8 : tfld Try.prog 119 8 = some (8, 1, false) := by kernel_rfl
@[simp] theorem tf_fld119x9 : tfld Try.prog 119 9 = some (9, 1, false) := by kernel_rfl
@[simp] theorem tf_fld119x10 : tfld Try.prog 119 10 = some (10, 1, false) := by kernel_rfl
@[simp] theorem tf_sz120 : tsz Try.prog 120 = some 11 := by kernel_rfl
@[simp] theorem tf_by120 : tby Try.prog 120 = some 48 := by kernel_rfl
@[simp] theorem tf_row120 : trow Try.prog 120 = some true := by kernel_rfl
@[simp] theorem tf_und120 : (Try.prog.underlying 120).isSome = true := by kernel_rfl
@[simp] theorem tf_sl120 : tsl Try.prog 120 = none := by kernel_rfl
@[simp] theorem tf_el120 : tel Try.prog 120 = none := by kernel_rfl
@[simp] theorem tf_int120 : tint Try.prog 120 = none := by kernel_rfl
@[simp] theorem tf_str120 : tstr Try.prog 120 = false := by kernel_rfl
@[simp] theorem tf_bool120 : tbool Try.prog 120 = false := by kernel_rfl
@[simp] theorem tf_ptr120 : tptr Try.prog 120 = false := by kernel_rfl
@[simp] theorem tf_bytes120 : tbytes Try.prog 120 = false := by kernel_rfl
@[simp] theorem tf_zc120 : tzc Try.prog 120 = some [.int .u64 0, .int .u64 0, .int .u32 0, .int .u8 0, .int .u8 0, .int .u8 0, .int .u8 0, .raw .nilFunc, .ptr none, .int .i32 0, .int .i32 0] := by kernel_rfl
@[simp] theorem tf_pl120 : tplaces Try.prog 120 = some [(0, 1), (1, 1), (2, 1), (3, 1), (4, 1), (5, 1), (6, 1), (7, 1), (8, 1), (9, 1), (10, 1)] := by kernel_rfl
@[simp] theorem tf_fld120x0 : tfld Try.prog 120 0 = some (0, 1, false) := by kernel_rfl
@[simp] theorem tf_fld120x1 : tfld Try.prog 120 1 = some (1, 1, false) := by kernel_rfl
@[simp] theorem tf_fld120x2 : tfld Try.prog 120 2 = some (2, 1, false) := by kernel_rfl
@[simp] theorem tf_fld120x3 : tfld Try.prog 120 3 = some (3, 1, false) := by kernel_rfl
@[simp] theorem tf_fld120x4 : tfld Try.prog 120 4 = some (4, 1, false) := by kernel_rfl
@[simp] theorem tf_fld120x5 : tfld Try.prog 120 5 = some (5, 1, false) := by kernel_rfl
@[simp] theorem tf_fld120x6 : tfld Try.prog 120 6 = some (6, 1, false) := by kernel_rfl
@[simp] theorem tf_fld120x7 : tfld Try.prog 120 7 = some (7, 1, false) := by kernel_rfl
@[simp] theorem tf_fld120x8 : tfld Try.prog 120 8 = some (8, 1, false) := by kernel_rfl
@[simp] theorem tf_fld120x9 : tfld Try.prog 120 9 = some (9, 1, false) := by kernel_rfl
@[simp] theorem tf_fld120x10 : tfld Try.prog 120 10 = some (10, 1, false) := by kernel_rfl
end Go.Proofs.Ytgnjdfnjohgnlaa
