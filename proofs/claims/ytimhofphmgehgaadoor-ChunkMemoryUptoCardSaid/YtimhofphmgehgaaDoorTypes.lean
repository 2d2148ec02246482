/- What the types of this program are: closed facts. -/
import Derived.Test.YtimhofphmgehgaaDoorProg
import Derived.Test.YtimhofphmgehgaaDoorAmr
import Derived.KernelRfl
set_option linter.unusedVariables false
namespace Go.Proofs.YtimhofphmgehgaaDoor
open Go
@[simp] theorem tf_sz1 : tsz Tryd.prog 1 = some 1 := by kernel_rfl
@[simp] theorem tf_by1 : tby Tryd.prog 1 = some 8 := by kernel_rfl
@[simp] theorem tf_row1 : trow Tryd.prog 1 = some false := by kernel_rfl
@[simp] theorem tf_und1 : (Tryd.prog.underlying 1).isSome = true := by kernel_rfl
@[simp] theorem tf_sl1 : tsl Tryd.prog 1 = none := by kernel_rfl
@[simp] theorem tf_el1 : tel Tryd.prog 1 = none := by kernel_rfl
@[simp] theorem tf_int1 : tint Tryd.prog 1 = none := by kernel_rfl
@[simp] theorem tf_str1 : tstr Tryd.prog 1 = false := by kernel_rfl
@[simp] theorem tf_bool1 : tbool Tryd.prog 1 = false := by kernel_rfl
@[simp] theorem tf_ptr1 : tptr Tryd.prog 1 = false := by kernel_rfl
@[simp] theorem tf_bytes1 : tbytes Tryd.prog 1 = false := by kernel_rfl
@[simp] theorem tf_zc1 : tzc Tryd.prog 1 = some [.raw .nilFunc] := by kernel_rfl
@[simp] theorem tf_sz2 : tsz Tryd.prog 2 = some 1 := by kernel_rfl
@[simp] theorem tf_by2 : tby Tryd.prog 2 = some 8 := by kernel_rfl
@[simp] theorem tf_row2 : trow Tryd.prog 2 = some false := by kernel_rfl
@[simp] theorem tf_und2 : (Tryd.prog.underlying 2).isSome = true := by kernel_rfl
@[simp] theorem tf_sl2 : tsl Tryd.prog 2 = none := by kernel_rfl
@[simp] theorem tf_el2 : tel Tryd.prog 2 = none := by kernel_rfl
@[simp] theorem tf_int2 : tint Tryd.prog 2 = some .i64 := by kernel_rfl
@[simp] theorem tf_str2 : tstr Tryd.prog 2 = false := by kernel_rfl
@[simp] theorem tf_bool2 : tbool Tryd.prog 2 = false := by kernel_rfl
@[simp] theorem tf_ptr2 : tptr Tryd.prog 2 = false := by kernel_rfl
@[simp] theorem tf_bytes2 : tbytes Tryd.prog 2 = false := by kernel_rfl
@[simp] theorem tf_zc2 : tzc Tryd.prog 2 = some [.int .i64 0] := by kernel_rfl
@[simp] theorem tf_sz3 : tsz Tryd.prog 3 = some 1 := by kernel_rfl
@[simp] theorem tf_by3 : tby Tryd.prog 3 = some 8 := by kernel_rfl
@[simp] theorem tf_row3 : trow Tryd.prog 3 = some false := by kernel_rfl
@[simp] theorem tf_und3 : (Tryd.prog.underlying 3).isSome = true := by kernel_rfl
@[simp] theorem tf_sl3 : tsl Tryd.prog 3 = none := by kernel_rfl
@[simp] theorem tf_el3 : tel Tryd.prog 3 = none := by kernel_rfl
@[simp] theorem tf_int3 : tint Tryd.prog 3 = some .i64 := by kernel_rfl
@[simp] theorem tf_str3 : tstr Tryd.prog 3 = false := by kernel_rfl
@[simp] theorem tf_bool3 : tbool Tryd.prog 3 = false := by kernel_rfl
@[simp] theorem tf_ptr3 : tptr Tryd.prog 3 = false := by kernel_rfl
@[simp] theorem tf_bytes3 : tbytes Tryd.prog 3 = false := by kernel_rfl
@[simp] theorem tf_zc3 : tzc Tryd.prog 3 = some [.int .i64 0] := by kernel_rfl
@[simp] theorem tf_sz4 : tsz Tryd.prog 4 = some 1 := by kernel_rfl
@[simp] theorem tf_by4 : tby Tryd.prog 4 = some 1 := by kernel_rfl
@[simp] theorem tf_row4 : trow Tryd.prog 4 = some false := by kernel_rfl
@[simp] theorem tf_und4 : (Tryd.prog.underlying 4).isSome = true := by kernel_rfl
@[simp] theorem tf_sl4 : tsl Tryd.prog 4 = none := by kernel_rfl
@[simp] theorem tf_el4 : tel Tryd.prog 4 = none := by kernel_rfl
@[simp] theorem tf_int4 : tint Tryd.prog 4 = none := by kernel_rfl
@[simp] theorem tf_str4 : tstr Tryd.prog 4 = false := by kernel_rfl
@[simp] theorem tf_bool4 : tbool Tryd.prog 4 = true := by kernel_rfl
@[simp] theorem tf_ptr4 : tptr Tryd.prog 4 = false := by kernel_rfl
@[simp] theorem tf_bytes4 : tbytes Tryd.prog 4 = false := by kernel_rfl
@[simp] theorem tf_zc4 : tzc Tryd.prog 4 = some [.bool false] := by kernel_rfl
@[simp] theorem tf_sz5 : tsz Tryd.prog 5 = some 1 := by kernel_rfl
@[simp] theorem tf_by5 : tby Tryd.prog 5 = some 1 := by kernel_rfl
@[simp] theorem tf_row5 : trow Tryd.prog 5 = some false := by kernel_rfl
@[simp] theorem tf_und5 : (Tryd.prog.underlying 5).isSome = true := by kernel_rfl
@[simp] theorem tf_sl5 : tsl Tryd.prog 5 = none := by kernel_rfl
@[simp] theorem tf_el5 : tel Tryd.prog 5 = none := by kernel_rfl
@[simp] theorem tf_int5 : tint Tryd.prog 5 = some .u8 := by kernel_rfl
@[simp] theorem tf_str5 : tstr Tryd.prog 5 = false := by kernel_rfl
@[simp] theorem tf_bool5 : tbool Tryd.prog 5 = false := by kernel_rfl
@[simp] theorem tf_ptr5 : tptr Tryd.prog 5 = false := by kernel_rfl
@[simp] theorem tf_bytes5 : tbytes Tryd.prog 5 = false := by kernel_rfl
@[simp] theorem tf_zc5 : tzc Tryd.prog 5 = some [.int .u8 0] := by kernel_rfl
@[simp] theorem tf_sz6 : tsz Tryd.prog 6 = some 1 := by kernel_rfl
@[simp] theorem tf_by6 : tby Tryd.prog 6 = some 1 := by kernel_rfl
@[simp] theorem tf_row6 : trow Tryd.prog 6 = some false := by kernel_rfl
@[simp] theorem tf_und6 : (Tryd.prog.underlying 6).isSome = true := by kernel_rfl
@[simp] theorem tf_sl6 : tsl Tryd.prog 6 = none := by kernel_rfl
@[simp] theorem tf_el6 : tel Tryd.prog 6 = none := by kernel_rfl
@[simp] theorem tf_int6 : tint Tryd.prog 6 = some .u8 := by kernel_rfl
@[simp] theorem tf_str6 : tstr Tryd.prog 6 = false := by kernel_rfl
@[simp] theorem tf_bool6 : tbool Tryd.prog 6 = false := by kernel_rfl
@[simp] theorem tf_ptr6 : tptr Tryd.prog 6 = false := by kernel_rfl
@[simp] theorem tf_bytes6 : tbytes Tryd.prog 6 = false := by kernel_rfl
@[simp] theorem tf_zc6 : tzc Tryd.prog 6 = some [.int .u8 0] := by kernel_rfl
@[simp] theorem tf_sz7 : tsz Tryd.prog 7 = some 4 := by kernel_rfl
@[simp] theorem tf_by7 : tby Tryd.prog 7 = some 24 := by kernel_rfl
@[simp] theorem tf_row7 : trow Tryd.prog 7 = some true := by kernel_rfl
@[simp] theorem tf_und7 : (Tryd.prog.underlying 7).isSome = true := by kernel_rfl
@[simp] theorem tf_sl7 : tsl Tryd.prog 7 = none := by kernel_rfl
@[simp] theorem tf_el7 : tel Tryd.prog 7 = none := by kernel_rfl
@[simp] theorem tf_int7 : tint Tryd.prog 7 = none := by kernel_rfl
@[simp] theorem tf_str7 : tstr Tryd.prog 7 = false := by kernel_rfl
@[simp] theorem tf_bool7 : tbool Tryd.prog 7 = false := by kernel_rfl
@[simp] theorem tf_ptr7 : tptr Tryd.prog 7 = false := by kernel_rfl
@[simp] theorem tf_bytes7 : tbytes Tryd.prog 7 = false := by kernel_rfl
@[simp] theorem tf_zc7 : tzc Tryd.prog 7 = some [.int .i64 0, .int .i64 0, .bool false, .int .u8 0] := by kernel_rfl
@[simp] theorem tf_pl7 : tplaces Tryd.prog 7 = some [(0, 1), (1, 1), (2, 1), (3, 1)] := by kernel_rfl
@[simp] theorem tf_fld7x0 : tfld Tryd.prog 7 0 = some (0, 1, false) := by kernel_rfl
@[simp] theorem tf_fld7x1 : tfld Tryd.prog 7 1 = some (1, 1, false) := by kernel_rfl
@[simp] theorem tf_fld7x2 : tfld Tryd.prog 7 2 = some (2, 1, false) := by kernel_rfl
@[simp] theorem tf_fld7x3 : tfld Tryd.prog 7 3 = some (3, 1, false) := by kernel_rfl
@[simp] theorem tf_sz8 : tsz Tryd.prog 8 = some 4 := by kernel_rfl
@[simp] theorem tf_by8 : tby Tryd.prog 8 = some 24 := by kernel_rfl
@[simp] theorem tf_row8 : trow Tryd.prog 8 = some true := by kernel_rfl
@[simp] theorem tf_und8 : (Tryd.prog.underlying 8).isSome = true := by kernel_rfl
@[simp] theorem tf_sl8 : tsl Tryd.prog 8 = none := by kernel_rfl
@[simp] theorem tf_el8 : tel Tryd.prog 8 = none := by kernel_rfl
@[simp] theorem tf_int8 : tint Tryd.prog 8 = none := by kernel_rfl
@[simp] theorem tf_str8 : tstr Tryd.prog 8 = false := by kernel_rfl
@[simp] theorem tf_bool8 : tbool Tryd.prog 8 = false := by kernel_rfl
@[simp] theorem tf_ptr8 : tptr Tryd.prog 8 = false := by kernel_rfl
@[simp] theorem tf_bytes8 : tbytes Tryd.prog 8 = false := by kernel_rfl
@[simp] theorem tf_zc8 : tzc Tryd.prog 8 = some [.int .i64 0, .int .i64 0, .bool false, .int .u8 0] := by kernel_rfl
@[simp] theorem tf_pl8 : tplaces Tryd.prog 8 = some [(0, 1), (1, 1), (2, 1), (3, 1)] := by kernel_rfl
@[simp] theorem tf_fld8x0 : tfld Tryd.prog 8 0 = some (0, 1, false) := by kernel_rfl
@[simp] theorem tf_fld8x1 : tfld Tryd.prog 8 1 = some (1, 1, false) := by kernel_rfl
@[simp] theorem tf_fld8x2 : tfld Tryd.prog 8 2 = some (2, 1, false) := by kernel_rfl
@[simp] theorem tf_fld8x3 : tfld Tryd.prog 8 3 = some (3, 1, false) := by kernel_rfl
@[simp] theorem tf_sz9 : tsz Tryd.prog 9 = some 1 := by kernel_rfl
@[simp] theorem tf_by9 : tby Tryd.prog 9 = some 16 := by kernel_rfl
@[simp] theorem tf_row9 : trow Tryd.prog 9 = some false := by kernel_rfl
@[simp] theorem tf_und9 : (Tryd.prog.underlying 9).isSome = true := by kernel_rfl
@[simp] theorem tf_sl9 : tsl Tryd.prog 9 = none := by kernel_rfl
@[simp] theorem tf_el9 : tel Tryd.prog 9 = none := by kernel_rfl
@[simp] theorem tf_int9 : tint Tryd.prog 9 = none := by kernel_rfl
@[simp] theorem tf_str9 : tstr Tryd.prog 9 = true := by kernel_rfl
@[simp] theorem tf_bool9 : tbool Tryd.prog 9 = false := by kernel_rfl
@[simp] theorem tf_ptr9 : tptr Tryd.prog 9 = false := by kernel_rfl
@[simp] theorem tf_bytes9 : tbytes Tryd.prog 9 = false := by kernel_rfl
@[simp] theorem tf_zc9 : tzc Tryd.prog 9 = some [.str []] := by kernel_rfl
@[simp] theorem tf_sz10 : tsz Tryd.prog 10 = some 1 := by kernel_rfl
@[simp] theorem tf_by10 : tby Tryd.prog 10 = some 16 := by kernel_rfl
@[simp] theorem tf_row10 : trow Tryd.prog 10 = some false := by kernel_rfl
@[simp] theorem tf_und10 : (Tryd.prog.underlying 10).isSome = true := by kernel_rfl
@[simp] theorem tf_sl10 : tsl Tryd.prog 10 = none := by kernel_rfl
@[simp] theorem tf_el10 : tel Tryd.prog 10 = none := by kernel_rfl
@[simp] theorem tf_int10 : tint Tryd.prog 10 = none := by kernel_rfl
@[simp] theorem tf_str10 : tstr Tryd.prog 10 = true := by kernel_rfl
@[simp] theorem tf_bool10 : tbool Tryd.prog 10 = false := by kernel_rfl
@[simp] theorem tf_ptr10 : tptr Tryd.prog 10 = false := by kernel_rfl
@[simp] theorem tf_bytes10 : tbytes Tryd.prog 10 = false := by kernel_rfl
@[simp] theorem tf_zc10 : tzc Tryd.prog 10 = some [.str []] := by kernel_rfl
@[simp] theorem tf_sz11 : tsz Tryd.prog 11 = some 1 := by kernel_rfl
@[simp] theorem tf_by11 : tby Tryd.prog 11 = some 16 := by kernel_rfl
@[simp] theorem tf_row11 : trow Tryd.prog 11 = some false := by kernel_rfl
@[simp] theorem tf_und11 : (Tryd.prog.underlying 11).isSome = true := by kernel_rfl
@[simp] theorem tf_sl11 : tsl Tryd.prog 11 = none := by kernel_rfl
@[simp] theorem tf_el11 : tel Tryd.prog 11 = none := by kernel_rfl
@[simp] theorem tf_int11 : tint Tryd.prog 11 = none := by kernel_rfl
@[simp] theorem tf_str11 : tstr Tryd.prog 11 = true := by kernel_rfl
@[simp] theorem tf_bool11 : tbool Tryd.prog 11 = false := by kernel_rfl
@[simp] theorem tf_ptr11 : tptr Tryd.prog 11 = false := by kernel_rfl
@[simp] theorem tf_bytes11 : tbytes Tryd.prog 11 = false := by kernel_rfl
@[simp] theorem tf_zc11 : tzc Tryd.prog 11 = some [.str []] := by kernel_rfl
@[simp] theorem tf_sz12 : tsz Tryd.prog 12 = some 1 := by kernel_rfl
@[simp] theorem tf_by12 : tby Tryd.prog 12 = some 8 := by kernel_rfl
@[simp] theorem tf_row12 : trow Tryd.prog 12 = some false := by kernel_rfl
@[simp] theorem tf_und12 : (Tryd.prog.underlying 12).isSome = true := by kernel_rfl
@[simp] theorem tf_sl12 : tsl Tryd.prog 12 = none := by kernel_rfl
@[simp] theorem tf_el12 : tel Tryd.prog 12 = none := by kernel_rfl
@[simp] theorem tf_int12 : tint Tryd.prog 12 = some .u64 := by kernel_rfl
@[simp] theorem tf_str12 : tstr Tryd.prog 12 = false := by kernel_rfl
@[simp] theorem tf_bool12 : tbool Tryd.prog 12 = false := by kernel_rfl
@[simp] theorem tf_ptr12 : tptr Tryd.prog 12 = false := by kernel_rfl
@[simp] theorem tf_bytes12 : tbytes Tryd.prog 12 = false := by kernel_rfl
@[simp] theorem tf_zc12 : tzc Tryd.prog 12 = some [.int .u64 0] := by kernel_rfl
@[simp] theorem tf_sz13 : tsz Tryd.prog 13 = some 2 := by kernel_rfl
@[simp] theorem tf_by13 : tby Tryd.prog 13 = some 24 := by kernel_rfl
@[simp] theorem tf_row13 : trow Tryd.prog 13 = some true := by kernel_rfl
@[simp] theorem tf_und13 : (Tryd.prog.underlying 13).isSome = true := by kernel_rfl
@[simp] theorem tf_sl13 : tsl Tryd.prog 13 = none := by kernel_rfl
@[simp] theorem tf_el13 : tel Tryd.prog 13 = none := by kernel_rfl
@[simp] theorem tf_int13 : tint Tryd.prog 13 = none := by kernel_rfl
@[simp] theorem tf_str13 : tstr Tryd.prog 13 = false := by kernel_rfl
@[simp] theorem tf_bool13 : tbool Tryd.prog 13 = false := by kernel_rfl
@[simp] theorem tf_ptr13 : tptr Tryd.prog 13 = false := by kernel_rfl
@[simp] theorem tf_bytes13 : tbytes Tryd.prog 13 = false := by kernel_rfl
@[simp] theorem tf_zc13 : tzc Tryd.prog 13 = some [.str [], .int .u64 0] := by kernel_rfl
@[simp] theorem tf_pl13 : tplaces Tryd.prog 13 = some [(0, 1), (1, 1)] := by kernel_rfl
@[simp] theorem tf_fld13x0 : tfld Tryd.prog 13 0 = some (0, 1, false) := by kernel_rfl
@[simp] theorem tf_fld13x1 : tfld Tryd.prog 13 1 = some (1, 1, false) := by kernel_rfl
@[simp] theorem tf_sz14 : tsz Tryd.prog 14 = some 2 := by kernel_rfl
@[simp] theorem tf_by14 : tby Tryd.prog 14 = some 24 := by kernel_rfl
@[simp] theorem tf_row14 : trow Tryd.prog 14 = some true := by kernel_rfl
@[simp] theorem tf_und14 : (Tryd.prog.underlying 14).isSome = true := by kernel_rfl
@[simp] theorem tf_sl14 : tsl Tryd.prog 14 = none := by kernel_rfl
@[simp] theorem tf_el14 : tel Tryd.prog 14 = none := by kernel_rfl
@[simp] theorem tf_int14 : tint Tryd.prog 14 = none := by kernel_rfl
@[simp] theorem tf_str14 : tstr Tryd.prog 14 = false := by kernel_rfl
@[simp] theorem tf_bool14 : tbool Tryd.prog 14 = false := by kernel_rfl
@[simp] theorem tf_ptr14 : tptr Tryd.prog 14 = false := by kernel_rfl
@[simp] theorem tf_bytes14 : tbytes Tryd.prog 14 = false := by kernel_rfl
@[simp] theorem tf_zc14 : tzc Tryd.prog 14 = some [.str [], .int .u64 0] := by kernel_rfl
@[simp] theorem tf_pl14 : tplaces Tryd.prog 14 = some [(0, 1), (1, 1)] := by kernel_rfl
@[simp] theorem tf_fld14x0 : tfld Tryd.prog 14 0 = some (0, 1, false) := by kernel_rfl
@[simp] theorem tf_fld14x1 : tfld Tryd.prog 14 1 = some (1, 1, false) := by kernel_rfl
@[simp] theorem tf_sz15 : tsz Tryd.prog 15 = some 1 := by kernel_rfl
@[simp] theorem tf_by15 : tby Tryd.prog 15 = some 8 := by kernel_rfl
@[simp] theorem tf_row15 : trow Tryd.prog 15 = some false := by kernel_rfl
@[simp] theorem tf_und15 : (Tryd.prog.underlying 15).isSome = true := by kernel_rfl
@[simp] theorem tf_sl15 : tsl Tryd.prog 15 = none := by kernel_rfl
@[simp] theorem tf_el15 : tel Tryd.prog 15 = none := by kernel_rfl
@[simp] theorem tf_int15 : tint Tryd.prog 15 = none := by kernel_rfl
@[simp] theorem tf_str15 : tstr Tryd.prog 15 = false := by kernel_rfl
@[simp] theorem tf_bool15 : tbool Tryd.prog 15 = false := by kernel_rfl
@[simp] theorem tf_ptr15 : tptr Tryd.prog 15 = true := by kernel_rfl
@[simp] theorem tf_bytes15 : tbytes Tryd.prog 15 = false := by kernel_rfl
@[simp] theorem tf_zc15 : tzc Tryd.prog 15 = some [.ptr none] := by kernel_rfl
@[simp] theorem tf_sz16 : tsz Tryd.prog 16 = some 1 := by kernel_rfl
@[simp] theorem tf_by16 : tby Tryd.prog 16 = some 8 := by kernel_rfl
@[simp] theorem tf_row16 : trow Tryd.prog 16 = some false := by kernel_rfl
@[simp] theorem tf_und16 : (Tryd.prog.underlying 16).isSome = true := by kernel_rfl
@[simp] theorem tf_sl16 : tsl Tryd.prog 16 = none := by kernel_rfl
@[simp] theorem tf_el16 : tel Tryd.prog 16 = none := by kernel_rfl
@[simp] theorem tf_int16 : tint Tryd.prog 16 = none := by kernel_rfl
@[simp] theorem tf_str16 : tstr Tryd.prog 16 = false := by kernel_rfl
@[simp] theorem tf_bool16 : tbool Tryd.prog 16 = false := by kernel_rfl
@[simp] theorem tf_ptr16 : tptr Tryd.prog 16 = true := by kernel_rfl
@[simp] theorem tf_bytes16 : tbytes Tryd.prog 16 = false := by kernel_rfl
@[simp] theorem tf_zc16 : tzc Tryd.prog 16 = some [.ptr none] := by kernel_rfl
@[simp] theorem tf_sz17 : tsz Tryd.prog 17 = some 1 := by kernel_rfl
@[simp] theorem tf_by17 : tby Tryd.prog 17 = some 8 := by kernel_rfl
@[simp] theorem tf_row17 : trow Tryd.prog 17 = some false := by kernel_rfl
@[simp] theorem tf_und17 : (Tryd.prog.underlying 17).isSome = true := by kernel_rfl
@[simp] theorem tf_sl17 : tsl Tryd.prog 17 = none := by kernel_rfl
@[simp] theorem tf_el17 : tel Tryd.prog 17 = none := by kernel_rfl
@[simp] theorem tf_int17 : tint Tryd.prog 17 = none := by kernel_rfl
@[simp] theorem tf_str17 : tstr Tryd.prog 17 = false := by kernel_rfl
@[simp] theorem tf_bool17 : tbool Tryd.prog 17 = false := by kernel_rfl
@[simp] theorem tf_ptr17 : tptr Tryd.prog 17 = true := by kernel_rfl
@[simp] theorem tf_bytes17 : tbytes Tryd.prog 17 = false := by kernel_rfl
@[simp] theorem tf_zc17 : tzc Tryd.prog 17 = some [.ptr none] := by kernel_rfl
@[simp] theorem tf_sz18 : tsz Tryd.prog 18 = some 1 := by kernel_rfl
@[simp] theorem tf_by18 : tby Tryd.prog 18 = some 8 := by kernel_rfl
@[simp] theorem tf_row18 : trow Tryd.prog 18 = some true := by kernel_rfl
@[simp] theorem tf_und18 : (Tryd.prog.underlying 18).isSome = true := by kernel_rfl
@[simp] theorem tf_sl18 : tsl Tryd.prog 18 = none := by kernel_rfl
@[simp] theorem tf_el18 : tel Tryd.prog 18 = none := by kernel_rfl
@[simp] theorem tf_int18 : tint Tryd.prog 18 = none := by kernel_rfl
@[simp] theorem tf_str18 : tstr Tryd.prog 18 = false := by kernel_rfl
@[simp] theorem tf_bool18 : tbool Tryd.prog 18 = false := by kernel_rfl
@[simp] theorem tf_ptr18 : tptr Tryd.prog 18 = false := by kernel_rfl
@[simp] theorem tf_bytes18 : tbytes Tryd.prog 18 = false := by kernel_rfl
@[simp] theorem tf_zc18 : tzc Tryd.prog 18 = some [.ptr none] := by kernel_rfl
@[simp] theorem tf_pl18 : tplaces Tryd.prog 18 = some [(0, 1)] := by kernel_rfl
@[simp] theorem tf_fld18x0 : tfld Tryd.prog 18 0 = some (0, 1, false) := by kernel_rfl
@[simp] theorem tf_sz19 : tsz Tryd.prog 19 = some 1 := by kernel_rfl
@[simp] theorem tf_by19 : tby Tryd.prog 19 = some 8 := by kernel_rfl
@[simp] theorem tf_row19 : trow Tryd.prog 19 = some true := by kernel_rfl
@[simp] theorem tf_und19 : (Tryd.prog.underlying 19).isSome = true := by kernel_rfl
@[simp] theorem tf_sl19 : tsl Tryd.prog 19 = none := by kernel_rfl
@[simp] theorem tf_el19 : tel Tryd.prog 19 = none := by kernel_rfl
@[simp] theorem tf_int19 : tint Tryd.prog 19 = none := by kernel_rfl
@[simp] theorem tf_str19 : tstr Tryd.prog 19 = false := by kernel_rfl
@[simp] theorem tf_bool19 : tbool Tryd.prog 19 = false := by kernel_rfl
@[simp] theorem tf_ptr19 : tptr Tryd.prog 19 = false := by kernel_rfl
@[simp] theorem tf_bytes19 : tbytes Tryd.prog 19 = false := by kernel_rfl
@[simp] theorem tf_zc19 : tzc Tryd.prog 19 = some [.ptr none] := by kernel_rfl
@[simp] theorem tf_pl19 : tplaces Tryd.prog 19 = some [(0, 1)] := by kernel_rfl
@[simp] theorem tf_fld19x0 : tfld Tryd.prog 19 0 = some (0, 1, false) := by kernel_rfl
@[simp] theorem tf_sz20 : tsz Tryd.prog 20 = some 1 := by kernel_rfl
@[simp] theorem tf_by20 : tby Tryd.prog 20 = some 16 := by kernel_rfl
@[simp] theorem tf_row20 : trow Tryd.prog 20 = some false := by kernel_rfl
@[simp] theorem tf_und20 : (Tryd.prog.underlying 20).isSome = true := by kernel_rfl
@[simp] theorem tf_sl20 : tsl Tryd.prog 20 = none := by kernel_rfl
@[simp] theorem tf_el20 : tel Tryd.prog 20 = none := by kernel_rfl
@[simp] theorem tf_int20 : tint Tryd.prog 20 = none := by kernel_rfl
@[simp] theorem tf_str20 : tstr Tryd.prog 20 = false := by kernel_rfl
@[simp] theorem tf_bool20 : tbool Tryd.prog 20 = false := by kernel_rfl
@[simp] theorem tf_ptr20 : tptr Tryd.prog 20 = false := by kernel_rfl
@[simp] theorem tf_bytes20 : tbytes Tryd.prog 20 = false := by kernel_rfl
@[simp] theorem tf_zc20 : tzc Tryd.prog 20 = some [.raw .nilIface] := by kernel_rfl
@[simp] theorem tf_sz21 : tsz Tryd.prog 21 = some 1 := by kernel_rfl
@[simp] theorem tf_by21 : tby Tryd.prog 21 = some 4 := by kernel_rfl
@[simp] theorem tf_row21 : trow Tryd.prog 21 = some false := by kernel_rfl
@[simp] theorem tf_und21 : (Tryd.prog.underlying 21).isSome = true := by kernel_rfl
@[simp] theorem tf_sl21 : tsl Tryd.prog 21 = none := by kernel_rfl
@[simp] theorem tf_el21 : tel Tryd.prog 21 = none := by kernel_rfl
@[simp] theorem tf_int21 : tint Tryd.prog 21 = some .i32 := by kernel_rfl
@[simp] theorem tf_str21 : tstr Tryd.prog 21 = false := by kernel_rfl
@[simp] theorem tf_bool21 : tbool Tryd.prog 21 = false := by kernel_rfl
@[simp] theorem tf_ptr21 : tptr Tryd.prog 21 = false := by kernel_rfl
@[simp] theorem tf_bytes21 : tbytes Tryd.prog 21 = false := by kernel_rfl
@[simp] theorem tf_zc21 : tzc Tryd.prog 21 = some [.int .i32 0] := by kernel_rfl
@[simp] theorem tf_sz22 : tsz Tryd.prog 22 = some 1 := by kernel_rfl
@[simp] theorem tf_by22 : tby Tryd.prog 22 = some 8 := by kernel_rfl
@[simp] theorem tf_row22 : trow Tryd.prog 22 = some false := by kernel_rfl
@[simp] theorem tf_und22 : (Tryd.prog.underlying 22).isSome = true := by kernel_rfl
@[simp] theorem tf_sl22 : tsl Tryd.prog 22 = none := by kernel_rfl
@[simp] theorem tf_el22 : tel Tryd.prog 22 = none := by kernel_rfl
@[simp] theorem tf_int22 : tint Tryd.prog 22 = none := by kernel_rfl
@[simp] theorem tf_str22 : tstr Tryd.prog 22 = false := by kernel_rfl
@[simp] theorem tf_bool22 : tbool Tryd.prog 22 = false := by kernel_rfl
@[simp] theorem tf_ptr22 : tptr Tryd.prog 22 = false := by kernel_rfl
@[simp] theorem tf_bytes22 : tbytes Tryd.prog 22 = false := by kernel_rfl
@[simp] theorem tf_zc22 : tzc Tryd.prog 22 = some [.raw .nilFunc] := by kernel_rfl
@[simp] theorem tf_sz23 : tsz Tryd.prog 23 = some 1 := by kernel_rfl
@[simp] theorem tf_by23 : tby Tryd.prog 23 = some 24 := by kernel_rfl
@[simp] theorem tf_row23 : trow Tryd.prog 23 = some false := by kernel_rfl
@[simp] theorem tf_und23 : (Tryd.prog.underlying 23).isSome = true := by kernel_rfl
@[simp] theorem tf_sl23 : tsl Tryd.prog 23 = some 66 := by kernel_rfl
@[simp] theorem tf_el23 : tel Tryd.prog 23 = some 3 := by kernel_rfl
@[simp] theorem tf_int23 : tint Tryd.prog 23 = none := by kernel_rfl
@[simp] theorem tf_str23 : tstr Tryd.prog 23 = false := by kernel_rfl
@[simp] theorem tf_bool23 : tbool Tryd.prog 23 = false := by kernel_rfl
@[simp] theorem tf_ptr23 : tptr Tryd.prog 23 = false := by kernel_rfl
@[simp] theorem tf_bytes23 : tbytes Tryd.prog 23 = false := by kernel_rfl
@[simp] theorem tf_zc23 : tzc Tryd.prog 23 = some [.nil] := by kernel_rfl
@[simp] theorem tf_sz24 : tsz Tryd.prog 24 = some 1 := by kernel_rfl
@[simp] theorem tf_by24 : tby Tryd.prog 24 = some 8 := by kernel_rfl
@[simp] theorem tf_row24 : trow Tryd.prog 24 = some false := by kernel_rfl
@[simp] theorem tf_und24 : (Tryd.prog.underlying 24).isSome = true := by kernel_rfl
@[simp] theorem tf_sl24 : tsl Tryd.prog 24 = none := by kernel_rfl
@[simp] theorem tf_el24 : tel Tryd.prog 24 = none := by kernel_rfl
@[simp] theorem tf_int24 : tint Tryd.prog 24 = some .i64 := by kernel_rfl
@[simp] theorem tf_str24 : tstr Tryd.prog 24 = false := by kernel_rfl
@[simp] theorem tf_bool24 : tbool Tryd.prog 24 = false := by kernel_rfl
@[simp] theorem tf_ptr24 : tptr Tryd.prog 24 = false := by kernel_rfl
@[simp] theorem tf_bytes24 : tbytes Tryd.prog 24 = false := by kernel_rfl
@[simp] theorem tf_zc24 : tzc Tryd.prog 24 = some [.int .i64 0] := by kernel_rfl
@[simp] theorem tf_sz26 : tsz Tryd.prog 26 = some 1 := by kernel_rfl
@[simp] theorem tf_by26 : tby Tryd.prog 26 = some 8 := by kernel_rfl
@[simp] theorem tf_row26 : trow Tryd.prog 26 = some false := by kernel_rfl
@[simp] theorem tf_und26 : (Tryd.prog.underlying 26).isSome = true := by kernel_rfl
@[simp] theorem tf_sl26 : tsl Tryd.prog 26 = none := by kernel_rfl
@[simp] theorem tf_el26 : tel Tryd.prog 26 = none := by kernel_rfl
@[simp] theorem tf_int26 : tint Tryd.prog 26 = none := by kernel_rfl
@[simp] theorem tf_str26 : tstr Tryd.prog 26 = false := by kernel_rfl
@[simp] theorem tf_bool26 : tbool Tryd.prog 26 = false := by kernel_rfl
@[simp] theorem tf_ptr26 : tptr Tryd.prog 26 = false := by kernel_rfl
@[simp] theorem tf_bytes26 : tbytes Tryd.prog 26 = false := by kernel_rfl
@[simp] theorem tf_zc26 : tzc Tryd.prog 26 = some [.raw .nilFunc] := by kernel_rfl
@[simp] theorem tf_sz27 : tsz Tryd.prog 27 = some 1 := by kernel_rfl
@[simp] theorem tf_by27 : tby Tryd.prog 27 = some 24 := by kernel_rfl
@[simp] theorem tf_row27 : trow Tryd.prog 27 = some false := by kernel_rfl
@[simp] theorem tf_und27 : (Tryd.prog.underlying 27).isSome = true := by kernel_rfl
@[simp] theorem tf_sl27 : tsl Tryd.prog 27 = some 72 := by kernel_rfl
@[simp] theorem tf_el27 : tel Tryd.prog 27 = some 3 := by kernel_rfl
@[simp] theorem tf_int27 : tint Tryd.prog 27 = none := by kernel_rfl
@[simp] theorem tf_str27 : tstr Tryd.prog 27 = false := by kernel_rfl
@[simp] theorem tf_bool27 : tbool Tryd.prog 27 = false := by kernel_rfl
@[simp] theorem tf_ptr27 : tptr Tryd.prog 27 = false := by kernel_rfl
@[simp] theorem tf_bytes27 : tbytes Tryd.prog 27 = false := by kernel_rfl
@[simp] theorem tf_zc27 : tzc Tryd.prog 27 = some [.nil] := by kernel_rfl
@[simp] theorem tf_sz29 : tsz Tryd.prog 29 = some 1 := by kernel_rfl
@[simp] theorem tf_by29 : tby Tryd.prog 29 = some 8 := by kernel_rfl
@[simp] theorem tf_row29 : trow Tryd.prog 29 = some false := by kernel_rfl
@[simp] theorem tf_und29 : (Tryd.prog.underlying 29).isSome = true := by kernel_rfl
@[simp] theorem tf_sl29 : tsl Tryd.prog 29 = none := by kernel_rfl
@[simp] theorem tf_el29 : tel Tryd.prog 29 = none := by kernel_rfl
@[simp] theorem tf_int29 : tint Tryd.prog 29 = none := by kernel_rfl
@[simp] theorem tf_str29 : tstr Tryd.prog 29 = false := by kernel_rfl
@[simp] theorem tf_bool29 : tbool Tryd.prog 29 = false := by kernel_rfl
@[simp] theorem tf_ptr29 : tptr Tryd.prog 29 = false := by kernel_rfl
@[simp] theorem tf_bytes29 : tbytes Tryd.prog 29 = false := by kernel_rfl
@[simp] theorem tf_zc29 : tzc Tryd.prog 29 = some [.raw .nilFunc] := by kernel_rfl
@[simp] theorem tf_sz30 : tsz Tryd.prog 30 = some 1 := by kernel_rfl
@[simp] theorem tf_by30 : tby Tryd.prog 30 = some 8 := by kernel_rfl
@[simp] theorem tf_row30 : trow Tryd.prog 30 = some false := by kernel_rfl
@[simp] theorem tf_und30 : (Tryd.prog.underlying 30).isSome = true := by kernel_rfl
@[simp] theorem tf_sl30 : tsl Tryd.prog 30 = none := by kernel_rfl
@[simp] theorem tf_el30 : tel Tryd.prog 30 = none := by kernel_rfl
@[simp] theorem tf_int30 : tint Tryd.prog 30 = none := by kernel_rfl
@[simp] theorem tf_str30 : tstr Tryd.prog 30 = false := by kernel_rfl
@[simp] theorem tf_bool30 : tbool Tryd.prog 30 = false := by kernel_rfl
@[simp] theorem tf_ptr30 : tptr Tryd.prog 30 = false := by kernel_rfl
@[simp] theorem tf_bytes30 : tbytes Tryd.prog 30 = false := by kernel_rfl
@[simp] theorem tf_zc30 : tzc Tryd.prog 30 = some [.raw .nilFunc] := by kernel_rfl
@[simp] theorem tf_sz31 : tsz Tryd.prog 31 = some 1 := by kernel_rfl
@[simp] theorem tf_by31 : tby Tryd.prog 31 = some 8 := by kernel_rfl
@[simp] theorem tf_row31 : trow Tryd.prog 31 = some false := by kernel_rfl
@[simp] theorem tf_und31 : (Tryd.prog.underlying 31).isSome = true := by kernel_rfl
@[simp] theorem tf_sl31 : tsl Tryd.prog 31 = none := by kernel_rfl
@[simp] theorem tf_el31 : tel Tryd.prog 31 = none := by kernel_rfl
@[simp] theorem tf_int31 : tint Tryd.prog 31 = none := by kernel_rfl
@[simp] theorem tf_str31 : tstr Tryd.prog 31 = false := by kernel_rfl
@[simp] theorem tf_bool31 : tbool Tryd.prog 31 = false := by kernel_rfl
@[simp] theorem tf_ptr31 : tptr Tryd.prog 31 = false := by kernel_rfl
@[simp] theorem tf_bytes31 : tbytes Tryd.prog 31 = false := by kernel_rfl
@[simp] theorem tf_zc31 : tzc Tryd.prog 31 = some [.raw .nilFunc] := by kernel_rfl
@[simp] theorem tf_sz32 : tsz Tryd.prog 32 = some 3 := by kernel_rfl
@[simp] theorem tf_by32 : tby Tryd.prog 32 = some 24 := by kernel_rfl
@[simp] theorem tf_row32 : trow Tryd.prog 32 = some true := by kernel_rfl
@[simp] theorem tf_und32 : (Tryd.prog.underlying 32).isSome = true := by kernel_rfl
@[simp] theorem tf_sl32 : tsl Tryd.prog 32 = none := by kernel_rfl
@[simp] theorem tf_el32 : tel Tryd.prog 32 = none := by kernel_rfl
@[simp] theorem tf_int32 : tint Tryd.prog 32 = none := by kernel_rfl
@[simp] theorem tf_str32 : tstr Tryd.prog 32 = false := by kernel_rfl
@[simp] theorem tf_bool32 : tbool Tryd.prog 32 = false := by kernel_rfl
@[simp] theorem tf_ptr32 : tptr Tryd.prog 32 = false := by kernel_rfl
@[simp] theorem tf_bytes32 : tbytes Tryd.prog 32 = false := by kernel_rfl
@[simp] theorem tf_zc32 : tzc Tryd.prog 32 = some [.int .i64 0, .int .i64 0, .int .i64 0] := by kernel_rfl
@[simp] theorem tf_pl32 : tplaces Tryd.prog 32 = some [(0, 1), (1, 1), (2, 1)] := by kernel_rfl
@[simp] theorem tf_fld32x0 : tfld Tryd.prog 32 0 = some (0, 1, false) := by kernel_rfl
@[simp] theorem tf_fld32x1 : tfld Tryd.prog 32 1 = some (1, 1, false) := by kernel_rfl
@[simp] theorem tf_fld32x2 : tfld Tryd.prog 32 2 = some (2, 1, false) := by kernel_rfl
@[simp] theorem tf_flat32 : tflat Tryd.prog 32 = some [0, 0, 0] := by kernel_rfl
@[simp] theorem tf_sz33 : tsz Tryd.prog 33 = some 3 := by kernel_rfl
@[simp] theorem tf_by33 : tby Tryd.prog 33 = some 24 := by kernel_rfl
@[simp] theorem tf_row33 : trow Tryd.prog 33 = some true := by kernel_rfl
@[simp] theorem tf_und33 : (Tryd.prog.underlying 33).isSome = true := by kernel_rfl
@[simp] theorem tf_sl33 : tsl Tryd.prog 33 = none := by kernel_rfl
@[simp] theorem tf_el33 : tel Tryd.prog 33 = none := by kernel_rfl
@[simp] theorem tf_int33 : tint Tryd.prog 33 = none := by kernel_rfl
@[simp] theorem tf_str33 : tstr Tryd.prog 33 = false := by kernel_rfl
@[simp] theorem tf_bool33 : tbool Tryd.prog 33 = false := by kernel_rfl
@[simp] theorem tf_ptr33 : tptr Tryd.prog 33 = false := by kernel_rfl
@[simp] theorem tf_bytes33 : tbytes Tryd.prog 33 = false := by kernel_rfl
@[simp] theorem tf_zc33 : tzc Tryd.prog 33 = some [.int .i64 0, .int .i64 0, .int .i64 0] := by kernel_rfl
@[simp] theorem tf_pl33 : tplaces Tryd.prog 33 = some [(0, 1), (1, 1), (2, 1)] := by kernel_rfl
@[simp] theorem tf_fld33x0 : tfld Tryd.prog 33 0 = some (0, 1, false) := by kernel_rfl
@[simp] theorem tf_fld33x1 : tfld Tryd.prog 33 1 = some (1, 1, false) := by kernel_rfl
@[simp] theorem tf_fld33x2 : tfld Tryd.prog 33 2 = some (2, 1, false) := by kernel_rfl
@[simp] theorem tf_flat33 : tflat Tryd.prog 33 = some [0, 0, 0] := by kernel_rfl
@[simp] theorem tf_sz34 : tsz Tryd.prog 34 = some 1 := by kernel_rfl
@[simp] theorem tf_by34 : tby Tryd.prog 34 = some 24 := by kernel_rfl
@[simp] theorem tf_row34 : trow Tryd.prog 34 = some false := by kernel_rfl
@[simp] theorem tf_und34 : (Tryd.prog.underlying 34).isSome = true := by kernel_rfl
@[simp] theorem tf_sl34 : tsl Tryd.prog 34 = some 75 := by kernel_rfl
@[simp] theorem tf_el34 : tel Tryd.prog 34 = some 2 := by kernel_rfl
@[simp] theorem tf_int34 : tint Tryd.prog 34 = none := by kernel_rfl
@[simp] theorem tf_str34 : tstr Tryd.prog 34 = false := by kernel_rfl
@[simp] theorem tf_bool34 : tbool Tryd.prog 34 = false := by kernel_rfl
@[simp] theorem tf_ptr34 : tptr Tryd.prog 34 = false := by kernel_rfl
@[simp] theorem tf_bytes34 : tbytes Tryd.prog 34 = false := by kernel_rfl
@[simp] theorem tf_zc34 : tzc Tryd.prog 34 = some [.nil] := by kernel_rfl
@[simp] theorem tf_sz36 : tsz Tryd.prog 36 = some 1 := by kernel_rfl
@[simp] theorem tf_by36 : tby Tryd.prog 36 = some 8 := by kernel_rfl
@[simp] theorem tf_row36 : trow Tryd.prog 36 = some false := by kernel_rfl
@[simp] theorem tf_und36 : (Tryd.prog.underlying 36).isSome = true := by kernel_rfl
@[simp] theorem tf_sl36 : tsl Tryd.prog 36 = none := by kernel_rfl
@[simp] theorem tf_el36 : tel Tryd.prog 36 = none := by kernel_rfl
@[simp] theorem tf_int36 : tint Tryd.prog 36 = none := by kernel_rfl
@[simp] theorem tf_str36 : tstr Tryd.prog 36 = false := by kernel_rfl
@[simp] theorem tf_bool36 : tbool Tryd.prog 36 = false := by kernel_rfl
@[simp] theorem tf_ptr36 : tptr Tryd.prog 36 = false := by kernel_rfl
@[simp] theorem tf_bytes36 : tbytes Tryd.prog 36 = false := by kernel_rfl
@[simp] theorem tf_zc36 : tzc Tryd.prog 36 = some [.raw .nilFunc] := by kernel_rfl
@[simp] theorem tf_sz37 : tsz Tryd.prog 37 = some 1 := by kernel_rfl
@[simp] theorem tf_by37 : tby Tryd.prog 37 = some 24 := by kernel_rfl
@[simp] theorem tf_row37 : trow Tryd.prog 37 = some false := by kernel_rfl
@[simp] theorem tf_und37 : (Tryd.prog.underlying 37).isSome = true := by kernel_rfl
@[simp] theorem tf_sl37 : tsl Tryd.prog 37 = some 78 := by kernel_rfl
@[simp] theorem tf_el37 : tel Tryd.prog 37 = some 2 := by kernel_rfl
@[simp] theorem tf_int37 : tint Tryd.prog 37 = none := by kernel_rfl
@[simp] theorem tf_str37 : tstr Tryd.prog 37 = false := by kernel_rfl
@[simp] theorem tf_bool37 : tbool Tryd.prog 37 = false := by kernel_rfl
@[simp] theorem tf_ptr37 : tptr Tryd.prog 37 = false := by kernel_rfl
@[simp] theorem tf_bytes37 : tbytes Tryd.prog 37 = false := by kernel_rfl
@[simp] theorem tf_zc37 : tzc Tryd.prog 37 = some [.nil] := by kernel_rfl
@[simp] theorem tf_sz39 : tsz Tryd.prog 39 = some 1 := by kernel_rfl
@[simp] theorem tf_by39 : tby Tryd.prog 39 = some 8 := by kernel_rfl
@[simp] theorem tf_row39 : trow Tryd.prog 39 = some false := by kernel_rfl
@[simp] theorem tf_und39 : (Tryd.prog.underlying 39).isSome = true := by kernel_rfl
@[simp] theorem tf_sl39 : tsl Tryd.prog 39 = none := by kernel_rfl
@[simp] theorem tf_el39 : tel Tryd.prog 39 = none := by kernel_rfl
@[simp] theorem tf_int39 : tint Tryd.prog 39 = none := by kernel_rfl
@[simp] theorem tf_str39 : tstr Tryd.prog 39 = false := by kernel_rfl
@[simp] theorem tf_bool39 : tbool Tryd.prog 39 = false := by kernel_rfl
@[simp] theorem tf_ptr39 : tptr Tryd.prog 39 = false := by kernel_rfl
@[simp] theorem tf_bytes39 : tbytes Tryd.prog 39 = false := by kernel_rfl
@[simp] theorem tf_zc39 : tzc Tryd.prog 39 = some [.raw .nilFunc] := by kernel_rfl
@[simp] theorem tf_sz40 : tsz Tryd.prog 40 = some 1 := by kernel_rfl
@[simp] theorem tf_by40 : tby Tryd.prog 40 = some 8 := by kernel_rfl
@[simp] theorem tf_row40 : trow Tryd.prog 40 = some false := by kernel_rfl
@[simp] theorem tf_und40 : (Tryd.prog.underlying 40).isSome = true := by kernel_rfl
@[simp] theorem tf_sl40 : tsl Tryd.prog 40 = none := by kernel_rfl
@[simp] theorem tf_el40 : tel Tryd.prog 40 = none := by kernel_rfl
@[simp] theorem tf_int40 : tint Tryd.prog 40 = none := by kernel_rfl
@[simp] theorem tf_str40 : tstr Tryd.prog 40 = false := by kernel_rfl
@[simp] theorem tf_bool40 : tbool Tryd.prog 40 = false := by kernel_rfl
@[simp] theorem tf_ptr40 : tptr Tryd.prog 40 = false := by kernel_rfl
@[simp] theorem tf_bytes40 : tbytes Tryd.prog 40 = false := by kernel_rfl
@[simp] theorem tf_zc40 : tzc Tryd.prog 40 = some [.raw .nilFunc] := by kernel_rfl
@[simp] theorem tf_sz41 : tsz Tryd.prog 41 = some 1 := by kernel_rfl
@[simp] theorem tf_by41 : tby Tryd.prog 41 = some 8 := by kernel_rfl
@[simp] theorem tf_row41 : trow Tryd.prog 41 = some false := by kernel_rfl
@[simp] theorem tf_und41 : (Tryd.prog.underlying 41).isSome = true := by kernel_rfl
@[simp] theorem tf_sl41 : tsl Tryd.prog 41 = none := by kernel_rfl
@[simp] theorem tf_el41 : tel Tryd.prog 41 = none := by kernel_rfl
@[simp] theorem tf_int41 : tint Tryd.prog 41 = none := by kernel_rfl
@[simp] theorem tf_str41 : tstr Tryd.prog 41 = false := by kernel_rfl
@[simp] theorem tf_bool41 : tbool Tryd.prog 41 = false := by kernel_rfl
@[simp] theorem tf_ptr41 : tptr Tryd.prog 41 = false := by kernel_rfl
@[simp] theorem tf_bytes41 : tbytes Tryd.prog 41 = false := by kernel_rfl
@[simp] theorem tf_zc41 : tzc Tryd.prog 41 = some [.raw .nilFunc] := by kernel_rfl
@[simp] theorem tf_sz42 : tsz Tryd.prog 42 = some 1 := by kernel_rfl
@[simp] theorem tf_by42 : tby Tryd.prog 42 = some 24 := by kernel_rfl
@[simp] theorem tf_row42 : trow Tryd.prog 42 = some false := by kernel_rfl
@[simp] theorem tf_und42 : (Tryd.prog.underlying 42).isSome = true := by kernel_rfl
@[simp] theorem tf_sl42 : tsl Tryd.prog 42 = some 49 := by kernel_rfl
@[simp] theorem tf_el42 : tel Tryd.prog 42 = some 2 := by kernel_rfl
@[simp] theorem tf_int42 : tint Tryd.prog 42 = none := by kernel_rfl
@[simp] theorem tf_str42 : tstr Tryd.prog 42 = false := by kernel_rfl
@[simp] theorem tf_bool42 : tbool Tryd.prog 42 = false := by kernel_rfl
@[simp] theorem tf_ptr42 : tptr Tryd.prog 42 = false := by kernel_rfl
@[simp] theorem tf_bytes42 : tbytes Tryd.prog 42 = false := by kernel_rfl
@[simp] theorem tf_zc42 : tzc Tryd.prog 42 = some [.nil] := by kernel_rfl
@[simp] theorem tf_sz43 : tsz Tryd.prog 43 = some 1 := by kernel_rfl
@[simp] theorem tf_by43 : tby Tryd.prog 43 = some 8 := by kernel_rfl
@[simp] theorem tf_row43 : trow Tryd.prog 43 = some false := by kernel_rfl
@[simp] theorem tf_und43 : (Tryd.prog.underlying 43).isSome = true := by kernel_rfl
@[simp] theorem tf_sl43 : tsl Tryd.prog 43 = none := by kernel_rfl
@[simp] theorem tf_el43 : tel Tryd.prog 43 = none := by kernel_rfl
@[simp] theorem tf_int43 : tint Tryd.prog 43 = none := by kernel_rfl
@[simp] theorem tf_str43 : tstr Tryd.prog 43 = false := by kernel_rfl
@[simp] theorem tf_bool43 : tbool Tryd.prog 43 = false := by kernel_rfl
@[simp] theorem tf_ptr43 : tptr Tryd.prog 43 = true := by kernel_rfl
@[simp] theorem tf_bytes43 : tbytes Tryd.prog 43 = false := by kernel_rfl
@[simp] theorem tf_zc43 : tzc Tryd.prog 43 = some [.ptr none] := by kernel_rfl
@[simp] theorem tf_sz44 : tsz Tryd.prog 44 = some 6 := by kernel_rfl
@[simp] theorem tf_by44 : tby Tryd.prog 44 = some 56 := by kernel_rfl
@[simp] theorem tf_row44 : trow Tryd.prog 44 = some true := by kernel_rfl
@[simp] theorem tf_und44 : (Tryd.prog.underlying 44).isSome = true := by kernel_rfl
@[simp] theorem tf_sl44 : tsl Tryd.prog 44 = none := by kernel_rfl
@[simp] theorem tf_el44 : tel Tryd.prog 44 = none := by kernel_rfl
@[simp] theorem tf_int44 : tint Tryd.prog 44 = none := by kernel_rfl
@[simp] theorem tf_str44 : tstr Tryd.prog 44 = false := by kernel_rfl
@[simp] theorem tf_bool44 : tbool Tryd.prog 44 = false := by kernel_rfl
@[simp] theorem tf_ptr44 : tptr Tryd.prog 44 = false := by kernel_rfl
@[simp] theorem tf_bytes44 : tbytes Tryd.prog 44 = false := by kernel_rfl
@[simp] theorem tf_zc44 : tzc Tryd.prog 44 = some [.ptr none, .int .i64 0, .int .i64 0, .int .i64 0, .str [], .bool false] := by kernel_rfl
@[simp] theorem tf_pl44 : tplaces Tryd.prog 44 = some [(0, 1), (1, 3), (4, 1), (5, 1)] := by kernel_rfl
@[simp] theorem tf_fld44x0 : tfld Tryd.prog 44 0 = some (0, 1, false) := by kernel_rfl
@[simp] theorem tf_fld44x1 : tfld Tryd.prog 44 1 = some (1, 3, true) := by kernel_rfl
@[simp] theorem tf_fld44x2 : tfld Tryd.prog 44 2 = some (4, 1, false) := by kernel_rfl
@[simp] theorem tf_fld44x3 : tfld Tryd.prog 44 3 = some (5, 1, false) := by kernel_rfl
@[simp] theorem tf_sz45 : tsz Tryd.prog 45 = some 6 := by kernel_rfl
@[simp] theorem tf_by45 : tby Tryd.prog 45 = some 56 := by kernel_rfl
@[simp] theorem tf_row45 : trow Tryd.prog 45 = some true := by kernel_rfl
@[simp] theorem tf_und45 : (Tryd.prog.underlying 45).isSome = true := by kernel_rfl
@[simp] theorem tf_sl45 : tsl Tryd.prog 45 = none := by kernel_rfl
@[simp] theorem tf_el45 : tel Tryd.prog 45 = none := by kernel_rfl
@[simp] theorem tf_int45 : tint Tryd.prog 45 = none := by kernel_rfl
@[simp] theorem tf_str45 : tstr Tryd.prog 45 = false := by kernel_rfl
@[simp] theorem tf_bool45 : tbool Tryd.prog 45 = false := by kernel_rfl
@[simp] theorem tf_ptr45 : tptr Tryd.prog 45 = false := by kernel_rfl
@[simp] theorem tf_bytes45 : tbytes Tryd.prog 45 = false := by kernel_rfl
@[simp] theorem tf_zc45 : tzc Tryd.prog 45 = some [.ptr none, .int .i64 0, .int .i64 0, .int .i64 0, .str [], .bool false] := by kernel_rfl
@[simp] theorem tf_pl45 : tplaces Tryd.prog 45 = some [(0, 1), (1, 3), (4, 1), (5, 1)] := by kernel_rfl
@[simp] theorem tf_fld45x0 : tfld Tryd.prog 45 0 = some (0, 1, false) := by kernel_rfl
@[simp] theorem tf_fld45x1 : tfld Tryd.prog 45 1 = some (1, 3, true) := by kernel_rfl
@[simp] theorem tf_fld45x2 : tfld Tryd.prog 45 2 = some (4, 1, false) := by kernel_rfl
@[simp] theorem tf_fld45x3 : tfld Tryd.prog 45 3 = some (5, 1, false) := by kernel_rfl
@[simp] theorem tf_sz47 : tsz Tryd.prog 47 = some 1 := by kernel_rfl
@[simp] theorem tf_by47 : tby Tryd.prog 47 = some 8 := by kernel_rfl
@[simp] theorem tf_row47 : trow Tryd.prog 47 = some false := by kernel_rfl
@[simp] theorem tf_und47 : (Tryd.prog.underlying 47).isSome = true := by kernel_rfl
@[simp] theorem tf_sl47 : tsl Tryd.prog 47 = none := by kernel_rfl
@[simp] theorem tf_el47 : tel Tryd.prog 47 = none := by kernel_rfl
@[simp] theorem tf_int47 : tint Tryd.prog 47 = none := by kernel_rfl
@[simp] theorem tf_str47 : tstr Tryd.prog 47 = false := by kernel_rfl
@[simp] theorem tf_bool47 : tbool Tryd.prog 47 = false := by kernel_rfl
@[simp] theorem tf_ptr47 : tptr Tryd.prog 47 = false := by kernel_rfl
@[simp] theorem tf_bytes47 : tbytes Tryd.prog 47 = false := by kernel_rfl
@[simp] theorem tf_zc47 : tzc Tryd.prog 47 = some [.raw .nilFunc] := by kernel_rfl
@[simp] theorem tf_sz48 : tsz Tryd.prog 48 = some 2 := by kernel_rfl
@[simp] theorem tf_by48 : tby Tryd.prog 48 = some 24 := by kernel_rfl
@[simp] theorem tf_row48 : trow Tryd.prog 48 = some true := by kernel_rfl
@[simp] theorem tf_und48 : (Tryd.prog.underlying 48).isSome = true := by kernel_rfl
@[simp] theorem tf_sl48 : tsl Tryd.prog 48 = none := by kernel_rfl
@[simp] theorem tf_el48 : tel Tryd.prog 48 = none := by kernel_rfl
@[simp] theorem tf_int48 : tint Tryd.prog 48 = none := by kernel_rfl
@[simp] theorem tf_str48 : tstr Tryd.prog 48 = false := by kernel_rfl
@[simp] theorem tf_bool48 : tbool Tryd.prog 48 = false := by kernel_rfl
@[simp] theorem tf_ptr48 : tptr Tryd.prog 48 = false := by kernel_rfl
@[simp] theorem tf_bytes48 : tbytes Tryd.prog 48 = false := by kernel_rfl
@[simp] theorem tf_zc48 : tzc Tryd.prog 48 = some [.int .i64 0, .str []] := by kernel_rfl
@[simp] theorem tf_pl48 : tplaces Tryd.prog 48 = some [(0, 1), (1, 1)] := by kernel_rfl
@[simp] theorem tf_fld48x0 : tfld Tryd.prog 48 0 = some (0, 1, false) := by kernel_rfl
@[simp] theorem tf_fld48x1 : tfld Tryd.prog 48 1 = some (1, 1, false) := by kernel_rfl
@[simp] theorem tf_flat48 : tflat Tryd.prog 48 = some [0, 2] := by kernel_rfl
@[simp] theorem tf_sz49 : tsz Tryd.prog 49 = some 2 := by kernel_rfl
@[simp] theorem tf_by49 : tby Tryd.prog 49 = some 24 := by kernel_rfl
@[simp] theorem tf_row49 : trow Tryd.prog 49 = some true := by kernel_rfl
@[simp] theorem tf_und49 : (Tryd.prog.underlying 49).isSome = true := by kernel_rfl
@[simp] theorem tf_sl49 : tsl Tryd.prog 49 = none := by kernel_rfl
@[simp] theorem tf_el49 : tel Tryd.prog 49 = none := by kernel_rfl
@[simp] theorem tf_int49 : tint Tryd.prog 49 = none := by kernel_rfl
@[simp] theorem tf_str49 : tstr Tryd.prog 49 = false := by kernel_rfl
@[simp] theorem tf_bool49 : tbool Tryd.prog 49 = false := by kernel_rfl
@[simp] theorem tf_ptr49 : tptr Tryd.prog 49 = false := by kernel_rfl
@[simp] theorem tf_bytes49 : tbytes Tryd.prog 49 = false := by kernel_rfl
@[simp] theorem tf_zc49 : tzc Tryd.prog 49 = some [.int .i64 0, .str []] := by kernel_rfl
@[simp] theorem tf_pl49 : tplaces Tryd.prog 49 = some [(0, 1), (1, 1)] := by kernel_rfl
@[simp] theorem tf_fld49x0 : tfld Tryd.prog 49 0 = some (0, 1, false) := by kernel_rfl
@[simp] theorem tf_fld49x1 : tfld Tryd.prog 49 1 = some (1, 1, false) := by kernel_rfl
@[simp] theorem tf_flat49 : tflat Tryd.prog 49 = some [0, 2] := by kernel_rfl
@[simp] theorem tf_sz50 : tsz Tryd.prog 50 = some 1 := by kernel_rfl
@[simp] theorem tf_by50 : tby Tryd.prog 50 = some 8 := by kernel_rfl
@[simp] theorem tf_row50 : trow Tryd.prog 50 = some false := by kernel_rfl
@[simp] theorem tf_und50 : (Tryd.prog.underlying 50).isSome = true := by kernel_rfl
@[simp] theorem tf_sl50 : tsl Tryd.prog 50 = none := by kernel_rfl
@[simp] theorem tf_el50 : tel Tryd.prog 50 = none := by kernel_rfl
@[simp] theorem tf_int50 : tint Tryd.prog 50 = none := by kernel_rfl
@[simp] theorem tf_str50 : tstr Tryd.prog 50 = false := by kernel_rfl
@[simp] theorem tf_bool50 : tbool Tryd.prog 50 = false := by kernel_rfl
@[simp] theorem tf_ptr50 : tptr Tryd.prog 50 = false := by kernel_rfl
@[simp] theorem tf_bytes50 : tbytes Tryd.prog 50 = false := by kernel_rfl
@[simp] theorem tf_zc50 : tzc Tryd.prog 50 = some [.raw .nilFunc] := by kernel_rfl
@[simp] theorem tf_sz51 : tsz Tryd.prog 51 = some 1 := by kernel_rfl
@[simp] theorem tf_by51 : tby Tryd.prog 51 = some 8 := by kernel_rfl
@[simp] theorem tf_row51 : trow Tryd.prog 51 = some false := by kernel_rfl
@[simp] theorem tf_und51 : (Tryd.prog.underlying 51).isSome = true := by kernel_rfl
@[simp] theorem tf_sl51 : tsl Tryd.prog 51 = none := by kernel_rfl
@[simp] theorem tf_el51 : tel Tryd.prog 51 = none := by kernel_rfl
@[simp] theorem tf_int51 : tint Tryd.prog 51 = none := by kernel_rfl
@[simp] theorem tf_str51 : tstr Tryd.prog 51 = false := by kernel_rfl
@[simp] theorem tf_bool51 : tbool Tryd.prog 51 = false := by kernel_rfl
@[simp] theorem tf_ptr51 : tptr Tryd.prog 51 = false := by kernel_rfl
@[simp] theorem tf_bytes51 : tbytes Tryd.prog 51 = false := by kernel_rfl
@[simp] theorem tf_zc51 : tzc Tryd.prog 51 = some [.raw .nilFunc] := by kernel_rfl
@[simp] theorem tf_sz52 : tsz Tryd.prog 52 = some 1 := by kernel_rfl
@[simp] theorem tf_by52 : tby Tryd.prog 52 = some 8 := by kernel_rfl
@[simp] theorem tf_row52 : trow Tryd.prog 52 = some false := by kernel_rfl
@[simp] theorem tf_und52 : (Tryd.prog.underlying 52).isSome = true := by kernel_rfl
@[simp] theorem tf_sl52 : tsl Tryd.prog 52 = none := by kernel_rfl
@[simp] theorem tf_el52 : tel Tryd.prog 52 = none := by kernel_rfl
@[simp] theorem tf_int52 : tint Tryd.prog 52 = none := by kernel_rfl
@[simp] theorem tf_str52 : tstr Tryd.prog 52 = false := by kernel_rfl
@[simp] theorem tf_bool52 : tbool Tryd.prog 52 = false := by kernel_rfl
@[simp] theorem tf_ptr52 : tptr Tryd.prog 52 = false := by kernel_rfl
@[simp] theorem tf_bytes52 : tbytes Tryd.prog 52 = false := by kernel_rfl
@[simp] theorem tf_zc52 : tzc Tryd.prog 52 = some [.raw .nilFunc] := by kernel_rfl
@[simp] theorem tf_sz53 : tsz Tryd.prog 53 = some 1 := by kernel_rfl
@[simp] theorem tf_by53 : tby Tryd.prog 53 = some 24 := by kernel_rfl
@[simp] theorem tf_row53 : trow Tryd.prog 53 = some false := by kernel_rfl
@[simp] theorem tf_und53 : (Tryd.prog.underlying 53).isSome = true := by kernel_rfl
@[simp] theorem tf_sl53 : tsl Tryd.prog 53 = some 3 := by kernel_rfl
@[simp] theorem tf_el53 : tel Tryd.prog 53 = some 1 := by kernel_rfl
@[simp] theorem tf_int53 : tint Tryd.prog 53 = none := by kernel_rfl
@[simp] theorem tf_str53 : tstr Tryd.prog 53 = false := by kernel_rfl
@[simp] theorem tf_bool53 : tbool Tryd.prog 53 = false := by kernel_rfl
@[simp] theorem tf_ptr53 : tptr Tryd.prog 53 = false := by kernel_rfl
@[simp] theorem tf_bytes53 : tbytes Tryd.prog 53 = false := by kernel_rfl
@[simp] theorem tf_zc53 : tzc Tryd.prog 53 = some [.nil] := by kernel_rfl
@[simp] theorem tf_sz55 : tsz Tryd.prog 55 = some 1 := by kernel_rfl
@[simp] theorem tf_by55 : tby Tryd.prog 55 = some 8 := by kernel_rfl
@[simp] theorem tf_row55 : trow Tryd.prog 55 = some false := by kernel_rfl
@[simp] theorem tf_und55 : (Tryd.prog.underlying 55).isSome = true := by kernel_rfl
@[simp] theorem tf_sl55 : tsl Tryd.prog 55 = none := by kernel_rfl
@[simp] theorem tf_el55 : tel Tryd.prog 55 = none := by kernel_rfl
@[simp] theorem tf_int55 : tint Tryd.prog 55 = none := by kernel_rfl
@[simp] theorem tf_str55 : tstr Tryd.prog 55 = false := by kernel_rfl
@[simp] theorem tf_bool55 : tbool Tryd.prog 55 = false := by kernel_rfl
@[simp] theorem tf_ptr55 : tptr Tryd.prog 55 = false := by kernel_rfl
@[simp] theorem tf_bytes55 : tbytes Tryd.prog 55 = false := by kernel_rfl
@[simp] theorem tf_zc55 : tzc Tryd.prog 55 = some [.raw .nilFunc] := by kernel_rfl
@[simp] theorem tf_sz57 : tsz Tryd.prog 57 = some 1 := by kernel_rfl
@[simp] theorem tf_by57 : tby Tryd.prog 57 = some 8 := by kernel_rfl
@[simp] theorem tf_row57 : trow Tryd.prog 57 = some false := by kernel_rfl
@[simp] theorem tf_und57 : (Tryd.prog.underlying 57).isSome = true := by kernel_rfl
@[simp] theorem tf_sl57 : tsl Tryd.prog 57 = none := by kernel_rfl
@[simp] theorem tf_el57 : tel Tryd.prog 57 = none := by kernel_rfl
@[simp] theorem tf_int57 : tint Tryd.prog 57 = none := by kernel_rfl
@[simp] theorem tf_str57 : tstr Tryd.prog 57 = false := by kernel_rfl
@[simp] theorem tf_bool57 : tbool Tryd.prog 57 = false := by kernel_rfl
@[simp] theorem tf_ptr57 : tptr Tryd.prog 57 = false := by kernel_rfl
@[simp] theorem tf_bytes57 : tbytes Tryd.prog 57 = false := by kernel_rfl
@[simp] theorem tf_zc57 : tzc Tryd.prog 57 = some [.raw .nilFunc] := by kernel_rfl
@[simp] theorem tf_sz58 : tsz Tryd.prog 58 = some 1 := by kernel_rfl
@[simp] theorem tf_by58 : tby Tryd.prog 58 = some 8 := by kernel_rfl
@[simp] theorem tf_row58 : trow Tryd.prog 58 = some false := by kernel_rfl
@[simp] theorem tf_und58 : (Tryd.prog.underlying 58).isSome = true := by kernel_rfl
@[simp] theorem tf_sl58 : tsl Tryd.prog 58 = none := by kernel_rfl
@[simp] theorem tf_el58 : tel Tryd.prog 58 = none := by kernel_rfl
@[simp] theorem tf_int58 : tint Tryd.prog 58 = none := by kernel_rfl
@[simp] theorem tf_str58 : tstr Tryd.prog 58 = false := by kernel_rfl
@[simp] theorem tf_bool58 : tbool Tryd.prog 58 = false := by kernel_rfl
@[simp] theorem tf_ptr58 : tptr Tryd.prog 58 = false := by kernel_rfl
@[simp] theorem tf_bytes58 : tbytes Tryd.prog 58 = false := by kernel_rfl
@[simp] theorem tf_zc58 : tzc Tryd.prog 58 = some [.raw .nilFunc] := by kernel_rfl
@[simp] theorem tf_sz59 : tsz Tryd.prog 59 = some 1 := by kernel_rfl
@[simp] theorem tf_by59 : tby Tryd.prog 59 = some 8 := by kernel_rfl
@[simp] theorem tf_row59 : trow Tryd.prog 59 = some false := by kernel_rfl
@[simp] theorem tf_und59 : (Tryd.prog.underlying 59).isSome = true := by kernel_rfl
@[simp] theorem tf_sl59 : tsl Tryd.prog 59 = none := by kernel_rfl
@[simp] theorem tf_el59 : tel Tryd.prog 59 = none := by kernel_rfl
@[simp] theorem tf_int59 : tint Tryd.prog 59 = none := by kernel_rfl
@[simp] theorem tf_str59 : tstr Tryd.prog 59 = false := by kernel_rfl
@[simp] theorem tf_bool59 : tbool Tryd.prog 59 = false := by kernel_rfl
@[simp] theorem tf_ptr59 : tptr Tryd.prog 59 = false := by kernel_rfl
@[simp] theorem tf_bytes59 : tbytes Tryd.prog 59 = false := by kernel_rfl
@[simp] theorem tf_zc59 : tzc Tryd.prog 59 = some [.raw .nilFunc] := by kernel_rfl
@[simp] theorem tf_sz60 : tsz Tryd.prog 60 = some 1 := by kernel_rfl
@[simp] theorem tf_by60 : tby Tryd.prog 60 = some 8 := by kernel_rfl
@[simp] theorem tf_row60 : trow Tryd.prog 60 = some false := by kernel_rfl
@[simp] theorem tf_und60 : (Tryd.prog.underlying 60).isSome = true := by kernel_rfl
@[simp] theorem tf_sl60 : tsl Tryd.prog 60 = none := by kernel_rfl
@[simp] theorem tf_el60 : tel Tryd.prog 60 = none := by kernel_rfl
@[simp] theorem tf_int60 : tint Tryd.prog 60 = none := by kernel_rfl
@[simp] theorem tf_str60 : tstr Tryd.prog 60 = false := by kernel_rfl
@[simp] theorem tf_bool60 : tbool Tryd.prog 60 = false := by kernel_rfl
@[simp] theorem tf_ptr60 : tptr Tryd.prog 60 = false := by kernel_rfl
@[simp] theorem tf_bytes60 : tbytes Tryd.prog 60 = false := by kernel_rfl
@[simp] theorem tf_zc60 : tzc Tryd.prog 60 = some [.raw .nilFunc] := by kernel_rfl
@[simp] theorem tf_sz61 : tsz Tryd.prog 61 = some 1 := by kernel_rfl
@[simp] theorem tf_by61 : tby Tryd.prog 61 = some 8 := by kernel_rfl
@[simp] theorem tf_row61 : trow Tryd.prog 61 = some false := by kernel_rfl
@[simp] theorem tf_und61 : (Tryd.prog.underlying 61).isSome = true := by kernel_rfl
@[simp] theorem tf_sl61 : tsl Tryd.prog 61 = none := by kernel_rfl
@[simp] theorem tf_el61 : tel Tryd.prog 61 = none := by kernel_rfl
@[simp] theorem tf_int61 : tint Tryd.prog 61 = none := by kernel_rfl
@[simp] theorem tf_str61 : tstr Tryd.prog 61 = false := by kernel_rfl
@[simp] theorem tf_bool61 : tbool Tryd.prog 61 = false := by kernel_rfl
@[simp] theorem tf_ptr61 : tptr Tryd.prog 61 = false := by kernel_rfl
@[simp] theorem tf_bytes61 : tbytes Tryd.prog 61 = false := by kernel_rfl
@[simp] theorem tf_zc61 : tzc Tryd.prog 61 = some [.raw .nilFunc] := by kernel_rfl
@[simp] theorem tf_sz62 : tsz Tryd.prog 62 = some 1 := by kernel_rfl
@[simp] theorem tf_by62 : tby Tryd.prog 62 = some 8 := by kernel_rfl
@[simp] theorem tf_row62 : trow Tryd.prog 62 = some false := by kernel_rfl
@[simp] theorem tf_und62 : (Tryd.prog.underlying 62).isSome = true := by kernel_rfl
@[simp] theorem tf_sl62 : tsl Tryd.prog 62 = none := by kernel_rfl
@[simp] theorem tf_el62 : tel Tryd.prog 62 = none := by kernel_rfl
@[simp] theorem tf_int62 : tint Tryd.prog 62 = none := by kernel_rfl
@[simp] theorem tf_str62 : tstr Tryd.prog 62 = false := by kernel_rfl
@[simp] theorem tf_bool62 : tbool Tryd.prog 62 = false := by kernel_rfl
@[simp] theorem tf_ptr62 : tptr Tryd.prog 62 = false := by kernel_rfl
@[simp] theorem tf_bytes62 : tbytes Tryd.prog 62 = false := by kernel_rfl
@[simp] theorem tf_zc62 : tzc Tryd.prog 62 = some [.raw .nilFunc] := by kernel_rfl
@[simp] theorem tf_sz63 : tsz Tryd.prog 63 = some 1 := by kernel_rfl
@[simp] theorem tf_by63 : tby Tryd.prog 63 = some 8 := by kernel_rfl
@[simp] theorem tf_row63 : trow Tryd.prog 63 = some false := by kernel_rfl
@[simp] theorem tf_und63 : (Tryd.prog.underlying 63).isSome = true := by kernel_rfl
@[simp] theorem tf_sl63 : tsl Tryd.prog 63 = none := by kernel_rfl
@[simp] theorem tf_el63 : tel Tryd.prog 63 = none := by kernel_rfl
@[simp] theorem tf_int63 : tint Tryd.prog 63 = none := by kernel_rfl
@[simp] theorem tf_str63 : tstr Tryd.prog 63 = false := by kernel_rfl
@[simp] theorem tf_bool63 : tbool Tryd.prog 63 = false := by kernel_rfl
@[simp] theorem tf_ptr63 : tptr Tryd.prog 63 = false := by kernel_rfl
@[simp] theorem tf_bytes63 : tbytes Tryd.prog 63 = false := by kernel_rfl
@[simp] theorem tf_zc63 : tzc Tryd.prog 63 = some [.raw .nilFunc] := by kernel_rfl
@[simp] theorem tf_sz64 : tsz Tryd.prog 64 = some 1 := by kernel_rfl
@[simp] theorem tf_by64 : tby Tryd.prog 64 = some 8 := by kernel_rfl
@[simp] theorem tf_row64 : trow Tryd.prog 64 = some false := by kernel_rfl
@[simp] theorem tf_und64 : (Tryd.prog.underlying 64).isSome = true := by kernel_rfl
@[simp] theorem tf_sl64 : tsl Tryd.prog 64 = none := by kernel_rfl
@[simp] theorem tf_el64 : tel Tryd.prog 64 = none := by kernel_rfl
@[simp] theorem tf_int64 : tint Tryd.prog 64 = none := by kernel_rfl
@[simp] theorem tf_str64 : tstr Tryd.prog 64 = false := by kernel_rfl
@[simp] theorem tf_bool64 : tbool Tryd.prog 64 = false := by kernel_rfl
@[simp] theorem tf_ptr64 : tptr Tryd.prog 64 = false := by kernel_rfl
@[simp] theorem tf_bytes64 : tbytes Tryd.prog 64 = false := by kernel_rfl
@[simp] theorem tf_zc64 : tzc Tryd.prog 64 = some [.raw .nilFunc] := by kernel_rfl
@[simp] theorem tf_sz65 : tsz Tryd.prog 65 = some 3 := by kernel_rfl
@[simp] theorem tf_by65 : tby Tryd.prog 65 = some 40 := by kernel_rfl
@[simp] theorem tf_row65 : trow Tryd.prog 65 = some true := by kernel_rfl
@[simp] theorem tf_und65 : (Tryd.prog.underlying 65).isSome = true := by kernel_rfl
@[simp] theorem tf_sl65 : tsl Tryd.prog 65 = none := by kernel_rfl
@[simp] theorem tf_el65 : tel Tryd.prog 65 = none := by kernel_rfl
@[simp] theorem tf_int65 : tint Tryd.prog 65 = none := by kernel_rfl
@[simp] theorem tf_str65 : tstr Tryd.prog 65 = false := by kernel_rfl
@[simp] theorem tf_bool65 : tbool Tryd.prog 65 = false := by kernel_rfl
@[simp] theorem tf_ptr65 : tptr Tryd.prog 65 = false := by kernel_rfl
@[simp] theorem tf_bytes65 : tbytes Tryd.prog 65 = false := by kernel_rfl
@[simp] theorem tf_zc65 : tzc Tryd.prog 65 = some [.str [], .str [], .bool false] := by kernel_rfl
@[simp] theorem tf_pl65 : tplaces Tryd.prog 65 = some [(0, 1), (1, 1), (2, 1)] := by kernel_rfl
@[simp] theorem tf_fld65x0 : tfld Tryd.prog 65 0 = some (0, 1, false) := by kernel_rfl
@[simp] theorem tf_fld65x1 : tfld Tryd.prog 65 1 = some (1, 1, false) := by kernel_rfl
@[simp] theorem tf_fld65x2 : tfld Tryd.prog 65 2 = some (2, 1, false) := by kernel_rfl
@[simp] theorem tf_flat65 : tflat Tryd.prog 65 = some [2, 2, 1] := by kernel_rfl
@[simp] theorem tf_sz66 : tsz Tryd.prog 66 = some 3 := by kernel_rfl
@[simp] theorem tf_by66 : tby Tryd.prog 66 = some 40 := by kernel_rfl
@[simp] theorem tf_row66 : trow Tryd.prog 66 = some true := by kernel_rfl
@[simp] theorem tf_und66 : (Tryd.prog.underlying 66).isSome = true := by kernel_rfl
@[simp] theorem tf_sl66 : tsl Tryd.prog 66 = none := by kernel_rfl
@[simp] theorem tf_el66 : tel Tryd.prog 66 = none := by kernel_rfl
@[simp] theorem tf_int66 : tint Tryd.prog 66 = none := by kernel_rfl
@[simp] theorem tf_str66 : tstr Tryd.prog 66 = false := by kernel_rfl
@[simp] theorem tf_bool66 : tbool Tryd.prog 66 = false := by kernel_rfl
@[simp] theorem tf_ptr66 : tptr Tryd.prog 66 = false := by kernel_rfl
@[simp] theorem tf_bytes66 : tbytes Tryd.prog 66 = false := by kernel_rfl
@[simp] theorem tf_zc66 : tzc Tryd.prog 66 = some [.str [], .str [], .bool false] := by kernel_rfl
@[simp] theorem tf_pl66 : tplaces Tryd.prog 66 = some [(0, 1), (1, 1), (2, 1)] := by kernel_rfl
@[simp] theorem tf_fld66x0 : tfld Tryd.prog 66 0 = some (0, 1, false) := by kernel_rfl
@[simp] theorem tf_fld66x1 : tfld Tryd.prog 66 1 = some (1, 1, false) := by kernel_rfl
@[simp] theorem tf_fld66x2 : tfld Tryd.prog 66 2 = some (2, 1, false) := by kernel_rfl
@[simp] theorem tf_flat66 : tflat Tryd.prog 66 = some [2, 2, 1] := by kernel_rfl
@[simp] theorem tf_sz68 : tsz Tryd.prog 68 = some 1 := by kernel_rfl
@[simp] theorem tf_by68 : tby Tryd.prog 68 = some 8 := by kernel_rfl
@[simp] theorem tf_row68 : trow Tryd.prog 68 = some false := by kernel_rfl
@[simp] theorem tf_und68 : (Tryd.prog.underlying 68).isSome = true := by kernel_rfl
@[simp] theorem tf_sl68 : tsl Tryd.prog 68 = none := by kernel_rfl
@[simp] theorem tf_el68 : tel Tryd.prog 68 = none := by kernel_rfl
@[simp] theorem tf_int68 : tint Tryd.prog 68 = none := by kernel_rfl
@[simp] theorem tf_str68 : tstr Tryd.prog 68 = false := by kernel_rfl
@[simp] theorem tf_bool68 : tbool Tryd.prog 68 = false := by kernel_rfl
@[simp] theorem tf_ptr68 : tptr Tryd.prog 68 = false := by kernel_rfl
@[simp] theorem tf_bytes68 : tbytes Tryd.prog 68 = false := by kernel_rfl
@[simp] theorem tf_zc68 : tzc Tryd.prog 68 = some [.raw .nilFunc] := by kernel_rfl
@[simp] theorem tf_sz70 : tsz Tryd.prog 70 = some 1 := by kernel_rfl
@[simp] theorem tf_by70 : tby Tryd.prog 70 = some 8 := by kernel_rfl
@[simp] theorem tf_row70 : trow Tryd.prog 70 = some false := by kernel_rfl
@[simp] theorem tf_und70 : (Tryd.prog.underlying 70).isSome = true := by kernel_rfl
@[simp] theorem tf_sl70 : tsl Tryd.prog 70 = none := by kernel_rfl
@[simp] theorem tf_el70 : tel Tryd.prog 70 = none := by kernel_rfl
@[simp] theorem tf_int70 : tint Tryd.prog 70 = none := by kernel_rfl
@[simp] theorem tf_str70 : tstr Tryd.prog 70 = false := by kernel_rfl
@[simp] theorem tf_bool70 : tbool Tryd.prog 70 = false := by kernel_rfl
@[simp] theorem tf_ptr70 : tptr Tryd.prog 70 = false := by kernel_rfl
@[simp] theorem tf_bytes70 : tbytes Tryd.prog 70 = false := by kernel_rfl
@[simp] theorem tf_zc70 : tzc Tryd.prog 70 = some [.raw .nilFunc] := by kernel_rfl
@[simp] theorem tf_sz71 : tsz Tryd.prog 71 = some 1 := by kernel_rfl
@[simp] theorem tf_by71 : tby Tryd.prog 71 = some 8 := by kernel_rfl
@[simp] theorem tf_row71 : trow Tryd.prog 71 = some false := by kernel_rfl
@[simp] theorem tf_und71 : (Tryd.prog.underlying 71).isSome = true := by kernel_rfl
@[simp] theorem tf_sl71 : tsl Tryd.prog 71 = none := by kernel_rfl
@[simp] theorem tf_el71 : tel Tryd.prog 71 = none := by kernel_rfl
@[simp] theorem tf_int71 : tint Tryd.prog 71 = none := by kernel_rfl
@[simp] theorem tf_str71 : tstr Tryd.prog 71 = false := by kernel_rfl
@[simp] theorem tf_bool71 : tbool Tryd.prog 71 = false := by kernel_rfl
@[simp] theorem tf_ptr71 : tptr Tryd.prog 71 = false := by kernel_rfl
@[simp] theorem tf_bytes71 : tbytes Tryd.prog 71 = false := by kernel_rfl
@[simp] theorem tf_zc71 : tzc Tryd.prog 71 = some [.raw .nilFunc] := by kernel_rfl
@[simp] theorem tf_sz72 : tsz Tryd.prog 72 = some 3 := by kernel_rfl
@[simp] theorem tf_by72 : tby Tryd.prog 72 = some 40 := by kernel_rfl
@[simp] theorem tf_row72 : trow Tryd.prog 72 = some true := by kernel_rfl
@[simp] theorem tf_und72 : (Tryd.prog.underlying 72).isSome = true := by kernel_rfl
@[simp] theorem tf_sl72 : tsl Tryd.prog 72 = none := by kernel_rfl
@[simp] theorem tf_el72 : tel Tryd.prog 72 = none := by kernel_rfl
@[simp] theorem tf_int72 : tint Tryd.prog 72 = none := by kernel_rfl
@[simp] theorem tf_str72 : tstr Tryd.prog 72 = false := by kernel_rfl
@[simp] theorem tf_bool72 : tbool Tryd.prog 72 = false := by kernel_rfl
@[simp] theorem tf_ptr72 : tptr Tryd.prog 72 = false := by kernel_rfl
@[simp] theorem tf_bytes72 : tbytes Tryd.prog 72 = false := by kernel_rfl
@[simp] theorem tf_zc72 : tzc Tryd.prog 72 = some [.str [], .str [], .bool false] := by kernel_rfl
@[simp] theorem tf_pl72 : tplaces Tryd.prog 72 = some [(0, 1), (1, 1), (2, 1)] := by kernel_rfl
@[simp] theorem tf_fld72x0 : tfld Tryd.prog 72 0 = some (0, 1, false) := by kernel_rfl
@[simp] theorem tf_fld72x1 : tfld Tryd.prog 72 1 = some (1, 1, false) := by kernel_rfl
@[simp] theorem tf_fld72x2 : tfld Tryd.prog 72 2 = some (2, 1, false) := by kernel_rfl
@[simp] theorem tf_flat72 : tflat Tryd.prog 72 = some [2, 2, 1] := by kernel_rfl
@[simp] theorem tf_sz73 : tsz Tryd.prog 73 = some 1 := by kernel_rfl
@[simp] theorem tf_by73 : tby Tryd.prog 73 = some 8 := by kernel_rfl
@[simp] theorem tf_row73 : trow Tryd.prog 73 = some false := by kernel_rfl
@[simp] theorem tf_und73 : (Tryd.prog.underlying 73).isSome = true := by kernel_rfl
@[simp] theorem tf_sl73 : tsl Tryd.prog 73 = none := by kernel_rfl
@[simp] theorem tf_el73 : tel Tryd.prog 73 = none := by kernel_rfl
@[simp] theorem tf_int73 : tint Tryd.prog 73 = none := by kernel_rfl
@[simp] theorem tf_str73 : tstr Tryd.prog 73 = false := by kernel_rfl
@[simp] theorem tf_bool73 : tbool Tryd.prog 73 = false := by kernel_rfl
@[simp] theorem tf_ptr73 : tptr Tryd.prog 73 = false := by kernel_rfl
@[simp] theorem tf_bytes73 : tbytes Tryd.prog 73 = false := by kernel_rfl
@[simp] theorem tf_zc73 : tzc Tryd.prog 73 = some [.raw .nilFunc] := by kernel_rfl
@[simp] theorem tf_sz74 : tsz Tryd.prog 74 = some 2 := by kernel_rfl
@[simp] theorem tf_by74 : tby Tryd.prog 74 = some 32 := by kernel_rfl
@[simp] theorem tf_row74 : trow Tryd.prog 74 = some true := by kernel_rfl
@[simp] theorem tf_und74 : (Tryd.prog.underlying 74).isSome = true := by kernel_rfl
@[simp] theorem tf_sl74 : tsl Tryd.prog 74 = none := by kernel_rfl
@[simp] theorem tf_el74 : tel Tryd.prog 74 = none := by kernel_rfl
@[simp] theorem tf_int74 : tint Tryd.prog 74 = none := by kernel_rfl
@[simp] theorem tf_str74 : tstr Tryd.prog 74 = false := by kernel_rfl
@[simp] theorem tf_bool74 : tbool Tryd.prog 74 = false := by kernel_rfl
@[simp] theorem tf_ptr74 : tptr Tryd.prog 74 = false := by kernel_rfl
@[simp] theorem tf_bytes74 : tbytes Tryd.prog 74 = false := by kernel_rfl
@[simp] theorem tf_zc74 : tzc Tryd.prog 74 = some [.str [], .str []] := by kernel_rfl
@[simp] theorem tf_pl74 : tplaces Tryd.prog 74 = some [(0, 1), (1, 1)] := by kernel_rfl
@[simp] theorem tf_fld74x0 : tfld Tryd.prog 74 0 = some (0, 1, false) := by kernel_rfl
@[simp] theorem tf_fld74x1 : tfld Tryd.prog 74 1 = some (1, 1, false) := by kernel_rfl
@[simp] theorem tf_flat74 : tflat Tryd.prog 74 = some [2, 2] := by kernel_rfl
@[simp] theorem tf_sz75 : tsz Tryd.prog 75 = some 2 := by kernel_rfl
@[simp] theorem tf_by75 : tby Tryd.prog 75 = some 32 := by kernel_rfl
@[simp] theorem tf_row75 : trow Tryd.prog 75 = some true := by kernel_rfl
@[simp] theorem tf_und75 : (Tryd.prog.underlying 75).isSome = true := by kernel_rfl
@[simp] theorem tf_sl75 : tsl Tryd.prog 75 = none := by kernel_rfl
@[simp] theorem tf_el75 : tel Tryd.prog 75 = none := by kernel_rfl
@[simp] theorem tf_int75 : tint Tryd.prog 75 = none := by kernel_rfl
@[simp] theorem tf_str75 : tstr Tryd.prog 75 = false := by kernel_rfl
@[simp] theorem tf_bool75 : tbool Tryd.prog 75 = false := by kernel_rfl
@[simp] theorem tf_ptr75 : tptr Tryd.prog 75 = false := by kernel_rfl
@[simp] theorem tf_bytes75 : tbytes Tryd.prog 75 = false := by kernel_rfl
@[simp] theorem tf_zc75 : tzc Tryd.prog 75 = some [.str [], .str []] := by kernel_rfl
@[simp] theorem tf_pl75 : tplaces Tryd.prog 75 = some [(0, 1), (1, 1)] := by kernel_rfl
@[simp] theorem tf_fld75x0 : tfld Tryd.prog 75 0 = some (0, 1, false) := by kernel_rfl
@[simp] theorem tf_fld75x1 : tfld Tryd.prog 75 1 = some (1, 1, false) := by kernel_rfl
@[simp] theorem tf_flat75 : tflat Tryd.prog 75 = some [2, 2] := by kernel_rfl
@[simp] theorem tf_sz76 : tsz Tryd.prog 76 = some 1 := by kernel_rfl
@[simp] theorem tf_by76 : tby Tryd.prog 76 = some 8 := by kernel_rfl
@[simp] theorem tf_row76 : trow Tryd.prog 76 = some false := by kernel_rfl
@[simp] theorem tf_und76 : (Tryd.prog.underlying 76).isSome = true := by kernel_rfl
@[simp] theorem tf_sl76 : tsl Tryd.prog 76 = none := by kernel_rfl
@[simp] theorem tf_el76 : tel Tryd.prog 76 = none := by kernel_rfl
@[simp] theorem tf_int76 : tint Tryd.prog 76 = none := by kernel_rfl
@[simp] theorem tf_str76 : tstr Tryd.prog 76 = false := by kernel_rfl
@[simp] theorem tf_bool76 : tbool Tryd.prog 76 = false := by kernel_rfl
@[simp] theorem tf_ptr76 : tptr Tryd.prog 76 = false := by kernel_rfl
@[simp] theorem tf_bytes76 : tbytes Tryd.prog 76 = false := by kernel_rfl
@[simp] theorem tf_zc76 : tzc Tryd.prog 76 = some [.raw .nilFunc] := by kernel_rfl
@[simp] theorem tf_sz77 : tsz Tryd.prog 77 = some 1 := by kernel_rfl
@[simp] theorem tf_by77 : tby Tryd.prog 77 = some 8 := by kernel_rfl
@[simp] theorem tf_row77 : trow Tryd.prog 77 = some false := by kernel_rfl
@[simp] theorem tf_und77 : (Tryd.prog.underlying 77).isSome = true := by kernel_rfl
@[simp] theorem tf_sl77 : tsl Tryd.prog 77 = none := by kernel_rfl
@[simp] theorem tf_el77 : tel Tryd.prog 77 = none := by kernel_rfl
@[simp] theorem tf_int77 : tint Tryd.prog 77 = none := by kernel_rfl
@[simp] theorem tf_str77 : tstr Tryd.prog 77 = false := by kernel_rfl
@[simp] theorem tf_bool77 : tbool Tryd.prog 77 = false := by kernel_rfl
@[simp] theorem tf_ptr77 : tptr Tryd.prog 77 = false := by kernel_rfl
@[simp] theorem tf_bytes77 : tbytes Tryd.prog 77 = false := by kernel_rfl
@[simp] theorem tf_zc77 : tzc Tryd.prog 77 = some [.raw .nilFunc] := by kernel_rfl
@[simp] theorem tf_sz78 : tsz Tryd.prog 78 = some 2 := by kernel_rfl
@[simp] theorem tf_by78 : tby Tryd.prog 78 = some 32 := by kernel_rfl
@[simp] theorem tf_row78 : trow Tryd.prog 78 = some true := by kernel_rfl
@[simp] theorem tf_und78 : (Tryd.prog.underlying 78).isSome = true := by kernel_rfl
@[simp] theorem tf_sl78 : tsl Tryd.prog 78 = none := by kernel_rfl
@[simp] theorem tf_el78 : tel Tryd.prog 78 = none := by kernel_rfl
@[simp] theorem tf_int78 : tint Tryd.prog 78 = none := by kernel_rfl
@[simp] theorem tf_str78 : tstr Tryd.prog 78 = false := by kernel_rfl
@[simp] theorem tf_bool78 : tbool Tryd.prog 78 = false := by kernel_rfl
@[simp] theorem tf_ptr78 : tptr Tryd.prog 78 = false := by kernel_rfl
@[simp] theorem tf_bytes78 : tbytes Tryd.prog 78 = false := by kernel_rfl
@[simp] theorem tf_zc78 : tzc Tryd.prog 78 = some [.str [], .str []] := by kernel_rfl
@[simp] theorem tf_pl78 : tplaces Tryd.prog 78 = some [(0, 1), (1, 1)] := by kernel_rfl
@[simp] theorem tf_fld78x0 : tfld Tryd.prog 78 0 = some (0, 1, false) := by kernel_rfl
@[simp] theorem tf_fld78x1 : tfld Tryd.prog 78 1 = some (1, 1, false) := by kernel_rfl
@[simp] theorem tf_flat78 : tflat Tryd.prog 78 = some [2, 2] := by kernel_rfl
@[simp] theorem tf_sz79 : tsz Tryd.prog 79 = some 1 := by kernel_rfl
@[simp] theorem tf_by79 : tby Tryd.prog 79 = some 8 := by kernel_rfl
@[simp] theorem tf_row79 : trow Tryd.prog 79 = some false := by kernel_rfl
@[simp] theorem tf_und79 : (Tryd.prog.underlying 79).isSome = true := by kernel_rfl
@[simp] theorem tf_sl79 : tsl Tryd.prog 79 = none := by kernel_rfl
@[simp] theorem tf_el79 : tel Tryd.prog 79 = none := by kernel_rfl
@[simp] theorem tf_int79 : tint Tryd.prog 79 = none := by kernel_rfl
@[simp] theorem tf_str79 : tstr Tryd.prog 79 = false := by kernel_rfl
@[simp] theorem tf_bool79 : tbool Tryd.prog 79 = false := by kernel_rfl
@[simp] theorem tf_ptr79 : tptr Tryd.prog 79 = false := by kernel_rfl
@[simp] theorem tf_bytes79 : tbytes Tryd.prog 79 = false := by kernel_rfl
@[simp] theorem tf_zc79 : tzc Tryd.prog 79 = some [.raw .nilFunc] := by kernel_rfl
@[simp] theorem tf_sz80 : tsz Tryd.prog 80 = some 3 := by kernel_rfl
@[simp] theorem tf_by80 : tby Tryd.prog 80 = some 64 := by kernel_rfl
@[simp] theorem tf_row80 : trow Tryd.prog 80 = some true := by kernel_rfl
@[simp] theorem tf_und80 : (Tryd.prog.underlying 80).isSome = true := by kernel_rfl
@[simp] theorem tf_sl80 : tsl Tryd.prog 80 = none := by kernel_rfl
@[simp] theorem tf_el80 : tel Tryd.prog 80 = none := by kernel_rfl
@[simp] theorem tf_int80 : tint Tryd.prog 80 = none := by kernel_rfl
@[simp] theorem tf_str80 : tstr Tryd.prog 80 = false := by kernel_rfl
@[simp] theorem tf_bool80 : tbool Tryd.prog 80 = false := by kernel_rfl
@[simp] theorem tf_ptr80 : tptr Tryd.prog 80 = false := by kernel_rfl
@[simp] theorem tf_bytes80 : tbytes Tryd.prog 80 = false := by kernel_rfl
@[simp] theorem tf_zc80 : tzc Tryd.prog 80 = some [.str [], .nil, .nil] := by kernel_rfl
@[simp] theorem tf_pl80 : tplaces Tryd.prog 80 = some [(0, 1), (1, 1), (2, 1)] := by kernel_rfl
@[simp] theorem tf_fld80x0 : tfld Tryd.prog 80 0 = some (0, 1, false) := by kernel_rfl
@[simp] theorem tf_fld80x1 : tfld Tryd.prog 80 1 = some (1, 1, false) := by kernel_rfl
@[simp] theorem tf_fld80x2 : tfld Tryd.prog 80 2 = some (2, 1, false) := by kernel_rfl
@[simp] theorem tf_sz81 : tsz Tryd.prog 81 = some 3 := by kernel_rfl
@[simp] theorem tf_by81 : tby Tryd.prog 81 = some 64 := by kernel_rfl
@[simp] theorem tf_row81 : trow Tryd.prog 81 = some true := by kernel_rfl
@[simp] theorem tf_und81 : (Tryd.prog.underlying 81).isSome = true := by kernel_rfl
@[simp] theorem tf_sl81 : tsl Tryd.prog 81 = none := by kernel_rfl
@[simp] theorem tf_el81 : tel Tryd.prog 81 = none := by kernel_rfl
@[simp] theorem tf_int81 : tint Tryd.prog 81 = none := by kernel_rfl
@[simp] theorem tf_str81 : tstr Tryd.prog 81 = false := by kernel_rfl
@[simp] theorem tf_bool81 : tbool Tryd.prog 81 = false := by kernel_rfl
@[simp] theorem tf_ptr81 : tptr Tryd.prog 81 = false := by kernel_rfl
@[simp] theorem tf_bytes81 : tbytes Tryd.prog 81 = false := by kernel_rfl
@[simp] theorem tf_zc81 : tzc Tryd.prog 81 = some [.str [], .nil, .nil] := by kernel_rfl
@[simp] theorem tf_pl81 : tplaces Tryd.prog 81 = some [(0, 1), (1, 1), (2, 1)] := by kernel_rfl
@[simp] theorem tf_fld81x0 : tfld Tryd.prog 81 0 = some (0, 1, false) := by kernel_rfl
@[simp] theorem tf_fld81x1 : tfld Tryd.prog 81 1 = some (1, 1, false) := by kernel_rfl
@[simp] theorem tf_fld81x2 : tfld Tryd.prog 81 2 = some (2, 1, false) := by kernel_rfl
@[simp] theorem tf_sz82 : tsz Tryd.prog 82 = some 1 := by kernel_rfl
@[simp] theorem tf_by82 : tby Tryd.prog 82 = some 8 := by kernel_rfl
@[simp] theorem tf_row82 : trow Tryd.prog 82 = some false := by kernel_rfl
@[simp] theorem tf_und82 : (Tryd.prog.underlying 82).isSome = true := by kernel_rfl
@[simp] theorem tf_sl82 : tsl Tryd.prog 82 = none := by kernel_rfl
@[simp] theorem tf_el82 : tel Tryd.prog 82 = none := by kernel_rfl
@[simp] theorem tf_int82 : tint Tryd.prog 82 = none := by kernel_rfl
@[simp] theorem tf_str82 : tstr Tryd.prog 82 = false := by kernel_rfl
@[simp] theorem tf_bool82 : tbool Tryd.prog 82 = false := by kernel_rfl
@[simp] theorem tf_ptr82 : tptr Tryd.prog 82 = false := by kernel_rfl
@[simp] theorem tf_bytes82 : tbytes Tryd.prog 82 = false := by kernel_rfl
@[simp] theorem tf_zc82 : tzc Tryd.prog 82 = some [.raw .nilFunc] := by kernel_rfl
@[simp] theorem tf_sz83 : tsz Tryd.prog 83 = some 1 := by kernel_rfl
@[simp] theorem tf_by83 : tby Tryd.prog 83 = some 8 := by kernel_rfl
@[simp] theorem tf_row83 : trow Tryd.prog 83 = some false := by kernel_rfl
@[simp] theorem tf_und83 : (Tryd.prog.underlying 83).isSome = true := by kernel_rfl
@[simp] theorem tf_sl83 : tsl Tryd.prog 83 = none := by kernel_rfl
@[simp] theorem tf_el83 : tel Tryd.prog 83 = none := by kernel_rfl
@[simp] theorem tf_int83 : tint Tryd.prog 83 = none := by kernel_rfl
@[simp] theorem tf_str83 : tstr Tryd.prog 83 = false := by kernel_rfl
@[simp] theorem tf_bool83 : tbool Tryd.prog 83 = false := by kernel_rfl
@[simp] theorem tf_ptr83 : tptr Tryd.prog 83 = false := by kernel_rfl
@[simp] theorem tf_bytes83 : tbytes Tryd.prog 83 = false := by kernel_rfl
@[simp] theorem tf_zc83 : tzc Tryd.prog 83 = some [.raw .nilFunc] := by kernel_rfl
@[simp] theorem tf_sz84 : tsz Tryd.prog 84 = some 1 := by kernel_rfl
@[simp] theorem tf_by84 : tby Tryd.prog 84 = some 8 := by kernel_rfl
@[simp] theorem tf_row84 : trow Tryd.prog 84 = some false := by kernel_rfl
@[simp] theorem tf_und84 : (Tryd.prog.underlying 84).isSome = true := by kernel_rfl
@[simp] theorem tf_sl84 : tsl Tryd.prog 84 = none := by kernel_rfl
@[simp] theorem tf_el84 : tel Tryd.prog 84 = none := by kernel_rfl
@[simp] theorem tf_int84 : tint Tryd.prog 84 = none := by kernel_rfl
@[simp] theorem tf_str84 : tstr Tryd.prog 84 = false := by kernel_rfl
@[simp] theorem tf_bool84 : tbool Tryd.prog 84 = false := by kernel_rfl
@[simp] theorem tf_ptr84 : tptr Tryd.prog 84 = false := by kernel_rfl
@[simp] theorem tf_bytes84 : tbytes Tryd.prog 84 = false := by kernel_rfl
@[simp] theorem tf_zc84 : tzc Tryd.prog 84 = some [.raw .nilFunc] := by kernel_rfl
@[simp] theorem tf_sz85 : tsz Tryd.prog 85 = some 1 := by kernel_rfl
@[simp] theorem tf_by85 : tby Tryd.prog 85 = some 8 := by kernel_rfl
@[simp] theorem tf_row85 : trow Tryd.prog 85 = some false := by kernel_rfl
@[simp] theorem tf_und85 : (Tryd.prog.underlying 85).isSome = true := by kernel_rfl
@[simp] theorem tf_sl85 : tsl Tryd.prog 85 = none := by kernel_rfl
@[simp] theorem tf_el85 : tel Tryd.prog 85 = none := by kernel_rfl
@[simp] theorem tf_int85 : tint Tryd.prog 85 = none := by kernel_rfl
@[simp] theorem tf_str85 : tstr Tryd.prog 85 = false := by kernel_rfl
@[simp] theorem tf_bool85 : tbool Tryd.prog 85 = false := by kernel_rfl
@[simp] theorem tf_ptr85 : tptr Tryd.prog 85 = false := by kernel_rfl
@[simp] theorem tf_bytes85 : tbytes Tryd.prog 85 = false := by kernel_rfl
@[simp] theorem tf_zc85 : tzc Tryd.prog 85 = some [.raw .nilFunc] := by kernel_rfl
@[simp] theorem tf_sz86 : tsz Tryd.prog 86 = some 1 := by kernel_rfl
@[simp] theorem tf_by86 : tby Tryd.prog 86 = some 8 := by kernel_rfl
@[simp] theorem tf_row86 : trow Tryd.prog 86 = some false := by kernel_rfl
@[simp] theorem tf_und86 : (Tryd.prog.underlying 86).isSome = true := by kernel_rfl
@[simp] theorem tf_sl86 : tsl Tryd.prog 86 = none := by kernel_rfl
@[simp] theorem tf_el86 : tel Tryd.prog 86 = none := by kernel_rfl
@[simp] theorem tf_int86 : tint Tryd.prog 86 = none := by kernel_rfl
@[simp] theorem tf_str86 : tstr Tryd.prog 86 = false := by kernel_rfl
@[simp] theorem tf_bool86 : tbool Tryd.prog 86 = false := by kernel_rfl
@[simp] theorem tf_ptr86 : tptr Tryd.prog 86 = false := by kernel_rfl
@[simp] theorem tf_bytes86 : tbytes Tryd.prog 86 = false := by kernel_rfl
@[simp] theorem tf_zc86 : tzc Tryd.prog 86 = some [.raw .nilFunc] := by kernel_rfl
@[simp] theorem tf_sz87 : tsz Tryd.prog 87 = some 1 := by kernel_rfl
@[simp] theorem tf_by87 : tby Tryd.prog 87 = some 8 := by kernel_rfl
@[simp] theorem tf_row87 : trow Tryd.prog 87 = some false := by kernel_rfl
@[simp] theorem tf_und87 : (Tryd.prog.underlying 87).isSome = true := by kernel_rfl
@[simp] theorem tf_sl87 : tsl Tryd.prog 87 = none := by kernel_rfl
@[simp] theorem tf_el87 : tel Tryd.prog 87 = none := by kernel_rfl
@[simp] theorem tf_int87 : tint Tryd.prog 87 = none := by kernel_rfl
@[simp] theorem tf_str87 : tstr Tryd.prog 87 = false := by kernel_rfl
@[simp] theorem tf_bool87 : tbool Tryd.prog 87 = false := by kernel_rfl
@[simp] theorem tf_ptr87 : tptr Tryd.prog 87 = false := by kernel_rfl
@[simp] theorem tf_bytes87 : tbytes Tryd.prog 87 = false := by kernel_rfl
@[simp] theorem tf_zc87 : tzc Tryd.prog 87 = some [.raw .nilFunc] := by kernel_rfl
@[simp] theorem tf_sz89 : tsz Tryd.prog 89 = some 1 := by kernel_rfl
@[simp] theorem tf_by89 : tby Tryd.prog 89 = some 8 := by kernel_rfl
@[simp] theorem tf_row89 : trow Tryd.prog 89 = some false := by kernel_rfl
@[simp] theorem tf_und89 : (Tryd.prog.underlying 89).isSome = true := by kernel_rfl
@[simp] theorem tf_sl89 : tsl Tryd.prog 89 = none := by kernel_rfl
@[simp] theorem tf_el89 : tel Tryd.prog 89 = none := by kernel_rfl
@[simp] theorem tf_int89 : tint Tryd.prog 89 = none := by kernel_rfl
@[simp] theorem tf_str89 : tstr Tryd.prog 89 = false := by kernel_rfl
@[simp] theorem tf_bool89 : tbool Tryd.prog 89 = false := by kernel_rfl
@[simp] theorem tf_ptr89 : tptr Tryd.prog 89 = false := by kernel_rfl
@[simp] theorem tf_bytes89 : tbytes Tryd.prog 89 = false := by kernel_rfl
@[simp] theorem tf_zc89 : tzc Tryd.prog 89 = some [.raw .nilFunc] := by kernel_rfl
@[simp] theorem tf_sz90 : tsz Tryd.prog 90 = some 1 := by kernel_rfl
@[simp] theorem tf_by90 : tby Tryd.prog 90 = some 8 := by kernel_rfl
@[simp] theorem tf_row90 : trow Tryd.prog 90 = some false := by kernel_rfl
@[simp] theorem tf_und90 : (Tryd.prog.underlying 90).isSome = true := by kernel_rfl
@[simp] theorem tf_sl90 : tsl Tryd.prog 90 = none := by kernel_rfl
@[simp] theorem tf_el90 : tel Tryd.prog 90 = none := by kernel_rfl
@[simp] theorem tf_int90 : tint Tryd.prog 90 = none := by kernel_rfl
@[simp] theorem tf_str90 : tstr Tryd.prog 90 = false := by kernel_rfl
@[simp] theorem tf_bool90 : tbool Tryd.prog 90 = false := by kernel_rfl
@[simp] theorem tf_ptr90 : tptr Tryd.prog 90 = false := by kernel_rfl
@[simp] theorem tf_bytes90 : tbytes Tryd.prog 90 = false := by kernel_rfl
@[simp] theorem tf_zc90 : tzc Tryd.prog 90 = some [.raw .nilFunc] := by kernel_rfl
@[simp] theorem tf_sz91 : tsz Tryd.prog 91 = some 1 := by kernel_rfl
@[simp] theorem tf_by91 : tby Tryd.prog 91 = some 8 := by kernel_rfl
@[simp] theorem tf_row91 : trow Tryd.prog 91 = some false := by kernel_rfl
@[simp] theorem tf_und91 : (Tryd.prog.underlying 91).isSome = true := by kernel_rfl
@[simp] theorem tf_sl91 : tsl Tryd.prog 91 = none := by kernel_rfl
@[simp] theorem tf_el91 : tel Tryd.prog 91 = none := by kernel_rfl
@[simp] theorem tf_int91 : tint Tryd.prog 91 = none := by kernel_rfl
@[simp] theorem tf_str91 : tstr Tryd.prog 91 = false := by kernel_rfl
@[simp] theorem tf_bool91 : tbool Tryd.prog 91 = false := by kernel_rfl
@[simp] theorem tf_ptr91 : tptr Tryd.prog 91 = false := by kernel_rfl
@[simp] theorem tf_bytes91 : tbytes Tryd.prog 91 = false := by kernel_rfl
@[simp] theorem tf_zc91 : tzc Tryd.prog 91 = some [.raw .nilFunc] := by kernel_rfl
@[simp] theorem tf_sz93 : tsz Tryd.prog 93 = some 1 := by kernel_rfl
@[simp] theorem tf_by93 : tby Tryd.prog 93 = some 8 := by kernel_rfl
@[simp] theorem tf_row93 : trow Tryd.prog 93 = some false := by kernel_rfl
@[simp] theorem tf_und93 : (Tryd.prog.underlying 93).isSome = true := by kernel_rfl
@[simp] theorem tf_sl93 : tsl Tryd.prog 93 = none := by kernel_rfl
@[simp] theorem tf_el93 : tel Tryd.prog 93 = none := by kernel_rfl
@[simp] theorem tf_int93 : tint Tryd.prog 93 = none := by kernel_rfl
@[simp] theorem tf_str93 : tstr Tryd.prog 93 = false := by kernel_rfl
@[simp] theorem tf_bool93 : tbool Tryd.prog 93 = false := by kernel_rfl
@[simp] theorem tf_ptr93 : tptr Tryd.prog 93 = false := by kernel_rfl
@[simp] theorem tf_bytes93 : tbytes Tryd.prog 93 = false := by kernel_rfl
@[simp] theorem tf_zc93 : tzc Tryd.prog 93 = some [.raw .nilFunc] := by kernel_rfl
@[simp] theorem tf_sz94 : tsz Tryd.prog 94 = some 1 := by kernel_rfl
@[simp] theorem tf_by94 : tby Tryd.prog 94 = some 24 := by kernel_rfl
@[simp] theorem tf_row94 : trow Tryd.prog 94 = some false := by kernel_rfl
@[simp] theorem tf_und94 : (Tryd.prog.underlying 94).isSome = true := by kernel_rfl
@[simp] theorem tf_sl94 : tsl Tryd.prog 94 = some 9 := by kernel_rfl
@[simp] theorem tf_el94 : tel Tryd.prog 94 = some 1 := by kernel_rfl
@[simp] theorem tf_int94 : tint Tryd.prog 94 = none := by kernel_rfl
@[simp] theorem tf_str94 : tstr Tryd.prog 94 = false := by kernel_rfl
@[simp] theorem tf_bool94 : tbool Tryd.prog 94 = false := by kernel_rfl
@[simp] theorem tf_ptr94 : tptr Tryd.prog 94 = false := by kernel_rfl
@[simp] theorem tf_bytes94 : tbytes Tryd.prog 94 = false := by kernel_rfl
@[simp] theorem tf_zc94 : tzc Tryd.prog 94 = some [.nil] := by kernel_rfl
@[simp] theorem tf_sz95 : tsz Tryd.prog 95 = some 1 := by kernel_rfl
@[simp] theorem tf_by95 : tby Tryd.prog 95 = some 8 := by kernel_rfl
@[simp] theorem tf_row95 : trow Tryd.prog 95 = some false := by kernel_rfl
@[simp] theorem tf_und95 : (Tryd.prog.underlying 95).isSome = true := by kernel_rfl
@[simp] theorem tf_sl95 : tsl Tryd.prog 95 = none := by kernel_rfl
@[simp] theorem tf_el95 : tel Tryd.prog 95 = none := by kernel_rfl
@[simp] theorem tf_int95 : tint Tryd.prog 95 = none := by kernel_rfl
@[simp] theorem tf_str95 : tstr Tryd.prog 95 = false := by kernel_rfl
@[simp] theorem tf_bool95 : tbool Tryd.prog 95 = false := by kernel_rfl
@[simp] theorem tf_ptr95 : tptr Tryd.prog 95 = false := by kernel_rfl
@[simp] theorem tf_bytes95 : tbytes Tryd.prog 95 = false := by kernel_rfl
@[simp] theorem tf_zc95 : tzc Tryd.prog 95 = some [.raw .nilFunc] := by kernel_rfl
@[simp] theorem tf_sz96 : tsz Tryd.prog 96 = some 1 := by kernel_rfl
@[simp] theorem tf_by96 : tby Tryd.prog 96 = some 8 := by kernel_rfl
@[simp] theorem tf_row96 : trow Tryd.prog 96 = some false := by kernel_rfl
@[simp] theorem tf_und96 : (Tryd.prog.underlying 96).isSome = true := by kernel_rfl
@[simp] theorem tf_sl96 : tsl Tryd.prog 96 = none := by kernel_rfl
@[simp] theorem tf_el96 : tel Tryd.prog 96 = none := by kernel_rfl
@[simp] theorem tf_int96 : tint Tryd.prog 96 = none := by kernel_rfl
@[simp] theorem tf_str96 : tstr Tryd.prog 96 = false := by kernel_rfl
@[simp] theorem tf_bool96 : tbool Tryd.prog 96 = false := by kernel_rfl
@[simp] theorem tf_ptr96 : tptr Tryd.prog 96 = false := by kernel_rfl
@[simp] theorem tf_bytes96 : tbytes Tryd.prog 96 = false := by kernel_rfl
@[simp] theorem tf_zc96 : tzc Tryd.prog 96 = some [.raw .nilFunc] := by kernel_rfl
@[simp] theorem tf_sz97 : tsz Tryd.prog 97 = some 5 := by kernel_rfl
@[simp] theorem tf_by97 : tby Tryd.prog 97 = some 64 := by kernel_rfl
@[simp] theorem tf_row97 : trow Tryd.prog 97 = some true := by kernel_rfl
@[simp] theorem tf_und97 : (Tryd.prog.underlying 97).isSome = true := by kernel_rfl
@[simp] theorem tf_sl97 : tsl Tryd.prog 97 = none := by kernel_rfl
@[simp] theorem tf_el97 : tel Tryd.prog 97 = none := by kernel_rfl
@[simp] theorem tf_int97 : tint Tryd.prog 97 = none := by kernel_rfl
@[simp] theorem tf_str97 : tstr Tryd.prog 97 = false := by kernel_rfl
@[simp] theorem tf_bool97 : tbool Tryd.prog 97 = false := by kernel_rfl
@[simp] theorem tf_ptr97 : tptr Tryd.prog 97 = false := by kernel_rfl
@[simp] theorem tf_bytes97 : tbytes Tryd.prog 97 = false := by kernel_rfl
@[simp] theorem tf_zc97 : tzc Tryd.prog 97 = some [.int .i64 0, .int .i64 0, .bool false, .str [], .nil] := by kernel_rfl
@[simp] theorem tf_pl97 : tplaces Tryd.prog 97 = some [(0, 1), (1, 1), (2, 1), (3, 1), (4, 1)] := by kernel_rfl
@[simp] theorem tf_fld97x0 : tfld Tryd.prog 97 0 = some (0, 1, false) := by kernel_rfl
@[simp] theorem tf_fld97x1 : tfld Tryd.prog 97 1 = some (1, 1, false) := by kernel_rfl
@[simp] theorem tf_fld97x2 : tfld Tryd.prog 97 2 = some (2, 1, false) := by kernel_rfl
@[simp] theorem tf_fld97x3 : tfld Tryd.prog 97 3 = some (3, 1, false) := by kernel_rfl
@[simp] theorem tf_fld97x4 : tfld Tryd.prog 97 4 = some (4, 1, false) := by kernel_rfl
@[simp] theorem tf_sz98 : tsz Tryd.prog 98 = some 5 := by kernel_rfl
@[simp] theorem tf_by98 : tby Tryd.prog 98 = some 64 := by kernel_rfl
@[simp] theorem tf_row98 : trow Tryd.prog 98 = some true := by kernel_rfl
@[simp] theorem tf_und98 : (Tryd.prog.underlying 98).isSome = true := by kernel_rfl
@[simp] theorem tf_sl98 : tsl Tryd.prog 98 = none := by kernel_rfl
@[simp] theorem tf_el98 : tel Tryd.prog 98 = none := by kernel_rfl
@[simp] theorem tf_int98 : tint Tryd.prog 98 = none := by kernel_rfl
@[simp] theorem tf_str98 : tstr Tryd.prog 98 = false := by kernel_rfl
@[simp] theorem tf_bool98 : tbool Tryd.prog 98 = false := by kernel_rfl
@[simp] theorem tf_ptr98 : tptr Tryd.prog 98 = false := by kernel_rfl
@[simp] theorem tf_bytes98 : tbytes Tryd.prog 98 = false := by kernel_rfl
@[simp] theorem tf_zc98 : tzc Tryd.prog 98 = some [.int .i64 0, .int .i64 0, .bool false, .str [], .nil] := by kernel_rfl
@[simp] theorem tf_pl98 : tplaces Tryd.prog 98 = some [(0, 1), (1, 1), (2, 1), (3, 1), (4, 1)] := by kernel_rfl
@[simp] theorem tf_fld98x0 : tfld Tryd.prog 98 0 = some (0, 1, false) := by kernel_rfl
@[simp] theorem tf_fld98x1 : tfld Tryd.prog 98 1 = some (1, 1, false) := by kernel_rfl
@[simp] theorem tf_fld98x2 : tfld Tryd.prog 98 2 = some (2, 1, false) := by kernel_rfl
@[simp] theorem tf_fld98x3 : tfld Tryd.prog 98 3 = some (3, 1, false) := by kernel_rfl
@[simp] theorem tf_fld98x4 : tfld Tryd.prog 98 4 = some (4, 1, false) := by kernel_rfl
@[simp] theorem tf_sz99 : tsz Tryd.prog 99 = some 1 := by kernel_rfl
@[simp] theorem tf_by99 : tby Tryd.prog 99 = some 8 := by kernel_rfl
@[simp] theorem tf_row99 : trow Tryd.prog 99 = some false := by kernel_rfl
@[simp] theorem tf_und99 : (Tryd.prog.underlying 99).isSome = true := by kernel_rfl
@[simp] theorem tf_sl99 : tsl Tryd.prog 99 = none := by kernel_rfl
@[simp] theorem tf_el99 : tel Tryd.prog 99 = none := by kernel_rfl
@[simp] theorem tf_int99 : tint Tryd.prog 99 = none := by kernel_rfl
@[simp] theorem tf_str99 : tstr Tryd.prog 99 = false := by kernel_rfl
@[simp] theorem tf_bool99 : tbool Tryd.prog 99 = false := by kernel_rfl
@[simp] theorem tf_ptr99 : tptr Tryd.prog 99 = false := by kernel_rfl
@[simp] theorem tf_bytes99 : tbytes Tryd.prog 99 = false := by kernel_rfl
@[simp] theorem tf_zc99 : tzc Tryd.prog 99 = some [.raw .nilFunc] := by kernel_rfl
@[simp] theorem tf_sz100 : tsz Tryd.prog 100 = some 1 := by kernel_rfl
@[simp] theorem tf_by100 : tby Tryd.prog 100 = some 8 := by kernel_rfl
@[simp] theorem tf_row100 : trow Tryd.prog 100 = some false := by kernel_rfl
@[simp] theorem tf_und100 : (Tryd.prog.underlying 100).isSome = true := by kernel_rfl
@[simp] theorem tf_sl100 : tsl Tryd.prog 100 = none := by kernel_rfl
@[simp] theorem tf_el100 : tel Tryd.prog 100 = none := by kernel_rfl
@[simp] theorem tf_int100 : tint Tryd.prog 100 = none := by kernel_rfl
@[simp] theorem tf_str100 : tstr Tryd.prog 100 = false := by kernel_rfl
@[simp] theorem tf_bool100 : tbool Tryd.prog 100 = false := by kernel_rfl
@[simp] theorem tf_ptr100 : tptr Tryd.prog 100 = false := by kernel_rfl
@[simp] theorem tf_bytes100 : tbytes Tryd.prog 100 = false := by kernel_rfl
@[simp] theorem tf_zc100 : tzc Tryd.prog 100 = some [.raw .nilFunc] := by kernel_rfl
@[simp] theorem tf_sz101 : tsz Tryd.prog 101 = some 1 := by kernel_rfl
@[simp] theorem tf_by101 : tby Tryd.prog 101 = some 8 := by kernel_rfl
@[simp] theorem tf_row101 : trow Tryd.prog 101 = some false := by kernel_rfl
@[simp] theorem tf_und101 : (Tryd.prog.underlying 101).isSome = true := by kernel_rfl
@[simp] theorem tf_sl101 : tsl Tryd.prog 101 = none := by kernel_rfl
@[simp] theorem tf_el101 : tel Tryd.prog 101 = none := by kernel_rfl
@[simp] theorem tf_int101 : tint Tryd.prog 101 = none := by kernel_rfl
@[simp] theorem tf_str101 : tstr Tryd.prog 101 = false := by kernel_rfl
@[simp] theorem tf_bool101 : tbool Tryd.prog 101 = false := by kernel_rfl
@[simp] theorem tf_ptr101 : tptr Tryd.prog 101 = false := by kernel_rfl
@[simp] theorem tf_bytes101 : tbytes Tryd.prog 101 = false := by kernel_rfl
@[simp] theorem tf_zc101 : tzc Tryd.prog 101 = some [.raw .nilFunc] := by kernel_rfl
@[simp] theorem tf_sz102 : tsz Tryd.prog 102 = some 1 := by kernel_rfl
@[simp] theorem tf_by102 : tby Tryd.prog 102 = some 8 := by kernel_rfl
@[simp] theorem tf_row102 : trow Tryd.prog 102 = some false := by kernel_rfl
@[simp] theorem tf_und102 : (Tryd.prog.underlying 102).isSome = true := by kernel_rfl
@[simp] theorem tf_sl102 : tsl Tryd.prog 102 = none := by kernel_rfl
@[simp] theorem tf_el102 : tel Tryd.prog 102 = none := by kernel_rfl
@[simp] theorem tf_int102 : tint Tryd.prog 102 = none := by kernel_rfl
@[simp] theorem tf_str102 : tstr Tryd.prog 102 = false := by kernel_rfl
@[simp] theorem tf_bool102 : tbool Tryd.prog 102 = false := by kernel_rfl
@[simp] theorem tf_ptr102 : tptr Tryd.prog 102 = false := by kernel_rfl
@[simp] theorem tf_bytes102 : tbytes Tryd.prog 102 = false := by kernel_rfl
@[simp] theorem tf_zc102 : tzc Tryd.prog 102 = some [.raw .nilFunc] := by kernel_rfl
@[simp] theorem tf_sz103 : tsz Tryd.prog 103 = some 1 := by kernel_rfl
@[simp] theorem tf_by103 : tby Tryd.prog 103 = some 8 := by kernel_rfl
@[simp] theorem tf_row103 : trow Tryd.prog 103 = some false := by kernel_rfl
@[simp] theorem tf_und103 : (Tryd.prog.underlying 103).isSome = true := by kernel_rfl
@[simp] theorem tf_sl103 : tsl Tryd.prog 103 = none := by kernel_rfl
@[simp] theorem tf_el103 : tel Tryd.prog 103 = none := by kernel_rfl
@[simp] theorem tf_int103 : tint Tryd.prog 103 = none := by kernel_rfl
@[simp] theorem tf_str103 : tstr Tryd.prog 103 = false := by kernel_rfl
@[simp] theorem tf_bool103 : tbool Tryd.prog 103 = false := by kernel_rfl
@[simp] theorem tf_ptr103 : tptr Tryd.prog 103 = false := by kernel_rfl
@[simp] theorem tf_bytes103 : tbytes Tryd.prog 103 = false := by kernel_rfl
@[simp] theorem tf_zc103 : tzc Tryd.prog 103 = some [.raw .nilFunc] := by kernel_rfl
@[simp] theorem tf_sz104 : tsz Tryd.prog 104 = some 1 := by kernel_rfl
@[simp] theorem tf_by104 : tby Tryd.prog 104 = some 24 := by kernel_rfl
@[simp] theorem tf_row104 : trow Tryd.prog 104 = some false := by kernel_rfl
@[simp] theorem tf_und104 : (Tryd.prog.underlying 104).isSome = true := by kernel_rfl
@[simp] theorem tf_sl104 : tsl Tryd.prog 104 = some 5 := by kernel_rfl
@[simp] theorem tf_el104 : tel Tryd.prog 104 = some 1 := by kernel_rfl
@[simp] theorem tf_int104 : tint Tryd.prog 104 = none := by kernel_rfl
@[simp] theorem tf_str104 : tstr Tryd.prog 104 = false := by kernel_rfl
@[simp] theorem tf_bool104 : tbool Tryd.prog 104 = false := by kernel_rfl
@[simp] theorem tf_ptr104 : tptr Tryd.prog 104 = false := by kernel_rfl
@[simp] theorem tf_bytes104 : tbytes Tryd.prog 104 = true := by kernel_rfl
@[simp] theorem tf_zc104 : tzc Tryd.prog 104 = some [.nil] := by kernel_rfl
@[simp] theorem tf_sz105 : tsz Tryd.prog 105 = some 12 := by kernel_rfl
@[simp] theorem tf_by105 : tby Tryd.prog 105 = some 144 := by kernel_rfl
@[simp] theorem tf_row105 : trow Tryd.prog 105 = some true := by kernel_rfl
@[simp] theorem tf_und105 : (Tryd.prog.underlying 105).isSome = true := by kernel_rfl
@[simp] theorem tf_sl105 : tsl Tryd.prog 105 = none := by kernel_rfl
@[simp] theorem tf_el105 : tel Tryd.prog 105 = none := by kernel_rfl
@[simp] theorem tf_int105 : tint Tryd.prog 105 = none := by kernel_rfl
@[simp] theorem tf_str105 : tstr Tryd.prog 105 = false := by kernel_rfl
@[simp] theorem tf_bool105 : tbool Tryd.prog 105 = false := by kernel_rfl
@[simp] theorem tf_ptr105 : tptr Tryd.prog 105 = false := by kernel_rfl
@[simp] theorem tf_bytes105 : tbytes Tryd.prog 105 = false := by kernel_rfl
@[simp] theorem tf_zc105 : tzc Tryd.prog 105 = some [.int .i64 0, .int .i64 0, .int .i64 0, .raw .nilFunc, .nil, .int .i64 0, .nil, .nil, .int .i64 0, .int .i64 0, .bool false, .int .i64 0] := by kernel_rfl
@[simp] theorem tf_pl105 : tplaces Tryd.prog 105 = some [(0, 1), (1, 1), (2, 1), (3, 1), (4, 1), (5, 1), (6, 1), (7, 1), (8, 1), (9, 1), (10, 1), (11, 1)] := by kernel_rfl
@[simp] theorem tf_fld105x0 : tfld Tryd.prog 105 0 = some (0, 1, false) := by kernel_rfl
@[simp] theorem tf_fld105x1 : tfld Tryd.prog 105 1 = some (1, 1, false) := by kernel_rfl
@[simp] theorem tf_fld105x2 : tfld Tryd.prog 105 2 = some (2, 1, false) := by kernel_rfl
@[simp] theorem tf_fld105x3 : tfld Tryd.prog 105 3 = some (3, 1, false) := by kernel_rfl
@[simp] theorem tf_fld105x4 : tfld Tryd.prog 105 4 = some (4, 1, false) := by kernel_rfl
@[simp] theorem tf_fld105x5 : tfld Tryd.prog 105 5 = some (5, 1, false) := by kernel_rfl
@[simp] theorem tf_fld105x6 : tfld Tryd.prog 105 6 = some (6, 1, false) := by kernel_rfl
@[simp] theorem tf_fld105x7 : tfld Tryd.prog 105 7 = some (7, 1, false) := by kernel_rfl
@[simp] theorem tf_fld105x8 : tfld Tryd.prog 105 8 = some (8, 1, false) := by kernel_rfl
@[simp] theorem tf_fld105x9 : tfld Tryd.prog 105 9 = some (9, 1, false) := by kernel_rfl
@[simp] theorem tf_fld105x10 : tfld Tryd.prog 105 10 = some (10, 1, false) := by kernel_rfl
@[simp] theorem tf_fld105x11 : tfld Tryd.prog 105 11 = some (11, 1, false) := by kernel_rfl
@[simp] theorem tf_sz106 : tsz Tryd.prog 106 = some 12 := by kernel_rfl
@[simp] theorem tf_by106 : tby Tryd.prog 106 = some 144 := by kernel_rfl
@[simp] theorem tf_row106 : trow Tryd.prog 106 = some true := by kernel_rfl
@[simp] theorem tf_und106 : (Tryd.prog.underlying 106).isSome = true := by kernel_rfl
@[simp] theorem tf_sl106 : tsl Tryd.prog 106 = none := by kernel_rfl
@[simp] theorem tf_el106 : tel Tryd.prog 106 = none := by kernel_rfl
@[simp] theorem tf_int106 : tint Tryd.prog 106 = none := by kernel_rfl
@[simp] theorem tf_str106 : tstr Tryd.prog 106 = false := by kernel_rfl
@[simp] theorem tf_bool106 : tbool Tryd.prog 106 = false := by kernel_rfl
@[simp] theorem tf_ptr106 : tptr Tryd.prog 106 = false := by kernel_rfl
@[simp] theorem tf_bytes106 : tbytes Tryd.prog 106 = false := by kernel_rfl
@[simp] theorem tf_zc106 : tzc Tryd.prog 106 = some [.int .i64 0, .int .i64 0, .int .i64 0, .raw .nilFunc, .nil, .int .i64 0, .nil, .nil, .int .i64 0, .int .i64 0, .bool false, .int .i64 0] := by kernel_rfl
@[simp] theorem tf_pl106 : tplaces Tryd.prog 106 = some [(0, 1), (1, 1), (2, 1), (3, 1), (4, 1), (5, 1), (6, 1), (7, 1), (8, 1), (9, 1), (10, 1), (11, 1)] := by kernel_rfl
@[simp] theorem tf_fld106x0 : tfld Tryd.prog 106 0 = some (0, 1, false) := by kernel_rfl
@[simp] theorem tf_fld106x1 : tfld Tryd.prog 106 1 = some (1, 1, false) := by kernel_rfl
@[simp] theorem tf_fld106x2 : tfld Tryd.prog 106 2 = some (2, 1, false) := by kernel_rfl
@[simp] theorem tf_fld106x3 : tfld Tryd.prog 106 3 = some (3, 1, false) := by kernel_rfl
@[simp] theorem tf_fld106x4 : tfld Tryd.prog 106 4 = some (4, 1, false) := by kernel_rfl
@[simp] theorem tf_fld106x5 : tfld Tryd.prog 106 5 = some (5, 1, false) := by kernel_rfl
@[simp] theorem tf_fld106x6 : tfld Tryd.prog 106 6 = some (6, 1, false) := by kernel_rfl
@[simp] theorem tf_fld106x7 : tfld Tryd.prog 106 7 = some (7, 1, false) := by kernel_rfl
@[simp] theorem tf_fld106x8 : tfld Tryd.prog 106 8 = some (8, 1, false) := by kernel_rfl
@[simp] theorem tf_fld106x9 : tfld Tryd.prog 106 9 = some (9, 1, false) := by kernel_rfl
@[simp] theorem tf_fld106x10 : tfld Tryd.prog 106 10 = some (10, 1, false) := by kernel_rfl
@[simp] theorem tf_fld106x11 : tfld Tryd.prog 106 11 = some (11, 1, false) := by kernel_rfl
@[simp] theorem tf_sz107 : tsz Tryd.prog 107 = some 1 := by kernel_rfl
@[simp] theorem tf_by107 : tby Tryd.prog 107 = some 8 := by kernel_rfl
@[simp] theorem tf_row107 : trow Tryd.prog 107 = some false := by kernel_rfl
@[simp] theorem tf_und107 : (Tryd.prog.underlying 107).isSome = true := by kernel_rfl
@[simp] theorem tf_sl107 : tsl Tryd.prog 107 = none := by kernel_rfl
@[simp] theorem tf_el107 : tel Tryd.prog 107 = none := by kernel_rfl
@[simp] theorem tf_int107 : tint Tryd.prog 107 = none := by kernel_rfl
@[simp] theorem tf_str107 : tstr Tryd.prog 107 = false := by kernel_rfl
@[simp] theorem tf_bool107 : tbool Tryd.prog 107 = false := by kernel_rfl
@[simp] theorem tf_ptr107 : tptr Tryd.prog 107 = false := by kernel_rfl
@[simp] theorem tf_bytes107 : tbytes Tryd.prog 107 = false := by kernel_rfl
@[simp] theorem tf_zc107 : tzc Tryd.prog 107 = some [.raw .nilFunc] := by kernel_rfl
@[simp] theorem tf_sz108 : tsz Tryd.prog 108 = some 1 := by kernel_rfl
@[simp] theorem tf_by108 : tby Tryd.prog 108 = some 8 := by kernel_rfl
@[simp] theorem tf_row108 : trow Tryd.prog 108 = some false := by kernel_rfl
@[simp] theorem tf_und108 : (Tryd.prog.underlying 108).isSome = true := by kernel_rfl
@[simp] theorem tf_sl108 : tsl Tryd.prog 108 = none := by kernel_rfl
@[simp] theorem tf_el108 : tel Tryd.prog 108 = none := by kernel_rfl
@[simp] theorem tf_int108 : tint Tryd.prog 108 = none := by kernel_rfl
@[simp] theorem tf_str108 : tstr Tryd.prog 108 = false := by kernel_rfl
@[simp] theorem tf_bool108 : tbool Tryd.prog 108 = false := by kernel_rfl
@[simp] theorem tf_ptr108 : tptr Tryd.prog 108 = false := by kernel_rfl
@[simp] theorem tf_bytes108 : tbytes Tryd.prog 108 = false := by kernel_rfl
@[simp] theorem tf_zc108 : tzc Tryd.prog 108 = some [.raw .nilFunc] := by kernel_rfl
@[simp] theorem tf_sz109 : tsz Tryd.prog 109 = some 1 := by kernel_rfl
@[simp] theorem tf_by109 : tby Tryd.prog 109 = some 8 := by kernel_rfl
@[simp] theorem tf_row109 : trow Tryd.prog 109 = some false := by kernel_rfl
@[simp] theorem tf_und109 : (Tryd.prog.underlying 109).isSome = true := by kernel_rfl
@[simp] theorem tf_sl109 : tsl Tryd.prog 109 = none := by kernel_rfl
@[simp] theorem tf_el109 : tel Tryd.prog 109 = none := by kernel_rfl
@[simp] theorem tf_int109 : tint Tryd.prog 109 = none := by kernel_rfl
@[simp] theorem tf_str109 : tstr Tryd.prog 109 = false := by kernel_rfl
@[simp] theorem tf_bool109 : tbool Tryd.prog 109 = false := by kernel_rfl
@[simp] theorem tf_ptr109 : tptr Tryd.prog 109 = false := by kernel_rfl
@[simp] theorem tf_bytes109 : tbytes Tryd.prog 109 = false := by kernel_rfl
@[simp] theorem tf_zc109 : tzc Tryd.prog 109 = some [.raw .nilFunc] := by kernel_rfl
@[simp] theorem tf_sz111 : tsz Tryd.prog 111 = some 1 := by kernel_rfl
@[simp] theorem tf_by111 : tby Tryd.prog 111 = some 8 := by kernel_rfl
@[simp] theorem tf_row111 : trow Tryd.prog 111 = some false := by kernel_rfl
@[simp] theorem tf_und111 : (Tryd.prog.underlying 111).isSome = true := by kernel_rfl
@[simp] theorem tf_sl111 : tsl Tryd.prog 111 = none := by kernel_rfl
@[simp] theorem tf_el111 : tel Tryd.prog 111 = none := by kernel_rfl
@[simp] theorem tf_int111 : tint Tryd.prog 111 = none := by kernel_rfl
@[simp] theorem tf_str111 : tstr Tryd.prog 111 = false := by kernel_rfl
@[simp] theorem tf_bool111 : tbool Tryd.prog 111 = false := by kernel_rfl
@[simp] theorem tf_ptr111 : tptr Tryd.prog 111 = false := by kernel_rfl
@[simp] theorem tf_bytes111 : tbytes Tryd.prog 111 = false := by kernel_rfl
@[simp] theorem tf_zc111 : tzc Tryd.prog 111 = some [.raw .nilFunc] := by kernel_rfl
@[simp] theorem tf_sz112 : tsz Tryd.prog 112 = some 1 := by kernel_rfl
@[simp] theorem tf_by112 : tby Tryd.prog 112 = some 8 := by kernel_rfl
@[simp] theorem tf_row112 : trow Tryd.prog 112 = some false := by kernel_rfl
@[simp] theorem tf_und112 : (Tryd.prog.underlying 112).isSome = true := by kernel_rfl
@[simp] theorem tf_sl112 : tsl Tryd.prog 112 = none := by kernel_rfl
@[simp] theorem tf_el112 : tel Tryd.prog 112 = none := by kernel_rfl
@[simp] theorem tf_int112 : tint Tryd.prog 112 = none := by kernel_rfl
@[simp] theorem tf_str112 : tstr Tryd.prog 112 = false := by kernel_rfl
@[simp] theorem tf_bool112 : tbool Tryd.prog 112 = false := by kernel_rfl
@[simp] theorem tf_ptr112 : tptr Tryd.prog 112 = false := by kernel_rfl
@[simp] theorem tf_bytes112 : tbytes Tryd.prog 112 = false := by kernel_rfl
@[simp] theorem tf_zc112 : tzc Tryd.prog 112 = some [.raw .nilFunc] := by kernel_rfl
@[simp] theorem tf_sz113 : tsz Tryd.prog 113 = some 1 := by kernel_rfl
@[simp] theorem tf_by113 : tby Tryd.prog 113 = some 8 := by kernel_rfl
@[simp] theorem tf_row113 : trow Tryd.prog 113 = some false := by kernel_rfl
@[simp] theorem tf_und113 : (Tryd.prog.underlying 113).isSome = true := by kernel_rfl
@[simp] theorem tf_sl113 : tsl Tryd.prog 113 = none := by kernel_rfl
@[simp] theorem tf_el113 : tel Tryd.prog 113 = none := by kernel_rfl
@[simp] theorem tf_int113 : tint Tryd.prog 113 = none := by kernel_rfl
@[simp] theorem tf_str113 : tstr Tryd.prog 113 = false := by kernel_rfl
@[simp] theorem tf_bool113 : tbool Tryd.prog 113 = false := by kernel_rfl
@[simp] theorem tf_ptr113 : tptr Tryd.prog 113 = true := by kernel_rfl
@[simp] theorem tf_bytes113 : tbytes Tryd.prog 113 = false := by kernel_rfl
@[simp] theorem tf_zc113 : tzc Tryd.prog 113 = some [.ptr none] := by kernel_rfl
@[simp] theorem tf_sz114 : tsz Tryd.prog 114 = some 2 := by kernel_rfl
@[simp] theorem tf_by114 : tby Tryd.prog 114 = some 32 := by kernel_rfl
@[simp] theorem tf_row114 : trow Tryd.prog 114 = some true := by kernel_rfl
@[simp] theorem tf_und114 : (Tryd.prog.underlying 114).isSome = true := by kernel_rfl
@[simp] theorem tf_sl114 : tsl Tryd.prog 114 = none := by kernel_rfl
@[simp] theorem tf_el114 : tel Tryd.prog 114 = none := by kernel_rfl
@[simp] theorem tf_int114 : tint Tryd.prog 114 = none := by kernel_rfl
@[simp] theorem tf_str114 : tstr Tryd.prog 114 = false := by kernel_rfl
@[simp] theorem tf_bool114 : tbool Tryd.prog 114 = false := by kernel_rfl
@[simp] theorem tf_ptr114 : tptr Tryd.prog 114 = false := by kernel_rfl
@[simp] theorem tf_bytes114 : tbytes Tryd.prog 114 = false := by kernel_rfl
@[simp] theorem tf_zc114 : tzc Tryd.prog 114 = some [.ptr none, .nil] := by kernel_rfl
@[simp] theorem tf_pl114 : tplaces Tryd.prog 114 = some [(0, 1), (1, 1)] := by kernel_rfl
@[simp] theorem tf_fld114x0 : tfld Tryd.prog 114 0 = some (0, 1, false) := by kernel_rfl
@[simp] theorem tf_fld114x1 : tfld Tryd.prog 114 1 = some (1, 1, false) := by kernel_rfl
@[simp] theorem tf_sz115 : tsz Tryd.prog 115 = some 2 := by kernel_rfl
@[simp] theorem tf_by115 : tby Tryd.prog 115 = some 32 := by kernel_rfl
@[simp] theorem tf_row115 : trow Tryd.prog 115 = some true := by kernel_rfl
@[simp] theorem tf_und115 : (Tryd.prog.underlying 115).isSome = true := by kernel_rfl
@[simp] theorem tf_sl115 : tsl Tryd.prog 115 = none := by kernel_rfl
@[simp] theorem tf_el115 : tel Tryd.prog 115 = none := by kernel_rfl
@[simp] theorem tf_int115 : tint Tryd.prog 115 = none := by kernel_rfl
@[simp] theorem tf_str115 : tstr Tryd.prog 115 = false := by kernel_rfl
@[simp] theorem tf_bool115 : tbool Tryd.prog 115 = false := by kernel_rfl
@[simp] theorem tf_ptr115 : tptr Tryd.prog 115 = false := by kernel_rfl
@[simp] theorem tf_bytes115 : tbytes Tryd.prog 115 = false := by kernel_rfl
@[simp] theorem tf_zc115 : tzc Tryd.prog 115 = some [.ptr none, .nil] := by kernel_rfl
@[simp] theorem tf_pl115 : tplaces Tryd.prog 115 = some [(0, 1), (1, 1)] := by kernel_rfl
@[simp] theorem tf_fld115x0 : tfld Tryd.prog 115 0 = some (0, 1, false) := by kernel_rfl
@[simp] theorem tf_fld115x1 : tfld Tryd.prog 115 1 = some (1, 1, false) := by kernel_rfl
@[simp] theorem tf_sz116 : tsz Tryd.prog 116 = some 1 := by kernel_rfl
@[simp] theorem tf_by116 : tby Tryd.prog 116 = some 8 := by kernel_rfl
@[simp] theorem tf_row116 : trow Tryd.prog 116 = some false := by kernel_rfl
@[simp] theorem tf_und116 : (Tryd.prog.underlying 116).isSome = true := by kernel_rfl
@[simp] theorem tf_sl116 : tsl Tryd.prog 116 = none := by kernel_rfl
@[simp] theorem tf_el116 : tel Tryd.prog 116 = none := by kernel_rfl
@[simp] theorem tf_int116 : tint Tryd.prog 116 = none := by kernel_rfl
@[simp] theorem tf_str116 : tstr Tryd.prog 116 = false := by kernel_rfl
@[simp] theorem tf_bool116 : tbool Tryd.prog 116 = false := by kernel_rfl
@[simp] theorem tf_ptr116 : tptr Tryd.prog 116 = false := by kernel_rfl
@[simp] theorem tf_bytes116 : tbytes Tryd.prog 116 = false := by kernel_rfl
@[simp] theorem tf_zc116 : tzc Tryd.prog 116 = some [.raw .nilFunc] := by kernel_rfl
@[simp] theorem tf_sz117 : tsz Tryd.prog 117 = some 1 := by kernel_rfl
@[simp] theorem tf_by117 : tby Tryd.prog 117 = some 16 := by kernel_rfl
@[simp] theorem tf_row117 : trow Tryd.prog 117 = some false := by kernel_rfl
@[simp] theorem tf_und117 : (Tryd.prog.underlying 117).isSome = true := by kernel_rfl
@[simp] theorem tf_sl117 : tsl Tryd.prog 117 = none := by kernel_rfl
@[simp] theorem tf_el117 : tel Tryd.prog 117 = none := by kernel_rfl
@[simp] theorem tf_int117 : tint Tryd.prog 117 = none := by kernel_rfl
@[simp] theorem tf_str117 : tstr Tryd.prog 117 = false := by kernel_rfl
@[simp] theorem tf_bool117 : tbool Tryd.prog 117 = false := by kernel_rfl
@[simp] theorem tf_ptr117 : tptr Tryd.prog 117 = false := by kernel_rfl
@[simp] theorem tf_bytes117 : tbytes Tryd.prog 117 = false := by kernel_rfl
@[simp] theorem tf_zc117 : tzc Tryd.prog 117 = some [.raw .nilIface] := by kernel_rfl
@[simp] theorem tf_sz118 : tsz Tryd.prog 118 = some 1 := by kernel_rfl
@[simp] theorem tf_by118 : tby Tryd.prog 118 = some 16 := by kernel_rfl
@[simp] theorem tf_row118 : trow Tryd.prog 118 = some false := by kernel_rfl
@[simp] theorem tf_und118 : (Tryd.prog.underlying 118).isSome = true := by kernel_rfl
@[simp] theorem tf_sl118 : tsl Tryd.prog 118 = none := by kernel_rfl
@[simp] theorem tf_el118 : tel Tryd.prog 118 = none := by kernel_rfl
@[simp] theorem tf_int118 : tint Tryd.prog 118 = none := by kernel_rfl
@[simp] theorem tf_str118 : tstr Tryd.prog 118 = false := by kernel_rfl
@[simp] theorem tf_bool118 : tbool Tryd.prog 118 = false := by kernel_rfl
@[simp] theorem tf_ptr118 : tptr Tryd.prog 118 = false := by kernel_rfl
@[simp] theorem tf_bytes118 : tbytes Tryd.prog 118 = false := by kernel_rfl
@[simp] theorem tf_zc118 : tzc Tryd.prog 118 = some [.raw .nilIface] := by kernel_rfl
@[simp] theorem tf_sz120 : tsz Tryd.prog 120 = some 1 := by kernel_rfl
@[simp] theorem tf_by120 : tby Tryd.prog 120 = some 8 := by kernel_rfl
@[simp] theorem tf_row120 : trow Tryd.prog 120 = some false := by kernel_rfl
@[simp] theorem tf_und120 : (Tryd.prog.underlying 120).isSome = true := by kernel_rfl
@[simp] theorem tf_sl120 : tsl Tryd.prog 120 = none := by kernel_rfl
@[simp] theorem tf_el120 : tel Tryd.prog 120 = none := by kernel_rfl
@[simp] theorem tf_int120 : tint Tryd.prog 120 = none := by kernel_rfl
@[simp] theorem tf_str120 : tstr Tryd.prog 120 = false := by kernel_rfl
@[simp] theorem tf_bool120 : tbool Tryd.prog 120 = false := by kernel_rfl
@[simp] theorem tf_ptr120 : tptr Tryd.prog 120 = false := by kernel_rfl
@[simp] theorem tf_bytes120 : tbytes Tryd.prog 120 = false := by kernel_rfl
@[simp] theorem tf_zc120 : tzc Tryd.prog 120 = some [.raw .nilFunc] := by kernel_rfl
@[simp] theorem tf_sz121 : tsz Tryd.prog 121 = some 1 := by kernel_rfl
@[simp] theorem tf_by121 : tby Tryd.prog 121 = some 8 := by kernel_rfl
@[simp] theorem tf_row121 : trow Tryd.prog 121 = some false := by kernel_rfl
@[simp] theorem tf_und121 : (Tryd.prog.underlying 121).isSome = true := by kernel_rfl
@[simp] theorem tf_sl121 : tsl Tryd.prog 121 = none := by kernel_rfl
@[simp] theorem tf_el121 : tel Tryd.prog 121 = none := by kernel_rfl
@[simp] theorem tf_int121 : tint Tryd.prog 121 = none := by kernel_rfl
@[simp] theorem tf_str121 : tstr Tryd.prog 121 = false := by kernel_rfl
@[simp] theorem tf_bool121 : tbool Tryd.prog 121 = false := by kernel_rfl
@[simp] theorem tf_ptr121 : tptr Tryd.prog 121 = false := by kernel_rfl
@[simp] theorem tf_bytes121 : tbytes Tryd.prog 121 = false := by kernel_rfl
@[simp] theorem tf_zc121 : tzc Tryd.prog 121 = some [.raw .nilFunc] := by kernel_rfl
@[simp] theorem tf_sz122 : tsz Tryd.prog 122 = some 1 := by kernel_rfl
@[simp] theorem tf_by122 : tby Tryd.prog 122 = some 8 := by kernel_rfl
@[simp] theorem tf_row122 : trow Tryd.prog 122 = some false := by kernel_rfl
@[simp] theorem tf_und122 : (Tryd.prog.underlying 122).isSome = true := by kernel_rfl
@[simp] theorem tf_sl122 : tsl Tryd.prog 122 = none := by kernel_rfl
@[simp] theorem tf_el122 : tel Tryd.prog 122 = none := by kernel_rfl
@[simp] theorem tf_int122 : tint Tryd.prog 122 = none := by kernel_rfl
@[simp] theorem tf_str122 : tstr Tryd.prog 122 = false := by kernel_rfl
@[simp] theorem tf_bool122 : tbool Tryd.prog 122 = false := by kernel_rfl
@[simp] theorem tf_ptr122 : tptr Tryd.prog 122 = false := by kernel_rfl
@[simp] theorem tf_bytes122 : tbytes Tryd.prog 122 = false := by kernel_rfl
@[simp] theorem tf_zc122 : tzc Tryd.prog 122 = some [.raw .nilFunc] := by kernel_rfl
@[simp] theorem tf_sz123 : tsz Tryd.prog 123 = some 1 := by kernel_rfl
@[simp] theorem tf_by123 : tby Tryd.prog 123 = some 8 := by kernel_rfl
@[simp] theorem tf_row123 : trow Tryd.prog 123 = some false := by kernel_rfl
@[simp] theorem tf_und123 : (Tryd.prog.underlying 123).isSome = true := by kernel_rfl
@[simp] theorem tf_sl123 : tsl Tryd.prog 123 = none := by kernel_rfl
@[simp] theorem tf_el123 : tel Tryd.prog 123 = none := by kernel_rfl
@[simp] theorem tf_int123 : tint Tryd.prog 123 = none := by kernel_rfl
@[simp] theorem tf_str123 : tstr Tryd.prog 123 = false := by kernel_rfl
@[simp] theorem tf_bool123 : tbool Tryd.prog 123 = false := by kernel_rfl
@[simp] theorem tf_ptr123 : tptr Tryd.prog 123 = false := by kernel_rfl
@[simp] theorem tf_bytes123 : tbytes Tryd.prog 123 = false := by kernel_rfl
@[simp] theorem tf_zc123 : tzc Tryd.prog 123 = some [.raw .nilFunc] := by kernel_rfl
@[simp] theorem tf_sz124 : tsz Tryd.prog 124 = some 1 := by kernel_rfl
@[simp] theorem tf_by124 : tby Tryd.prog 124 = some 8 := by kernel_rfl
@[simp] theorem tf_row124 : trow Tryd.prog 124 = some false := by kernel_rfl
@[simp] theorem tf_und124 : (Tryd.prog.underlying 124).isSome = true := by kernel_rfl
@[simp] theorem tf_sl124 : tsl Tryd.prog 124 = none := by kernel_rfl
@[simp] theorem tf_el124 : tel Tryd.prog 124 = none := by kernel_rfl
@[simp] theorem tf_int124 : tint Tryd.prog 124 = none := by kernel_rfl
@[simp] theorem tf_str124 : tstr Tryd.prog 124 = false := by kernel_rfl
@[simp] theorem tf_bool124 : tbool Tryd.prog 124 = false := by kernel_rfl
@[simp] theorem tf_ptr124 : tptr Tryd.prog 124 = false := by kernel_rfl
@[simp] theorem tf_bytes124 : tbytes Tryd.prog 124 = false := by kernel_rfl
@[simp] theorem tf_zc124 : tzc Tryd.prog 124 = some [.raw .nilFunc] := by kernel_rfl
@[simp] theorem tf_sz125 : tsz Tryd.prog 125 = some 1 := by kernel_rfl
@[simp] theorem tf_by125 : tby Tryd.prog 125 = some 8 := by kernel_rfl
@[simp] theorem tf_row125 : trow Tryd.prog 125 = some false := by kernel_rfl
@[simp] theorem tf_und125 : (Tryd.prog.underlying 125).isSome = true := by kernel_rfl
@[simp] theorem tf_sl125 : tsl Tryd.prog 125 = none := by kernel_rfl
@[simp] theorem tf_el125 : tel Tryd.prog 125 = none := by kernel_rfl
@[simp] theorem tf_int125 : tint Tryd.prog 125 = none := by kernel_rfl
@[simp] theorem tf_str125 : tstr Tryd.prog 125 = false := by kernel_rfl
@[simp] theorem tf_bool125 : tbool Tryd.prog 125 = false := by kernel_rfl
@[simp] theorem tf_ptr125 : tptr Tryd.prog 125 = false := by kernel_rfl
@[simp] theorem tf_bytes125 : tbytes Tryd.prog 125 = false := by kernel_rfl
@[simp] theorem tf_zc125 : tzc Tryd.prog 125 = some [.raw .nilFunc] := by kernel_rfl
@[simp] theorem tf_sz126 : tsz Tryd.prog 126 = some 1 := by kernel_rfl
@[simp] theorem tf_by126 : tby Tryd.prog 126 = some 8 := by kernel_rfl
@[simp] theorem tf_row126 : trow Tryd.prog 126 = some false := by kernel_rfl
@[simp] theorem tf_und126 : (Tryd.prog.underlying 126).isSome = true := by kernel_rfl
@[simp] theorem tf_sl126 : tsl Tryd.prog 126 = none := by kernel_rfl
@[simp] theorem tf_el126 : tel Tryd.prog 126 = none := by kernel_rfl
@[simp] theorem tf_int126 : tint Tryd.prog 126 = none := by kernel_rfl
@[simp] theorem tf_str126 : tstr Tryd.prog 126 = false := by kernel_rfl
@[simp] theorem tf_bool126 : tbool Tryd.prog 126 = false := by kernel_rfl
@[simp] theorem tf_ptr126 : tptr Tryd.prog 126 = false := by kernel_rfl
@[simp] theorem tf_bytes126 : tbytes Tryd.prog 126 = false := by kernel_rfl
@[simp] theorem tf_zc126 : tzc Tryd.prog 126 = some [.raw .nilFunc] := by kernel_rfl
@[simp] theorem tf_sz128 : tsz Tryd.prog 128 = some 1 := by kernel_rfl
@[simp] theorem tf_by128 : tby Tryd.prog 128 = some 8 := by kernel_rfl
@[simp] theorem tf_row128 : trow Tryd.prog 128 = some false := by kernel_rfl
@[simp] theorem tf_und128 : (Tryd.prog.underlying 128).isSome = true := by kernel_rfl
@[simp] theorem tf_sl128 : tsl Tryd.prog 128 = none := by kernel_rfl
@[simp] theorem tf_el128 : tel Tryd.prog 128 = none := by kernel_rfl
@[simp] theorem tf_int128 : tint Tryd.prog 128 = none := by kernel_rfl
@[simp] theorem tf_str128 : tstr Tryd.prog 128 = false := by kernel_rfl
@[simp] theorem tf_bool128 : tbool Tryd.prog 128 = false := by kernel_rfl
@[simp] theorem tf_ptr128 : tptr Tryd.prog 128 = false := by kernel_rfl
@[simp] theorem tf_bytes128 : tbytes Tryd.prog 128 = false := by kernel_rfl
@[simp] theorem tf_zc128 : tzc Tryd.prog 128 = some [.raw .nilFunc] := by kernel_rfl
@[simp] theorem tf_sz129 : tsz Tryd.prog 129 = some 1 := by kernel_rfl
@[simp] theorem tf_by129 : tby Tryd.prog 129 = some 8 := by kernel_rfl
@[simp] theorem tf_row129 : trow Tryd.prog 129 = some false := by kernel_rfl
@[simp] theorem tf_und129 : (Tryd.prog.underlying 129).isSome = true := by kernel_rfl
@[simp] theorem tf_sl129 : tsl Tryd.prog 129 = none := by kernel_rfl
@[simp] theorem tf_el129 : tel Tryd.prog 129 = none := by kernel_rfl
@[simp] theorem tf_int129 : tint Tryd.prog 129 = none := by kernel_rfl
@[simp] theorem tf_str129 : tstr Tryd.prog 129 = false := by kernel_rfl
@[simp] theorem tf_bool129 : tbool Tryd.prog 129 = false := by kernel_rfl
@[simp] theorem tf_ptr129 : tptr Tryd.prog 129 = false := by kernel_rfl
@[simp] theorem tf_bytes129 : tbytes Tryd.prog 129 = false := by kernel_rfl
@[simp] theorem tf_zc129 : tzc Tryd.prog 129 = some [.raw .nilFunc] := by kernel_rfl
@[simp] theorem tf_sz130 : tsz Tryd.prog 130 = some 1 := by kernel_rfl
@[simp] theorem tf_by130 : tby Tryd.prog 130 = some 8 := by kernel_rfl
@[simp] theorem tf_row130 : trow Tryd.prog 130 = some false := by kernel_rfl
@[simp] theorem tf_und130 : (Tryd.prog.underlying 130).isSome = true := by kernel_rfl
@[simp] theorem tf_sl130 : tsl Tryd.prog 130 = none := by kernel_rfl
@[simp] theorem tf_el130 : tel Tryd.prog 130 = none := by kernel_rfl
@[simp] theorem tf_int130 : tint Tryd.prog 130 = none := by kernel_rfl
@[simp] theorem tf_str130 : tstr Tryd.prog 130 = false := by kernel_rfl
@[simp] theorem tf_bool130 : tbool Tryd.prog 130 = false := by kernel_rfl
@[simp] theorem tf_ptr130 : tptr Tryd.prog 130 = false := by kernel_rfl
@[simp] theorem tf_bytes130 : tbytes Tryd.prog 130 = false := by kernel_rfl
@[simp] theorem tf_zc130 : tzc Tryd.prog 130 = some [.raw .nilFunc] := by kernel_rfl
@[simp] theorem tf_sz131 : tsz Tryd.prog 131 = some 1 := by kernel_rfl
@[simp] theorem tf_by131 : tby Tryd.prog 131 = some 8 := by kernel_rfl
@[simp] theorem tf_row131 : trow Tryd.prog 131 = some false := by kernel_rfl
@[simp] theorem tf_und131 : (Tryd.prog.underlying 131).isSome = true := by kernel_rfl
@[simp] theorem tf_sl131 : tsl Tryd.prog 131 = none := by kernel_rfl
@[simp] theorem tf_el131 : tel Tryd.prog 131 = none := by kernel_rfl
@[simp] theorem tf_int131 : tint Tryd.prog 131 = none := by kernel_rfl
@[simp] theorem tf_str131 : tstr Tryd.prog 131 = false := by kernel_rfl
@[simp] theorem tf_bool131 : tbool Tryd.prog 131 = false := by kernel_rfl
@[simp] theorem tf_ptr131 : tptr Tryd.prog 131 = false := by kernel_rfl
@[simp] theorem tf_bytes131 : tbytes Tryd.prog 131 = false := by kernel_rfl
@[simp] theorem tf_zc131 : tzc Tryd.prog 131 = some [.raw .nilFunc] := by kernel_rfl
@[simp] theorem tf_sz132 : tsz Tryd.prog 132 = some 1 := by kernel_rfl
@[simp] theorem tf_by132 : tby Tryd.prog 132 = some 8 := by kernel_rfl
@[simp] theorem tf_row132 : trow Tryd.prog 132 = some false := by kernel_rfl
@[simp] theorem tf_und132 : (Tryd.prog.underlying 132).isSome = true := by kernel_rfl
@[simp] theorem tf_sl132 : tsl Tryd.prog 132 = none := by kernel_rfl
@[simp] theorem tf_el132 : tel Tryd.prog 132 = none := by kernel_rfl
@[simp] theorem tf_int132 : tint Tryd.prog 132 = none := by kernel_rfl
@[simp] theorem tf_str132 : tstr Tryd.prog 132 = false := by kernel_rfl
@[simp] theorem tf_bool132 : tbool Tryd.prog 132 = false := by kernel_rfl
@[simp] theorem tf_ptr132 : tptr Tryd.prog 132 = false := by kernel_rfl
@[simp] theorem tf_bytes132 : tbytes Tryd.prog 132 = false := by kernel_rfl
@[simp] theorem tf_zc132 : tzc Tryd.prog 132 = some [.raw .nilFunc] := by kernel_rfl
@[simp] theorem tf_sz133 : tsz Tryd.prog 133 = some 1 := by kernel_rfl
@[simp] theorem tf_by133 : tby Tryd.prog 133 = some 8 := by kernel_rfl
@[simp] theorem tf_row133 : trow Tryd.prog 133 = some false := by kernel_rfl
@[simp] theorem tf_und133 : (Tryd.prog.underlying 133).isSome = true := by kernel_rfl
@[simp] theorem tf_sl133 : tsl Tryd.prog 133 = none := by kernel_rfl
@[simp] theorem tf_el133 : tel Tryd.prog 133 = none := by kernel_rfl
@[simp] theorem tf_int133 : tint Tryd.prog 133 = none := by kernel_rfl
@[simp] theorem tf_str133 : tstr Tryd.prog 133 = false := by kernel_rfl
@[simp] theorem tf_bool133 : tbool Tryd.prog 133 = false := by kernel_rfl
@[simp] theorem tf_ptr133 : tptr Tryd.prog 133 = false := by kernel_rfl
@[simp] theorem tf_bytes133 : tbytes Tryd.prog 133 = false := by kernel_rfl
@[simp] theorem tf_zc133 : tzc Tryd.prog 133 = some [.raw .nilFunc] := by kernel_rfl
@[simp] theorem tf_sz134 : tsz Tryd.prog 134 = some 1 := by kernel_rfl
@[simp] theorem tf_by134 : tby Tryd.prog 134 = some 8 := by kernel_rfl
@[simp] theorem tf_row134 : trow Tryd.prog 134 = some false := by kernel_rfl
@[simp] theorem tf_und134 : (Tryd.prog.underlying 134).isSome = true := by kernel_rfl
@[simp] theorem tf_sl134 : tsl Tryd.prog 134 = none := by kernel_rfl
@[simp] theorem tf_el134 : tel Tryd.prog 134 = none := by kernel_rfl
@[simp] theorem tf_int134 : tint Tryd.prog 134 = none := by kernel_rfl
@[simp] theorem tf_str134 : tstr Tryd.prog 134 = false := by kernel_rfl
@[simp] theorem tf_bool134 : tbool Tryd.prog 134 = false := by kernel_rfl
@[simp] theorem tf_ptr134 : tptr Tryd.prog 134 = false := by kernel_rfl
@[simp] theorem tf_bytes134 : tbytes Tryd.prog 134 = false := by kernel_rfl
@[simp] theorem tf_zc134 : tzc Tryd.prog 134 = some [.raw .nilFunc] := by kernel_rfl
@[simp] theorem tf_sz135 : tsz Tryd.prog 135 = some 1 := by kernel_rfl
@[simp] theorem tf_by135 : tby Tryd.prog 135 = some 8 := by kernel_rfl
@[simp] theorem tf_row135 : trow Tryd.prog 135 = some false := by kernel_rfl
@[simp] theorem tf_und135 : (Tryd.prog.underlying 135).isSome = true := by kernel_rfl
@[simp] theorem tf_sl135 : tsl Tryd.prog 135 = none := by kernel_rfl
@[simp] theorem tf_el135 : tel Tryd.prog 135 = none := by kernel_rfl
@[simp] theorem tf_int135 : tint Tryd.prog 135 = none := by kernel_rfl
@[simp] theorem tf_str135 : tstr Tryd.prog 135 = false := by kernel_rfl
@[simp] theorem tf_bool135 : tbool Tryd.prog 135 = false := by kernel_rfl
@[simp] theorem tf_ptr135 : tptr Tryd.prog 135 = false := by kernel_rfl
@[simp] theorem tf_bytes135 : tbytes Tryd.prog 135 = false := by kernel_rfl
@[simp] theorem tf_zc135 : tzc Tryd.prog 135 = some [.raw .nilFunc] := by kernel_rfl
@[simp] theorem tf_sz136 : tsz Tryd.prog 136 = some 1 := by kernel_rfl
@[simp] theorem tf_by136 : tby Tryd.prog 136 = some 8 := by kernel_rfl
@[simp] theorem tf_row136 : trow Tryd.prog 136 = some false := by kernel_rfl
@[simp] theorem tf_und136 : (Tryd.prog.underlying 136).isSome = true := by kernel_rfl
@[simp] theorem tf_sl136 : tsl Tryd.prog 136 = none := by kernel_rfl
@[simp] theorem tf_el136 : tel Tryd.prog 136 = none := by kernel_rfl
@[simp] theorem tf_int136 : tint Tryd.prog 136 = none := by kernel_rfl
@[simp] theorem tf_str136 : tstr Tryd.prog 136 = false := by kernel_rfl
@[simp] theorem tf_bool136 : tbool Tryd.prog 136 = false := by kernel_rfl
@[simp] theorem tf_ptr136 : tptr Tryd.prog 136 = false := by kernel_rfl
@[simp] theorem tf_bytes136 : tbytes Tryd.prog 136 = false := by kernel_rfl
@[simp] theorem tf_zc136 : tzc Tryd.prog 136 = some [.raw .nilFunc] := by kernel_rfl
@[simp] theorem tf_sz137 : tsz Tryd.prog 137 = some 1 := by kernel_rfl
@[simp] theorem tf_by137 : tby Tryd.prog 137 = some 8 := by kernel_rfl
@[simp] theorem tf_row137 : trow Tryd.prog 137 = some false := by kernel_rfl
@[simp] theorem tf_und137 : (Tryd.prog.underlying 137).isSome = true := by kernel_rfl
@[simp] theorem tf_sl137 : tsl Tryd.prog 137 = none := by kernel_rfl
@[simp] theorem tf_el137 : tel Tryd.prog 137 = none := by kernel_rfl
@[simp] theorem tf_int137 : tint Tryd.prog 137 = none := by kernel_rfl
@[simp] theorem tf_str137 : tstr Tryd.prog 137 = false := by kernel_rfl
@[simp] theorem tf_bool137 : tbool Tryd.prog 137 = false := by kernel_rfl
@[simp] theorem tf_ptr137 : tptr Tryd.prog 137 = false := by kernel_rfl
@[simp] theorem tf_bytes137 : tbytes Tryd.prog 137 = false := by kernel_rfl
@[simp] theorem tf_zc137 : tzc Tryd.prog 137 = some [.raw .nilFunc] := by kernel_rfl
@[simp] theorem tf_sz138 : tsz Tryd.prog 138 = some 1 := by kernel_rfl
@[simp] theorem tf_by138 : tby Tryd.prog 138 = some 8 := by kernel_rfl
@[simp] theorem tf_row138 : trow Tryd.prog 138 = some false := by kernel_rfl
@[simp] theorem tf_und138 : (Tryd.prog.underlying 138).isSome = true := by kernel_rfl
@[simp] theorem tf_sl138 : tsl Tryd.prog 138 = none := by kernel_rfl
@[simp] theorem tf_el138 : tel Tryd.prog 138 = none := by kernel_rfl
@[simp] theorem tf_int138 : tint Tryd.prog 138 = none := by kernel_rfl
@[simp] theorem tf_str138 : tstr Tryd.prog 138 = false := by kernel_rfl
@[simp] theorem tf_bool138 : tbool Tryd.prog 138 = false := by kernel_rfl
@[simp] theorem tf_ptr138 : tptr Tryd.prog 138 = true := by kernel_rfl
@[simp] theorem tf_bytes138 : tbytes Tryd.prog 138 = false := by kernel_rfl
@[simp] theorem tf_zc138 : tzc Tryd.prog 138 = some [.ptr none] := by kernel_rfl
@[simp] theorem tf_sz139 : tsz Tryd.prog 139 = some 1 := by kernel_rfl
@[simp] theorem tf_by139 : tby Tryd.prog 139 = some 8 := by kernel_rfl
@[simp] theorem tf_row139 : trow Tryd.prog 139 = some false := by kernel_rfl
@[simp] theorem tf_und139 : (Tryd.prog.underlying 139).isSome = true := by kernel_rfl
@[simp] theorem tf_sl139 : tsl Tryd.prog 139 = none := by kernel_rfl
@[simp] theorem tf_el139 : tel Tryd.prog 139 = none := by kernel_rfl
@[simp] theorem tf_int139 : tint Tryd.prog 139 = none := by kernel_rfl
@[simp] theorem tf_str139 : tstr Tryd.prog 139 = false := by kernel_rfl
@[simp] theorem tf_bool139 : tbool Tryd.prog 139 = false := by kernel_rfl
@[simp] theorem tf_ptr139 : tptr Tryd.prog 139 = false := by kernel_rfl
@[simp] theorem tf_bytes139 : tbytes Tryd.prog 139 = false := by kernel_rfl
@[simp] theorem tf_zc139 : tzc Tryd.prog 139 = some [.raw .nilFunc] := by kernel_rfl
@[simp] theorem tf_sz140 : tsz Tryd.prog 140 = some 1 := by kernel_rfl
@[simp] theorem tf_by140 : tby Tryd.prog 140 = some 4 := by kernel_rfl
@[simp] theorem tf_row140 : trow Tryd.prog 140 = some false := by kernel_rfl
@[simp] theorem tf_und140 : (Tryd.prog.underlying 140).isSome = true := by kernel_rfl
@[simp] theorem tf_sl140 : tsl Tryd.prog 140 = none := by kernel_rfl
@[simp] theorem tf_el140 : tel Tryd.prog 140 = none := by kernel_rfl
@[simp] theorem tf_int140 : tint Tryd.prog 140 = some .u32 := by kernel_rfl
@[simp] theorem tf_str140 : tstr Tryd.prog 140 = false := by kernel_rfl
@[simp] theorem tf_bool140 : tbool Tryd.prog 140 = false := by kernel_rfl
@[simp] theorem tf_ptr140 : tptr Tryd.prog 140 = false := by kernel_rfl
@[simp] theorem tf_bytes140 : tbytes Tryd.prog 140 = false := by kernel_rfl
@[simp] theorem tf_zc140 : tzc Tryd.prog 140 = some [.int .u32 0] := by kernel_rfl
@[simp] theorem tf_sz141 : tsz Tryd.prog 141 = some 4 := by kernel_rfl
@[simp] theorem tf_by141 : tby Tryd.prog 141 = some 16 := by kernel_rfl
@[simp] theorem tf_row141 : trow Tryd.prog 141 = some true := by kernel_rfl
@[simp] theorem tf_und141 : (Tryd.prog.underlying 141).isSome = true := by kernel_rfl
@[simp] theorem tf_sl141 : tsl Tryd.prog 141 = none := by kernel_rfl
@[simp] theorem tf_el141 : tel Tryd.prog 141 = none := by kernel_rfl
@[simp] theorem tf_int141 : tint Tryd.prog 141 = none := by kernel_rfl
@[simp] theorem tf_str141 : tstr Tryd.prog 141 = false := by kernel_rfl
@[simp] theorem tf_bool141 : tbool Tryd.prog 141 = false := by kernel_rfl
@[simp] theorem tf_ptr141 : tptr Tryd.prog 141 = false := by kernel_rfl
@[simp] theorem tf_bytes141 : tbytes Tryd.prog 141 = false := by kernel_rfl
@[simp] theorem tf_zc141 : tzc Tryd.prog 141 = some [.int .u32 0, .int .u32 0, .int .u32 0, .int .u32 0] := by kernel_rfl
@[simp] theorem tf_arr141 : tarr Tryd.prog 141 = some (4, 1, false) := by kernel_rfl
@[simp] theorem tf_pl141 : tplaces Tryd.prog 141 = some [(0, 1), (1, 1), (2, 1), (3, 1)] := by kernel_rfl
@[simp] theorem tf_sz143 : tsz Tryd.prog 143 = some 1 := by kernel_rfl
@[simp] theorem tf_by143 : tby Tryd.prog 143 = some 8 := by kernel_rfl
@[simp] theorem tf_row143 : trow Tryd.prog 143 = some false := by kernel_rfl
@[simp] theorem tf_und143 : (Tryd.prog.underlying 143).isSome = true := by kernel_rfl
@[simp] theorem tf_sl143 : tsl Tryd.prog 143 = none := by kernel_rfl
@[simp] theorem tf_el143 : tel Tryd.prog 143 = none := by kernel_rfl
@[simp] theorem tf_int143 : tint Tryd.prog 143 = none := by kernel_rfl
@[simp] theorem tf_str143 : tstr Tryd.prog 143 = false := by kernel_rfl
@[simp] theorem tf_bool143 : tbool Tryd.prog 143 = false := by kernel_rfl
@[simp] theorem tf_ptr143 : tptr Tryd.prog 143 = false := by kernel_rfl
@[simp] theorem tf_bytes143 : tbytes Tryd.prog 143 = false := by kernel_rfl
@[simp] theorem tf_zc143 : tzc Tryd.prog 143 = some [.raw .nilFunc] := by kernel_rfl
@[simp] theorem tf_sz144 : tsz Tryd.prog 144 = some 1 := by kernel_rfl
@[simp] theorem tf_by144 : tby Tryd.prog 144 = some 8 := by kernel_rfl
@[simp] theorem tf_row144 : trow Tryd.prog 144 = some false := by kernel_rfl
@[simp] theorem tf_und144 : (Tryd.prog.underlying 144).isSome = true := by kernel_rfl
@[simp] theorem tf_sl144 : tsl Tryd.prog 144 = none := by kernel_rfl
@[simp] theorem tf_el144 : tel Tryd.prog 144 = none := by kernel_rfl
@[simp] theorem tf_int144 : tint Tryd.prog 144 = none := by kernel_rfl
@[simp] theorem tf_str144 : tstr Tryd.prog 144 = false := by kernel_rfl
@[simp] theorem tf_bool144 : tbool Tryd.prog 144 = false := by kernel_rfl
@[simp] theorem tf_ptr144 : tptr Tryd.prog 144 = false := by kernel_rfl
@[simp] theorem tf_bytes144 : tbytes Tryd.prog 144 = false := by kernel_rfl
@[simp] theorem tf_zc144 : tzc Tryd.prog 144 = some [.raw .nilFunc] := by kernel_rfl
@[simp] theorem tf_sz145 : tsz Tryd.prog 145 = some 256 := by kernel_rfl
@[simp] theorem tf_by145 : tby Tryd.prog 145 = some 256 := by kernel_rfl
@[simp] theorem tf_row145 : trow Tryd.prog 145 = some true := by kernel_rfl
@[simp] theorem tf_und145 : (Tryd.prog.underlying 145).isSome = true := by kernel_rfl
@[simp] theorem tf_sl145 : tsl Tryd.prog 145 = none := by kernel_rfl
@[simp] theorem tf_el145 : tel Tryd.prog 145 = none := by kernel_rfl
@[simp] theorem tf_int145 : tint Tryd.prog 145 = none := by kernel_rfl
@[simp] theorem tf_str145 : tstr Tryd.prog 145 = false := by kernel_rfl
@[simp] theorem tf_bool145 : tbool Tryd.prog 145 = false := by kernel_rfl
@[simp] theorem tf_ptr145 : tptr Tryd.prog 145 = false := by kernel_rfl
@[simp] theorem tf_bytes145 : tbytes Tryd.prog 145 = false := by kernel_rfl
@[simp] theorem tf_arr145 : tarr Tryd.prog 145 = some (256, 1, false) := by kernel_rfl
@[simp] theorem tf_sz146 : tsz Tryd.prog 146 = some 256 := by kernel_rfl
@[simp] theorem tf_by146 : tby Tryd.prog 146 = some 256 := by kernel_rfl
@[simp] theorem tf_row146 : trow Tryd.prog 146 = some true := by kernel_rfl
@[simp] theorem tf_und146 : (Tryd.prog.underlying 146).isSome = true := by kernel_rfl
@[simp] theorem tf_sl146 : tsl Tryd.prog 146 = none := by kernel_rfl
@[simp] theorem tf_el146 : tel Tryd.prog 146 = none := by kernel_rfl
@[simp] theorem tf_int146 : tint Tryd.prog 146 = none := by kernel_rfl
@[simp] theorem tf_str146 : tstr Tryd.prog 146 = false := by kernel_rfl
@[simp] theorem tf_bool146 : tbool Tryd.prog 146 = false := by kernel_rfl
@[simp] theorem tf_ptr146 : tptr Tryd.prog 146 = false := by kernel_rfl
@[simp] theorem tf_bytes146 : tbytes Tryd.prog 146 = false := by kernel_rfl
@[simp] theorem tf_arr146 : tarr Tryd.prog 146 = some (256, 1, false) := by kernel_rfl
@[simp] theorem tf_sz148 : tsz Tryd.prog 148 = some 1 := by kernel_rfl
@[simp] theorem tf_by148 : tby Tryd.prog 148 = some 8 := by kernel_rfl
@[simp] theorem tf_row148 : trow Tryd.prog 148 = some false := by kernel_rfl
@[simp] theorem tf_und148 : (Tryd.prog.underlying 148).isSome = true := by kernel_rfl
@[simp] theorem tf_sl148 : tsl Tryd.prog 148 = none := by kernel_rfl
@[simp] theorem tf_el148 : tel Tryd.prog 148 = none := by kernel_rfl
@[simp] theorem tf_int148 : tint Tryd.prog 148 = none := by kernel_rfl
@[simp] theorem tf_str148 : tstr Tryd.prog 148 = false := by kernel_rfl
@[simp] theorem tf_bool148 : tbool Tryd.prog 148 = false := by kernel_rfl
@[simp] theorem tf_ptr148 : tptr Tryd.prog 148 = false := by kernel_rfl
@[simp] theorem tf_bytes148 : tbytes Tryd.prog 148 = false := by kernel_rfl
@[simp] theorem tf_zc148 : tzc Tryd.prog 148 = some [.raw .nilFunc] := by kernel_rfl
@[simp] theorem tf_sz149 : tsz Tryd.prog 149 = some 1 := by kernel_rfl
@[simp] theorem tf_by149 : tby Tryd.prog 149 = some 8 := by kernel_rfl
@[simp] theorem tf_row149 : trow Tryd.prog 149 = some false := by kernel_rfl
@[simp] theorem tf_und149 : (Tryd.prog.underlying 149).isSome = true := by kernel_rfl
@[simp] theorem tf_sl149 : tsl Tryd.prog 149 = none := by kernel_rfl
@[simp] theorem tf_el149 : tel Tryd.prog 149 = none := by kernel_rfl
@[simp] theorem tf_int149 : tint Tryd.prog 149 = none := by kernel_rfl
@[simp] theorem tf_str149 : tstr Tryd.prog 149 = false := by kernel_rfl
@[simp] theorem tf_bool149 : tbool Tryd.prog 149 = false := by kernel_rfl
@[simp] theorem tf_ptr149 : tptr Tryd.prog 149 = false := by kernel_rfl
@[simp] theorem tf_bytes149 : tbytes Tryd.prog 149 = false := by kernel_rfl
@[simp] theorem tf_zc149 : tzc Tryd.prog 149 = some [.raw .nilFunc] := by kernel_rfl
@[simp] theorem tf_sz150 : tsz Tryd.prog 150 = some 1 := by kernel_rfl
@[simp] theorem tf_by150 : tby Tryd.prog 150 = some 8 := by kernel_rfl
@[simp] theorem tf_row150 : trow Tryd.prog 150 = some false := by kernel_rfl
@[simp] theorem tf_und150 : (Tryd.prog.underlying 150).isSome = true := by kernel_rfl
@[simp] theorem tf_sl150 : tsl Tryd.prog 150 = none := by kernel_rfl
@[simp] theorem tf_el150 : tel Tryd.prog 150 = none := by kernel_rfl
@[simp] theorem tf_int150 : tint Tryd.prog 150 = none := by kernel_rfl
@[simp] theorem tf_str150 : tstr Tryd.prog 150 = false := by kernel_rfl
@[simp] theorem tf_bool150 : tbool Tryd.prog 150 = false := by kernel_rfl
@[simp] theorem tf_ptr150 : tptr Tryd.prog 150 = true := by kernel_rfl
@[simp] theorem tf_bytes150 : tbytes Tryd.prog 150 = false := by kernel_rfl
@[simp] theorem tf_zc150 : tzc Tryd.prog 150 = some [.ptr none] := by kernel_rfl
@[simp] theorem tf_sz152 : tsz Tryd.prog 152 = some 1 := by kernel_rfl
@[simp] theorem tf_by152 : tby Tryd.prog 152 = some 8 := by kernel_rfl
@[simp] theorem tf_row152 : trow Tryd.prog 152 = some false := by kernel_rfl
@[simp] theorem tf_und152 : (Tryd.prog.underlying 152).isSome = true := by kernel_rfl
@[simp] theorem tf_sl152 : tsl Tryd.prog 152 = none := by kernel_rfl
@[simp] theorem tf_el152 : tel Tryd.prog 152 = none := by kernel_rfl
@[simp] theorem tf_int152 : tint Tryd.prog 152 = none := by kernel_rfl
@[simp] theorem tf_str152 : tstr Tryd.prog 152 = false := by kernel_rfl
@[simp] theorem tf_bool152 : tbool Tryd.prog 152 = false := by kernel_rfl
@[simp] theorem tf_ptr152 : tptr Tryd.prog 152 = false := by kernel_rfl
@[simp] theorem tf_bytes152 : tbytes Tryd.prog 152 = false := by kernel_rfl
@[simp] theorem tf_zc152 : tzc Tryd.prog 152 = some [.raw .nilFunc] := by kernel_rfl
@[simp] theorem tf_sz154 : tsz Tryd.prog 154 = some 1 := by kernel_rfl
@[simp] theorem tf_by154 : tby Tryd.prog 154 = some 8 := by kernel_rfl
@[simp] theorem tf_row154 : trow Tryd.prog 154 = some false := by kernel_rfl
@[simp] theorem tf_und154 : (Tryd.prog.underlying 154).isSome = true := by kernel_rfl
@[simp] theorem tf_sl154 : tsl Tryd.prog 154 = none := by kernel_rfl
@[simp] theorem tf_el154 : tel Tryd.prog 154 = none := by kernel_rfl
@[simp] theorem tf_int154 : tint Tryd.prog 154 = none := by kernel_rfl
@[simp] theorem tf_str154 : tstr Tryd.prog 154 = false := by kernel_rfl
@[simp] theorem tf_bool154 : tbool Tryd.prog 154 = false := by kernel_rfl
@[simp] theorem tf_ptr154 : tptr Tryd.prog 154 = false := by kernel_rfl
@[simp] theorem tf_bytes154 : tbytes Tryd.prog 154 = false := by kernel_rfl
@[simp] theorem tf_zc154 : tzc Tryd.prog 154 = some [.raw .nilFunc] := by kernel_rfl
@[simp] theorem tf_sz155 : tsz Tryd.prog 155 = some 1 := by kernel_rfl
@[simp] theorem tf_by155 : tby Tryd.prog 155 = some 8 := by kernel_rfl
@[simp] theorem tf_row155 : trow Tryd.prog 155 = some false := by kernel_rfl
@[simp] theorem tf_und155 : (Tryd.prog.underlying 155).isSome = true := by kernel_rfl
@[simp] theorem tf_sl155 : tsl Tryd.prog 155 = none := by kernel_rfl
@[simp] theorem tf_el155 : tel Tryd.prog 155 = none := by kernel_rfl
@[simp] theorem tf_int155 : tint Tryd.prog 155 = none := by kernel_rfl
@[simp] theorem tf_str155 : tstr Tryd.prog 155 = false := by kernel_rfl
@[simp] theorem tf_bool155 : tbool Tryd.prog 155 = false := by kernel_rfl
@[simp] theorem tf_ptr155 : tptr Tryd.prog 155 = false := by kernel_rfl
@[simp] theorem tf_bytes155 : tbytes Tryd.prog 155 = false := by kernel_rfl
@[simp] theorem tf_zc155 : tzc Tryd.prog 155 = some [.raw .nilFunc] := by kernel_rfl
@[simp] theorem tf_sz156 : tsz Tryd.prog 156 = some 24 := by kernel_rfl
@[simp] theorem tf_by156 : tby Tryd.prog 156 = some 24 := by kernel_rfl
@[simp] theorem tf_row156 : trow Tryd.prog 156 = some true := by kernel_rfl
@[simp] theorem tf_und156 : (Tryd.prog.underlying 156).isSome = true := by kernel_rfl
@[simp] theorem tf_sl156 : tsl Tryd.prog 156 = none := by kernel_rfl
@[simp] theorem tf_el156 : tel Tryd.prog 156 = none := by kernel_rfl
@[simp] theorem tf_int156 : tint Tryd.prog 156 = none := by kernel_rfl
@[simp] theorem tf_str156 : tstr Tryd.prog 156 = false := by kernel_rfl
@[simp] theorem tf_bool156 : tbool Tryd.prog 156 = false := by kernel_rfl
@[simp] theorem tf_ptr156 : tptr Tryd.prog 156 = false := by kernel_rfl
@[simp] theorem tf_bytes156 : tbytes Tryd.prog 156 = false := by kernel_rfl
@[simp] theorem tf_zc156 : tzc Tryd.prog 156 = some [.int .u8 0, .int .u8 0, .int .u8 0, .int .u8 0, .int .u8 0, .int .u8 0, .int .u8 0, .int .u8 0, .int .u8 0, .int .u8 0, .int .u8 0, .int .u8 0, .int .u8 0, .int .u8 0, .int .u8 0, .int .u8 0, .int .u8 0, .int .u8 0, .int .u8 0, .int .u8 0, .int .u8 0, .int .u8 0, .int .u8 0, .int .u8 0] := by kernel_rfl
@[simp] theorem tf_arr156 : tarr Tryd.prog 156 = some (24, 1, false) := by kernel_rfl
@[simp] theorem tf_pl156 : tplaces Tryd.prog 156 = some [(0, 1), (1, 1), (2, 1), (3, 1), (4, 1), (5, 1), (6, 1), (7, 1), (8, 1), (9, 1), (10, 1), (11, 1), (12, 1), (13, 1), (14, 1), (15, 1), (16, 1), (17, 1), (18, 1), (19, 1), (20, 1), (21, 1), (22, 1), (23, 1)] := by kernel_rfl
@[simp] theorem tf_sz157 : tsz Tryd.prog 157 = some 1 := by kernel_rfl
@[simp] theorem tf_by157 : tby Tryd.prog 157 = some 8 := by kernel_rfl
@[simp] theorem tf_row157 : trow Tryd.prog 157 = some false := by kernel_rfl
@[simp] theorem tf_und157 : (Tryd.prog.underlying 157).isSome = true := by kernel_rfl
@[simp] theorem tf_sl157 : tsl Tryd.prog 157 = none := by kernel_rfl
@[simp] theorem tf_el157 : tel Tryd.prog 157 = none := by kernel_rfl
@[simp] theorem tf_int157 : tint Tryd.prog 157 = some .u64 := by kernel_rfl
@[simp] theorem tf_str157 : tstr Tryd.prog 157 = false := by kernel_rfl
@[simp] theorem tf_bool157 : tbool Tryd.prog 157 = false := by kernel_rfl
@[simp] theorem tf_ptr157 : tptr Tryd.prog 157 = false := by kernel_rfl
@[simp] theorem tf_bytes157 : tbytes Tryd.prog 157 = false := by kernel_rfl
@[simp] theorem tf_zc157 : tzc Tryd.prog 157 = some [.int .u64 0] := by kernel_rfl
@[simp] theorem tf_sz158 : tsz Tryd.prog 158 = some 1 := by kernel_rfl
@[simp] theorem tf_by158 : tby Tryd.prog 158 = some 8 := by kernel_rfl
@[simp] theorem tf_row158 : trow Tryd.prog 158 = some false := by kernel_rfl
@[simp] theorem tf_und158 : (Tryd.prog.underlying 158).isSome = true := by kernel_rfl
@[simp] theorem tf_sl158 : tsl Tryd.prog 158 = none := by kernel_rfl
@[simp] theorem tf_el158 : tel Tryd.prog 158 = none := by kernel_rfl
@[simp] theorem tf_int158 : tint Tryd.prog 158 = none := by kernel_rfl
@[simp] theorem tf_str158 : tstr Tryd.prog 158 = false := by kernel_rfl
@[simp] theorem tf_bool158 : tbool Tryd.prog 158 = false := by kernel_rfl
@[simp] theorem tf_ptr158 : tptr Tryd.prog 158 = false := by kernel_rfl
@[simp] theorem tf_bytes158 : tbytes Tryd.prog 158 = false := by kernel_rfl
@[simp] theorem tf_zc158 : tzc Tryd.prog 158 = some [.raw .nilFunc] := by kernel_rfl
@[simp] theorem tf_sz159 : tsz Tryd.prog 159 = some 1 := by kernel_rfl
@[simp] theorem tf_by159 : tby Tryd.prog 159 = some 8 := by kernel_rfl
@[simp] theorem tf_row159 : trow Tryd.prog 159 = some false := by kernel_rfl
@[simp] theorem tf_und159 : (Tryd.prog.underlying 159).isSome = true := by kernel_rfl
@[simp] theorem tf_sl159 : tsl Tryd.prog 159 = none := by kernel_rfl
@[simp] theorem tf_el159 : tel Tryd.prog 159 = none := by kernel_rfl
@[simp] theorem tf_int159 : tint Tryd.prog 159 = none := by kernel_rfl
@[simp] theorem tf_str159 : tstr Tryd.prog 159 = false := by kernel_rfl
@[simp] theorem tf_bool159 : tbool Tryd.prog 159 = false := by kernel_rfl
@[simp] theorem tf_ptr159 : tptr Tryd.prog 159 = false := by kernel_rfl
@[simp] theorem tf_bytes159 : tbytes Tryd.prog 159 = false := by kernel_rfl
@[simp] theorem tf_zc159 : tzc Tryd.prog 159 = some [.raw .nilFunc] := by kernel_rfl
@[simp] theorem tf_sz161 : tsz Tryd.prog 161 = some 1 := by kernel_rfl
@[simp] theorem tf_by161 : tby Tryd.prog 161 = some 8 := by kernel_rfl
@[simp] theorem tf_row161 : trow Tryd.prog 161 = some false := by kernel_rfl
@[simp] theorem tf_und161 : (Tryd.prog.underlying 161).isSome = true := by kernel_rfl
@[simp] theorem tf_sl161 : tsl Tryd.prog 161 = none := by kernel_rfl
@[simp] theorem tf_el161 : tel Tryd.prog 161 = none := by kernel_rfl
@[simp] theorem tf_int161 : tint Tryd.prog 161 = none := by kernel_rfl
@[simp] theorem tf_str161 : tstr Tryd.prog 161 = false := by kernel_rfl
@[simp] theorem tf_bool161 : tbool Tryd.prog 161 = false := by kernel_rfl
@[simp] theorem tf_ptr161 : tptr Tryd.prog 161 = false := by kernel_rfl
@[simp] theorem tf_bytes161 : tbytes Tryd.prog 161 = false := by kernel_rfl
@[simp] theorem tf_zc161 : tzc Tryd.prog 161 = some [.raw .nilFunc] := by kernel_rfl
@[simp] theorem tf_sz163 : tsz Tryd.prog 163 = some 1 := by kernel_rfl
@[simp] theorem tf_by163 : tby Tryd.prog 163 = some 8 := by kernel_rfl
@[simp] theorem tf_row163 : trow Tryd.prog 163 = some false := by kernel_rfl
@[simp] theorem tf_und163 : (Tryd.prog.underlying 163).isSome = true := by kernel_rfl
@[simp] theorem tf_sl163 : tsl Tryd.prog 163 = none := by kernel_rfl
@[simp] theorem tf_el163 : tel Tryd.prog 163 = none := by kernel_rfl
@[simp] theorem tf_int163 : tint Tryd.prog 163 = none := by kernel_rfl
@[simp] theorem tf_str163 : tstr Tryd.prog 163 = false := by kernel_rfl
@[simp] theorem tf_bool163 : tbool Tryd.prog 163 = false := by kernel_rfl
@[simp] theorem tf_ptr163 : tptr Tryd.prog 163 = false := by kernel_rfl
@[simp] theorem tf_bytes163 : tbytes Tryd.prog 163 = false := by kernel_rfl
@[simp] theorem tf_zc163 : tzc Tryd.prog 163 = some [.raw .nilFunc] := by kernel_rfl
@[simp] theorem tf_sz165 : tsz Tryd.prog 165 = some 1 := by kernel_rfl
@[simp] theorem tf_by165 : tby Tryd.prog 165 = some 8 := by kernel_rfl
@[simp] theorem tf_row165 : trow Tryd.prog 165 = some false := by kernel_rfl
@[simp] theorem tf_und165 : (Tryd.prog.underlying 165).isSome = true := by kernel_rfl
@[simp] theorem tf_sl165 : tsl Tryd.prog 165 = none := by kernel_rfl
@[simp] theorem tf_el165 : tel Tryd.prog 165 = none := by kernel_rfl
@[simp] theorem tf_int165 : tint Tryd.prog 165 = none := by kernel_rfl
@[simp] theorem tf_str165 : tstr Tryd.prog 165 = false := by kernel_rfl
@[simp] theorem tf_bool165 : tbool Tryd.prog 165 = false := by kernel_rfl
@[simp] theorem tf_ptr165 : tptr Tryd.prog 165 = false := by kernel_rfl
@[simp] theorem tf_bytes165 : tbytes Tryd.prog 165 = false := by kernel_rfl
@[simp] theorem tf_zc165 : tzc Tryd.prog 165 = some [.raw .nilFunc] := by kernel_rfl
@[simp] theorem tf_sz166 : tsz Tryd.prog 166 = some 1 := by kernel_rfl
@[simp] theorem tf_by166 : tby Tryd.prog 166 = some 8 := by kernel_rfl
@[simp] theorem tf_row166 : trow Tryd.prog 166 = some false := by kernel_rfl
@[simp] theorem tf_und166 : (Tryd.prog.underlying 166).isSome = true := by kernel_rfl
@[simp] theorem tf_sl166 : tsl Tryd.prog 166 = none := by kernel_rfl
@[simp] theorem tf_el166 : tel Tryd.prog 166 = none := by kernel_rfl
@[simp] theorem tf_int166 : tint Tryd.prog 166 = none := by kernel_rfl
@[simp] theorem tf_str166 : tstr Tryd.prog 166 = false := by kernel_rfl
@[simp] theorem tf_bool166 : tbool Tryd.prog 166 = false := by kernel_rfl
@[simp] theorem tf_ptr166 : tptr Tryd.prog 166 = false := by kernel_rfl
@[simp] theorem tf_bytes166 : tbytes Tryd.prog 166 = false := by kernel_rfl
@[simp] theorem tf_zc166 : tzc Tryd.prog 166 = some [.raw .nilFunc] := by kernel_rfl
@[simp] theorem tf_sz167 : tsz Tryd.prog 167 = some 1 := by kernel_rfl
@[simp] theorem tf_by167 : tby Tryd.prog 167 = some 8 := by kernel_rfl
@[simp] theorem tf_row167 : trow Tryd.prog 167 = some false := by kernel_rfl
@[simp] theorem tf_und167 : (Tryd.prog.underlying 167).isSome = true := by kernel_rfl
@[simp] theorem tf_sl167 : tsl Tryd.prog 167 = none := by kernel_rfl
@[simp] theorem tf_el167 : tel Tryd.prog 167 = none := by kernel_rfl
@[simp] theorem tf_int167 : tint Tryd.prog 167 = none := by kernel_rfl
@[simp] theorem tf_str167 : tstr Tryd.prog 167 = false := by kernel_rfl
@[simp] theorem tf_bool167 : tbool Tryd.prog 167 = false := by kernel_rfl
@[simp] theorem tf_ptr167 : tptr Tryd.prog 167 = false := by kernel_rfl
@[simp] theorem tf_bytes167 : tbytes Tryd.prog 167 = false := by kernel_rfl
@[simp] theorem tf_zc167 : tzc Tryd.prog 167 = some [.raw .nilFunc] := by kernel_rfl
@[simp] theorem tf_sz168 : tsz Tryd.prog 168 = some 1 := by kernel_rfl
@[simp] theorem tf_by168 : tby Tryd.prog 168 = some 8 := by kernel_rfl
@[simp] theorem tf_row168 : trow Tryd.prog 168 = some false := by kernel_rfl
@[simp] theorem tf_und168 : (Tryd.prog.underlying 168).isSome = true := by kernel_rfl
@[simp] theorem tf_sl168 : tsl Tryd.prog 168 = none := by kernel_rfl
@[simp] theorem tf_el168 : tel Tryd.prog 168 = none := by kernel_rfl
@[simp] theorem tf_int168 : tint Tryd.prog 168 = none := by kernel_rfl
@[simp] theorem tf_str168 : tstr Tryd.prog 168 = false := by kernel_rfl
@[simp] theorem tf_bool168 : tbool Tryd.prog 168 = false := by kernel_rfl
@[simp] theorem tf_ptr168 : tptr Tryd.prog 168 = false := by kernel_rfl
@[simp] theorem tf_bytes168 : tbytes Tryd.prog 168 = false := by kernel_rfl
@[simp] theorem tf_zc168 : tzc Tryd.prog 168 = some [.raw .nilFunc] := by kernel_rfl
@[simp] theorem tf_sz169 : tsz Tryd.prog 169 = some 20 := by kernel_rfl
@[simp] theorem tf_by169 : tby Tryd.prog 169 = some 160 := by kernel_rfl
@[simp] theorem tf_row169 : trow Tryd.prog 169 = some true := by kernel_rfl
@[simp] theorem tf_und169 : (Tryd.prog.underlying 169).isSome = true := by kernel_rfl
@[simp] theorem tf_sl169 : tsl Tryd.prog 169 = none := by kernel_rfl
@[simp] theorem tf_el169 : tel Tryd.prog 169 = none := by kernel_rfl
@[simp] theorem tf_int169 : tint Tryd.prog 169 = none := by kernel_rfl
@[simp] theorem tf_str169 : tstr Tryd.prog 169 = false := by kernel_rfl
@[simp] theorem tf_bool169 : tbool Tryd.prog 169 = false := by kernel_rfl
@[simp] theorem tf_ptr169 : tptr Tryd.prog 169 = false := by kernel_rfl
@[simp] theorem tf_bytes169 : tbytes Tryd.prog 169 = false := by kernel_rfl
@[simp] theorem tf_zc169 : tzc Tryd.prog 169 = some [.int .u64 0, .int .u64 0, .int .u64 0, .int .u64 0, .int .u64 0, .int .u64 0, .int .u64 0, .int .u64 0, .int .u64 0, .int .u64 0, .int .u64 0, .int .u64 0, .int .u64 0, .int .u64 0, .int .u64 0, .int .u64 0, .int .u64 0, .int .u64 0, .int .u64 0, .int .u64 0] := by kernel_rfl
@[simp] theorem tf_arr169 : tarr Tryd.prog 169 = some (20, 1, false) := by kernel_rfl
@[simp] theorem tf_pl169 : tplaces Tryd.prog 169 = some [(0, 1), (1, 1), (2, 1), (3, 1), (4, 1), (5, 1), (6, 1), (7, 1), (8, 1), (9, 1), (10, 1), (11, 1), (12, 1), (13, 1), (14, 1), (15, 1), (16, 1), (17, 1), (18, 1), (19, 1)] := by kernel_rfl
@[simp] theorem tf_sz170 : tsz Tryd.prog 170 = some 65 := by kernel_rfl
@[simp] theorem tf_by170 : tby Tryd.prog 170 = some 65 := by kernel_rfl
@[simp] theorem tf_row170 : trow Tryd.prog 170 = some true := by kernel_rfl
@[simp] theorem tf_und170 : (Tryd.prog.underlying 170).isSome = true := by kernel_rfl
@[simp] theorem tf_sl170 : tsl Tryd.prog 170 = none := by kernel_rfl
@[simp] theorem tf_el170 : tel Tryd.prog 170 = none := by kernel_rfl
@[simp] theorem tf_int170 : tint Tryd.prog 170 = none := by kernel_rfl
@[simp] theorem tf_str170 : tstr Tryd.prog 170 = false := by kernel_rfl
@[simp] theorem tf_bool170 : tbool Tryd.prog 170 = false := by kernel_rfl
@[simp] theorem tf_ptr170 : tptr Tryd.prog 170 = false := by kernel_rfl
@[simp] theorem tf_bytes170 : tbytes Tryd.prog 170 = false := by kernel_rfl
@[simp] theorem tf_arr170 : tarr Tryd.prog 170 = some (65, 1, false) := by kernel_rfl
@[simp] theorem tf_sz171 : tsz Tryd.prog 171 = some 1 := by kernel_rfl
@[simp] theorem tf_by171 : tby Tryd.prog 171 = some 8 := by kernel_rfl
@[simp] theorem tf_row171 : trow Tryd.prog 171 = some false := by kernel_rfl
@[simp] theorem tf_und171 : (Tryd.prog.underlying 171).isSome = true := by kernel_rfl
@[simp] theorem tf_sl171 : tsl Tryd.prog 171 = none := by kernel_rfl
@[simp] theorem tf_el171 : tel Tryd.prog 171 = none := by kernel_rfl
@[simp] theorem tf_int171 : tint Tryd.prog 171 = none := by kernel_rfl
@[simp] theorem tf_str171 : tstr Tryd.prog 171 = false := by kernel_rfl
@[simp] theorem tf_bool171 : tbool Tryd.prog 171 = false := by kernel_rfl
@[simp] theorem tf_ptr171 : tptr Tryd.prog 171 = false := by kernel_rfl
@[simp] theorem tf_bytes171 : tbytes Tryd.prog 171 = false := by kernel_rfl
@[simp] theorem tf_zc171 : tzc Tryd.prog 171 = some [.raw .nilFunc] := by kernel_rfl
@[simp] theorem tf_sz172 : tsz Tryd.prog 172 = some 1 := by kernel_rfl
@[simp] theorem tf_by172 : tby Tryd.prog 172 = some 8 := by kernel_rfl
@[simp] theorem tf_row172 : trow Tryd.prog 172 = some false := by kernel_rfl
@[simp] theorem tf_und172 : (Tryd.prog.underlying 172).isSome = true := by kernel_rfl
@[simp] theorem tf_sl172 : tsl Tryd.prog 172 = none := by kernel_rfl
@[simp] theorem tf_el172 : tel Tryd.prog 172 = none := by kernel_rfl
@[simp] theorem tf_int172 : tint Tryd.prog 172 = some .u64 := by kernel_rfl
@[simp] theorem tf_str172 : tstr Tryd.prog 172 = false := by kernel_rfl
@[simp] theorem tf_bool172 : tbool Tryd.prog 172 = false := by kernel_rfl
@[simp] theorem tf_ptr172 : tptr Tryd.prog 172 = false := by kernel_rfl
@[simp] theorem tf_bytes172 : tbytes Tryd.prog 172 = false := by kernel_rfl
@[simp] theorem tf_zc172 : tzc Tryd.prog 172 = some [.int .u64 0] := by kernel_rfl
@[simp] theorem tf_sz173 : tsz Tryd.prog 173 = some 1 := by kernel_rfl
@[simp] theorem tf_by173 : tby Tryd.prog 173 = some 8 := by kernel_rfl
@[simp] theorem tf_row173 : trow Tryd.prog 173 = some false := by kernel_rfl
@[simp] theorem tf_und173 : (Tryd.prog.underlying 173).isSome = true := by kernel_rfl
@[simp] theorem tf_sl173 : tsl Tryd.prog 173 = none := by kernel_rfl
@[simp] theorem tf_el173 : tel Tryd.prog 173 = none := by kernel_rfl
@[simp] theorem tf_int173 : tint Tryd.prog 173 = none := by kernel_rfl
@[simp] theorem tf_str173 : tstr Tryd.prog 173 = false := by kernel_rfl
@[simp] theorem tf_bool173 : tbool Tryd.prog 173 = false := by kernel_rfl
@[simp] theorem tf_ptr173 : tptr Tryd.prog 173 = false := by kernel_rfl
@[simp] theorem tf_bytes173 : tbytes Tryd.prog 173 = false := by kernel_rfl
@[simp] theorem tf_zc173 : tzc Tryd.prog 173 = some [.raw .nilFunc] := by kernel_rfl
@[simp] theorem tf_sz174 : tsz Tryd.prog 174 = some 1 := by kernel_rfl
@[simp] theorem tf_by174 : tby Tryd.prog 174 = some 8 := by kernel_rfl
@[simp] theorem tf_row174 : trow Tryd.prog 174 = some false := by kernel_rfl
@[simp] theorem tf_und174 : (Tryd.prog.underlying 174).isSome = true := by kernel_rfl
@[simp] theorem tf_sl174 : tsl Tryd.prog 174 = none := by kernel_rfl
@[simp] theorem tf_el174 : tel Tryd.prog 174 = none := by kernel_rfl
@[simp] theorem tf_int174 : tint Tryd.prog 174 = none := by kernel_rfl
@[simp] theorem tf_str174 : tstr Tryd.prog 174 = false := by kernel_rfl
@[simp] theorem tf_bool174 : tbool Tryd.prog 174 = false := by kernel_rfl
@[simp] theorem tf_ptr174 : tptr Tryd.prog 174 = false := by kernel_rfl
@[simp] theorem tf_bytes174 : tbytes Tryd.prog 174 = false := by kernel_rfl
@[simp] theorem tf_zc174 : tzc Tryd.prog 174 = some [.raw .nilFunc] := by kernel_rfl
@[simp] theorem tf_sz175 : tsz Tryd.prog 175 = some 1 := by kernel_rfl
@[simp] theorem tf_by175 : tby Tryd.prog 175 = some 8 := by kernel_rfl
@[simp] theorem tf_row175 : trow Tryd.prog 175 = some false := by kernel_rfl
@[simp] theorem tf_und175 : (Tryd.prog.underlying 175).isSome = true := by kernel_rfl
@[simp] theorem tf_sl175 : tsl Tryd.prog 175 = none := by kernel_rfl
@[simp] theorem tf_el175 : tel Tryd.prog 175 = none := by kernel_rfl
@[simp] theorem tf_int175 : tint Tryd.prog 175 = none := by kernel_rfl
@[simp] theorem tf_str175 : tstr Tryd.prog 175 = false := by kernel_rfl
@[simp] theorem tf_bool175 : tbool Tryd.prog 175 = false := by kernel_rfl
@[simp] theorem tf_ptr175 : tptr Tryd.prog 175 = false := by kernel_rfl
@[simp] theorem tf_bytes175 : tbytes Tryd.prog 175 = false := by kernel_rfl
@[simp] theorem tf_zc175 : tzc Tryd.prog 175 = some [.raw .nilFunc] := by kernel_rfl
@[simp] theorem tf_sz176 : tsz Tryd.prog 176 = some 256 := by kernel_rfl
@[simp] theorem tf_by176 : tby Tryd.prog 176 = some 256 := by kernel_rfl
@[simp] theorem tf_row176 : trow Tryd.prog 176 = some true := by kernel_rfl
@[simp] theorem tf_und176 : (Tryd.prog.underlying 176).isSome = true := by kernel_rfl
@[simp] theorem tf_sl176 : tsl Tryd.prog 176 = none := by kernel_rfl
@[simp] theorem tf_el176 : tel Tryd.prog 176 = none := by kernel_rfl
@[simp] theorem tf_int176 : tint Tryd.prog 176 = none := by kernel_rfl
@[simp] theorem tf_str176 : tstr Tryd.prog 176 = false := by kernel_rfl
@[simp] theorem tf_bool176 : tbool Tryd.prog 176 = false := by kernel_rfl
@[simp] theorem tf_ptr176 : tptr Tryd.prog 176 = false := by kernel_rfl
@[simp] theorem tf_bytes176 : tbytes Tryd.prog 176 = false := by kernel_rfl
@[simp] theorem tf_arr176 : tarr Tryd.prog 176 = some (256, 1, false) := by kernel_rfl
@[simp] theorem tf_sz177 : tsz Tryd.prog 177 = some 2 := by kernel_rfl
@[simp] theorem tf_by177 : tby Tryd.prog 177 = some 2 := by kernel_rfl
@[simp] theorem tf_row177 : trow Tryd.prog 177 = some true := by kernel_rfl
@[simp] theorem tf_und177 : (Tryd.prog.underlying 177).isSome = true := by kernel_rfl
@[simp] theorem tf_sl177 : tsl Tryd.prog 177 = none := by kernel_rfl
@[simp] theorem tf_el177 : tel Tryd.prog 177 = none := by kernel_rfl
@[simp] theorem tf_int177 : tint Tryd.prog 177 = none := by kernel_rfl
@[simp] theorem tf_str177 : tstr Tryd.prog 177 = false := by kernel_rfl
@[simp] theorem tf_bool177 : tbool Tryd.prog 177 = false := by kernel_rfl
@[simp] theorem tf_ptr177 : tptr Tryd.prog 177 = false := by kernel_rfl
@[simp] theorem tf_bytes177 : tbytes Tryd.prog 177 = false := by kernel_rfl
@[simp] theorem tf_zc177 : tzc Tryd.prog 177 = some [.int .u8 0, .int .u8 0] := by kernel_rfl
@[simp] theorem tf_pl177 : tplaces Tryd.prog 177 = some [(0, 1), (1, 1)] := by kernel_rfl
@[simp] theorem tf_fld177x0 : tfld Tryd.prog 177 0 = some (0, 1, false) := by kernel_rfl
@[simp] theorem tf_fld177x1 : tfld Tryd.prog 177 1 = some (1, 1, false) := by kernel_rfl
@[simp] theorem tf_flat177 : tflat Tryd.prog 177 = some [0, 0] := by kernel_rfl
@[simp] theorem tf_sz178 : tsz Tryd.prog 178 = some 2 := by kernel_rfl
@[simp] theorem tf_by178 : tby Tryd.prog 178 = some 2 := by kernel_rfl
@[simp] theorem tf_row178 : trow Tryd.prog 178 = some true := by kernel_rfl
@[simp] theorem tf_und178 : (Tryd.prog.underlying 178).isSome = true := by kernel_rfl
@[simp] theorem tf_sl178 : tsl Tryd.prog 178 = none := by kernel_rfl
@[simp] theorem tf_el178 : tel Tryd.prog 178 = none := by kernel_rfl
@[simp] theorem tf_int178 : tint Tryd.prog 178 = none := by kernel_rfl
@[simp] theorem tf_str178 : tstr Tryd.prog 178 = false := by kernel_rfl
@[simp] theorem tf_bool178 : tbool Tryd.prog 178 = false := by kernel_rfl
@[simp] theorem tf_ptr178 : tptr Tryd.prog 178 = false := by kernel_rfl
@[simp] theorem tf_bytes178 : tbytes Tryd.prog 178 = false := by kernel_rfl
@[simp] theorem tf_zc178 : tzc Tryd.prog 178 = some [.int .u8 0, .int .u8 0] := by kernel_rfl
@[simp] theorem tf_pl178 : tplaces Tryd.prog 178 = some [(0, 1), (1, 1)] := by kernel_rfl
@[simp] theorem tf_fld178x0 : tfld Tryd.prog 178 0 = some (0, 1, false) := by kernel_rfl
@[simp] theorem tf_fld178x1 : tfld Tryd.prog 178 1 = some (1, 1, false) := by kernel_rfl
@[simp] theorem tf_flat178 : tflat Tryd.prog 178 = some [0, 0] := by kernel_rfl
@[simp] theorem tf_sz179 : tsz Tryd.prog 179 = some 32 := by kernel_rfl
@[simp] theorem tf_by179 : tby Tryd.prog 179 = some 32 := by kernel_rfl
@[simp] theorem tf_row179 : trow Tryd.prog 179 = some true := by kernel_rfl
@[simp] theorem tf_und179 : (Tryd.prog.underlying 179).isSome = true := by kernel_rfl
@[simp] theorem tf_sl179 : tsl Tryd.prog 179 = none := by kernel_rfl
@[simp] theorem tf_el179 : tel Tryd.prog 179 = none := by kernel_rfl
@[simp] theorem tf_int179 : tint Tryd.prog 179 = none := by kernel_rfl
@[simp] theorem tf_str179 : tstr Tryd.prog 179 = false := by kernel_rfl
@[simp] theorem tf_bool179 : tbool Tryd.prog 179 = false := by kernel_rfl
@[simp] theorem tf_ptr179 : tptr Tryd.prog 179 = false := by kernel_rfl
@[simp] theorem tf_bytes179 : tbytes Tryd.prog 179 = false := by kernel_rfl
@[simp] theorem tf_zc179 : tzc Tryd.prog 179 = some [.int .u8 0, .int .u8 0, .int .u8 0, .int .u8 0, .int .u8 0, .int .u8 0, .int .u8 0, .int .u8 0, .int .u8 0, .int .u8 0, .int .u8 0, .int .u8 0, .int .u8 0, .int .u8 0, .int .u8 0, .int .u8 0, .int .u8 0, .int .u8 0, .int .u8 0, .int .u8 0, .int .u8 0, .int .u8 0, .int .u8 0, .int .u8 0, .int .u8 0, .int .u8 0, .int .u8 0, .int .u8 0, .int .u8 0, .int .u8 0, .int .u8 0, .int .u8 0] := by kernel_rfl
@[simp] theorem tf_arr179 : tarr Tryd.prog 179 = some (16, 2, true) := by kernel_rfl
@[simp] theorem tf_pl179 : tplaces Tryd.prog 179 = some [(0, 2), (2, 2), (4, 2), (6, 2), (8, 2), (10, 2), (12, 2), (14, 2), (16, 2), (18, 2), (20, 2), (22, 2), (24, 2), (26, 2), (28, 2), (30, 2)] := by kernel_rfl
@[simp] theorem tf_sz180 : tsz Tryd.prog 180 = some 1 := by kernel_rfl
@[simp] theorem tf_by180 : tby Tryd.prog 180 = some 8 := by kernel_rfl
@[simp] theorem tf_row180 : trow Tryd.prog 180 = some false := by kernel_rfl
@[simp] theorem tf_und180 : (Tryd.prog.underlying 180).isSome = true := by kernel_rfl
@[simp] theorem tf_sl180 : tsl Tryd.prog 180 = none := by kernel_rfl
@[simp] theorem tf_el180 : tel Tryd.prog 180 = none := by kernel_rfl
@[simp] theorem tf_int180 : tint Tryd.prog 180 = none := by kernel_rfl
@[simp] theorem tf_str180 : tstr Tryd.prog 180 = false := by kernel_rfl
@[simp] theorem tf_bool180 : tbool Tryd.prog 180 = false := by kernel_rfl
@[simp] theorem tf_ptr180 : tptr Tryd.prog 180 = false := by kernel_rfl
@[simp] theorem tf_bytes180 : tbytes Tryd.prog 180 = false := by kernel_rfl
@[simp] theorem tf_zc180 : tzc Tryd.prog 180 = some [.raw .nilFunc] := by kernel_rfl
@[simp] theorem tf_sz181 : tsz Tryd.prog 181 = some 1 := by kernel_rfl
@[simp] theorem tf_by181 : tby Tryd.prog 181 = some 8 := by kernel_rfl
@[simp] theorem tf_row181 : trow Tryd.prog 181 = some false := by kernel_rfl
@[simp] theorem tf_und181 : (Tryd.prog.underlying 181).isSome = true := by kernel_rfl
@[simp] theorem tf_sl181 : tsl Tryd.prog 181 = none := by kernel_rfl
@[simp] theorem tf_el181 : tel Tryd.prog 181 = none := by kernel_rfl
@[simp] theorem tf_int181 : tint Tryd.prog 181 = none := by kernel_rfl
@[simp] theorem tf_str181 : tstr Tryd.prog 181 = false := by kernel_rfl
@[simp] theorem tf_bool181 : tbool Tryd.prog 181 = false := by kernel_rfl
@[simp] theorem tf_ptr181 : tptr Tryd.prog 181 = false := by kernel_rfl
@[simp] theorem tf_bytes181 : tbytes Tryd.prog 181 = false := by kernel_rfl
@[simp] theorem tf_zc181 : tzc Tryd.prog 181 = some [.raw .nilFunc] := by kernel_rfl
@[simp] theorem tf_sz182 : tsz Tryd.prog 182 = some 32 := by kernel_rfl
@[simp] theorem tf_by182 : tby Tryd.prog 182 = some 32 := by kernel_rfl
@[simp] theorem tf_row182 : trow Tryd.prog 182 = some true := by kernel_rfl
@[simp] theorem tf_und182 : (Tryd.prog.underlying 182).isSome = true := by kernel_rfl
@[simp] theorem tf_sl182 : tsl Tryd.prog 182 = none := by kernel_rfl
@[simp] theorem tf_el182 : tel Tryd.prog 182 = none := by kernel_rfl
@[simp] theorem tf_int182 : tint Tryd.prog 182 = none := by kernel_rfl
@[simp] theorem tf_str182 : tstr Tryd.prog 182 = false := by kernel_rfl
@[simp] theorem tf_bool182 : tbool Tryd.prog 182 = false := by kernel_rfl
@[simp] theorem tf_ptr182 : tptr Tryd.prog 182 = false := by kernel_rfl
@[simp] theorem tf_bytes182 : tbytes Tryd.prog 182 = false := by kernel_rfl
@[simp] theorem tf_zc182 : tzc Tryd.prog 182 = some [.int .u8 0, .int .u8 0, .int .u8 0, .int .u8 0, .int .u8 0, .int .u8 0, .int .u8 0, .int .u8 0, .int .u8 0, .int .u8 0, .int .u8 0, .int .u8 0, .int .u8 0, .int .u8 0, .int .u8 0, .int .u8 0, .int .u8 0, .int .u8 0, .int .u8 0, .int .u8 0, .int .u8 0, .int .u8 0, .int .u8 0, .int .u8 0, .int .u8 0, .int .u8 0, .int .u8 0, .int .u8 0, .int .u8 0, .int .u8 0, .int .u8 0, .int .u8 0] := by kernel_rfl
@[simp] theorem tf_arr182 : tarr Tryd.prog 182 = some (32, 1, false) := by kernel_rfl
@[simp] theorem tf_pl182 : tplaces Tryd.prog 182 = some [(0, 1), (1, 1), (2, 1), (3, 1), (4, 1), (5, 1), (6, 1), (7, 1), (8, 1), (9, 1), (10, 1), (11, 1), (12, 1), (13, 1), (14, 1), (15, 1), (16, 1), (17, 1), (18, 1), (19, 1), (20, 1), (21, 1), (22, 1), (23, 1), (24, 1), (25, 1), (26, 1), (27, 1), (28, 1), (29, 1), (30, 1), (31, 1)] := by kernel_rfl
@[simp] theorem tf_sz183 : tsz Tryd.prog 183 = some 64 := by kernel_rfl
@[simp] theorem tf_by183 : tby Tryd.prog 183 = some 64 := by kernel_rfl
@[simp] theorem tf_row183 : trow Tryd.prog 183 = some true := by kernel_rfl
@[simp] theorem tf_und183 : (Tryd.prog.underlying 183).isSome = true := by kernel_rfl
@[simp] theorem tf_sl183 : tsl Tryd.prog 183 = none := by kernel_rfl
@[simp] theorem tf_el183 : tel Tryd.prog 183 = none := by kernel_rfl
@[simp] theorem tf_int183 : tint Tryd.prog 183 = none := by kernel_rfl
@[simp] theorem tf_str183 : tstr Tryd.prog 183 = false := by kernel_rfl
@[simp] theorem tf_bool183 : tbool Tryd.prog 183 = false := by kernel_rfl
@[simp] theorem tf_ptr183 : tptr Tryd.prog 183 = false := by kernel_rfl
@[simp] theorem tf_bytes183 : tbytes Tryd.prog 183 = false := by kernel_rfl
@[simp] theorem tf_arr183 : tarr Tryd.prog 183 = some (64, 1, false) := by kernel_rfl
@[simp] theorem tf_sz184 : tsz Tryd.prog 184 = some 4 := by kernel_rfl
@[simp] theorem tf_by184 : tby Tryd.prog 184 = some 40 := by kernel_rfl
@[simp] theorem tf_row184 : trow Tryd.prog 184 = some true := by kernel_rfl
@[simp] theorem tf_und184 : (Tryd.prog.underlying 184).isSome = true := by kernel_rfl
@[simp] theorem tf_sl184 : tsl Tryd.prog 184 = none := by kernel_rfl
@[simp] theorem tf_el184 : tel Tryd.prog 184 = none := by kernel_rfl
@[simp] theorem tf_int184 : tint Tryd.prog 184 = none := by kernel_rfl
@[simp] theorem tf_str184 : tstr Tryd.prog 184 = false := by kernel_rfl
@[simp] theorem tf_bool184 : tbool Tryd.prog 184 = false := by kernel_rfl
@[simp] theorem tf_ptr184 : tptr Tryd.prog 184 = false := by kernel_rfl
@[simp] theorem tf_bytes184 : tbytes Tryd.prog 184 = false := by kernel_rfl
@[simp] theorem tf_zc184 : tzc Tryd.prog 184 = some [.ptr none, .ptr none, .ptr none, .str []] := by kernel_rfl
@[simp] theorem tf_pl184 : tplaces Tryd.prog 184 = some [(0, 1), (1, 1), (2, 1), (3, 1)] := by kernel_rfl
@[simp] theorem tf_fld184x0 : tfld Tryd.prog 184 0 = some (0, 1, false) := by kernel_rfl
@[simp] theorem tf_fld184x1 : tfld Tryd.prog 184 1 = some (1, 1, false) := by kernel_rfl
@[simp] theorem tf_fld184x2 : tfld Tryd.prog 184 2 = some (2, 1, false) := by kernel_rfl
@[simp] theorem tf_fld184x3 : tfld Tryd.prog 184 3 = some (3, 1, false) := by kernel_rfl
@[simp] theorem tf_sz185 : tsz Tryd.prog 185 = some 4 := by kernel_rfl
@[simp] theorem tf_by185 : tby Tryd.prog 185 = some 40 := by kernel_rfl
@[simp] theorem tf_row185 : trow Tryd.prog 185 = some true := by kernel_rfl
@[simp] theorem tf_und185 : (Tryd.prog.underlying 185).isSome = true := by kernel_rfl
@[simp] theorem tf_sl185 : tsl Tryd.prog 185 = none := by kernel_rfl
@[simp] theorem tf_el185 : tel Tryd.prog 185 = none := by kernel_rfl
@[simp] theorem tf_int185 : tint Tryd.prog 185 = none := by kernel_rfl
@[simp] theorem tf_str185 : tstr Tryd.prog 185 = false := by kernel_rfl
@[simp] theorem tf_bool185 : tbool Tryd.prog 185 = false := by kernel_rfl
@[simp] theorem tf_ptr185 : tptr Tryd.prog 185 = false := by kernel_rfl
@[simp] theorem tf_bytes185 : tbytes Tryd.prog 185 = false := by kernel_rfl
@[simp] theorem tf_zc185 : tzc Tryd.prog 185 = some [.ptr none, .ptr none, .ptr none, .str []] := by kernel_rfl
@[simp] theorem tf_pl185 : tplaces Tryd.prog 185 = some [(0, 1), (1, 1), (2, 1), (3, 1)] := by kernel_rfl
@[simp] theorem tf_fld185x0 : tfld Tryd.prog 185 0 = some (0, 1, false) := by kernel_rfl
@[simp] theorem tf_fld185x1 : tfld Tryd.prog 185 1 = some (1, 1, false) := by kernel_rfl
@[simp] theorem tf_fld185x2 : tfld Tryd.prog 185 2 = some (2, 1, false) := by kernel_rfl
@[simp] theorem tf_fld185x3 : tfld Tryd.prog 185 3 = some (3, 1, false) := by kernel_rfl
@[simp] theorem tf_sz186 : tsz Tryd.prog 186 = some 0 := by kernel_rfl
@[simp] theorem tf_by186 : tby Tryd.prog 186 = some 0 := by kernel_rfl
@[simp] theorem tf_row186 : trow Tryd.prog 186 = some true := by kernel_rfl
@[simp] theorem tf_und186 : (Tryd.prog.underlying 186).isSome = true := by kernel_rfl
@[simp] theorem tf_sl186 : tsl Tryd.prog 186 = none := by kernel_rfl
@[simp] theorem tf_el186 : tel Tryd.prog 186 = none := by kernel_rfl
@[simp] theorem tf_int186 : tint Tryd.prog 186 = none := by kernel_rfl
@[simp] theorem tf_str186 : tstr Tryd.prog 186 = false := by kernel_rfl
@[simp] theorem tf_bool186 : tbool Tryd.prog 186 = false := by kernel_rfl
@[simp] theorem tf_ptr186 : tptr Tryd.prog 186 = false := by kernel_rfl
@[simp] theorem tf_bytes186 : tbytes Tryd.prog 186 = false := by kernel_rfl
@[simp] theorem tf_zc186 : tzc Tryd.prog 186 = some [] := by kernel_rfl
@[simp] theorem tf_arr186 : tarr Tryd.prog 186 = some (0, 1, false) := by kernel_rfl
@[simp] theorem tf_pl186 : tplaces Tryd.prog 186 = some [] := by kernel_rfl
@[simp] theorem tf_sz187 : tsz Tryd.prog 187 = some 0 := by kernel_rfl
@[simp] theorem tf_by187 : tby Tryd.prog 187 = some 0 := by kernel_rfl
@[simp] theorem tf_row187 : trow Tryd.prog 187 = some true := by kernel_rfl
@[simp] theorem tf_und187 : (Tryd.prog.underlying 187).isSome = true := by kernel_rfl
@[simp] theorem tf_sl187 : tsl Tryd.prog 187 = none := by kernel_rfl
@[simp] theorem tf_el187 : tel Tryd.prog 187 = none := by kernel_rfl
@[simp] theorem tf_int187 : tint Tryd.prog 187 = none := by kernel_rfl
@[simp] theorem tf_str187 : tstr Tryd.prog 187 = false := by kernel_rfl
@[simp] theorem tf_bool187 : tbool Tryd.prog 187 = false := by kernel_rfl
@[simp] theorem tf_ptr187 : tptr Tryd.prog 187 = false := by kernel_rfl
@[simp] theorem tf_bytes187 : tbytes Tryd.prog 187 = false := by kernel_rfl
@[simp] theorem tf_zc187 : tzc Tryd.prog 187 = some [] := by kernel_rfl
@[simp] theorem tf_pl187 : tplaces Tryd.prog 187 = some [(0, 0)] := by kernel_rfl
@[simp] theorem tf_sz188 : tsz Tryd.prog 188 = some 0 := by kernel_rfl
@[simp] theorem tf_by188 : tby Tryd.prog 188 = some 0 := by kernel_rfl
@[simp] theorem tf_row188 : trow Tryd.prog 188 = some true := by kernel_rfl
@[simp] theorem tf_und188 : (Tryd.prog.underlying 188).isSome = true := by kernel_rfl
@[simp] theorem tf_sl188 : tsl Tryd.prog 188 = none := by kernel_rfl
@[simp] theorem tf_el188 : tel Tryd.prog 188 = none := by kernel_rfl
@[simp] theorem tf_int188 : tint Tryd.prog 188 = none := by kernel_rfl
@[simp] theorem tf_str188 : tstr Tryd.prog 188 = false := by kernel_rfl
@[simp] theorem tf_bool188 : tbool Tryd.prog 188 = false := by kernel_rfl
@[simp] theorem tf_ptr188 : tptr Tryd.prog 188 = false := by kernel_rfl
@[simp] theorem tf_bytes188 : tbytes Tryd.prog 188 = false := by kernel_rfl
@[simp] theorem tf_zc188 : tzc Tryd.prog 188 = some [] := by kernel_rfl
@[simp] theorem tf_pl188 : tplaces Tryd.prog 188 = some [(0, 0)] := by kernel_rfl
@[simp] theorem tf_sz189 : tsz Tryd.prog 189 = some 1 := by kernel_rfl
@[simp] theorem tf_by189 : tby Tryd.prog 189 = some 1 := by kernel_rfl
@[simp] theorem tf_row189 : trow Tryd.prog 189 = some false := by kernel_rfl
@[simp] theorem tf_und189 : (Tryd.prog.underlying 189).isSome = true := by kernel_rfl
@[simp] theorem tf_sl189 : tsl Tryd.prog 189 = none := by kernel_rfl
@[simp] theorem tf_el189 : tel Tryd.prog 189 = none := by kernel_rfl
@[simp] theorem tf_int189 : tint Tryd.prog 189 = some .u8 := by kernel_rfl
@[simp] theorem tf_str189 : tstr Tryd.prog 189 = false := by kernel_rfl
@[simp] theorem tf_bool189 : tbool Tryd.prog 189 = false := by kernel_rfl
@[simp] theorem tf_ptr189 : tptr Tryd.prog 189 = false := by kernel_rfl
@[simp] theorem tf_bytes189 : tbytes Tryd.prog 189 = false := by kernel_rfl
@[simp] theorem tf_zc189 : tzc Tryd.prog 189 = some [.int .u8 0] := by kernel_rfl
@[simp] theorem tf_sz190 : tsz Tryd.prog 190 = some 1 := by kernel_rfl
@[simp] theorem tf_by190 : tby Tryd.prog 190 = some 1 := by kernel_rfl
@[simp] theorem tf_row190 : trow Tryd.prog 190 = some false := by kernel_rfl
@[simp] theorem tf_und190 : (Tryd.prog.underlying 190).isSome = true := by kernel_rfl
@[simp] theorem tf_sl190 : tsl Tryd.prog 190 = none := by kernel_rfl
@[simp] theorem tf_el190 : tel Tryd.prog 190 = none := by kernel_rfl
@[simp] theorem tf_int190 : tint Tryd.prog 190 = some .u8 := by kernel_rfl
@[simp] theorem tf_str190 : tstr Tryd.prog 190 = false := by kernel_rfl
@[simp] theorem tf_bool190 : tbool Tryd.prog 190 = false := by kernel_rfl
@[simp] theorem tf_ptr190 : tptr Tryd.prog 190 = false := by kernel_rfl
@[simp] theorem tf_bytes190 : tbytes Tryd.prog 190 = false := by kernel_rfl
@[simp] theorem tf_zc190 : tzc Tryd.prog 190 = some [.int .u8 0] := by kernel_rfl
@[simp] theorem tf_sz191 : tsz Tryd.prog 191 = some 1 := by kernel_rfl
@[simp] theorem tf_by191 : tby Tryd.prog 191 = some 8 := by kernel_rfl
@[simp] theorem tf_row191 : trow Tryd.prog 191 = some false := by kernel_rfl
@[simp] theorem tf_und191 : (Tryd.prog.underlying 191).isSome = true := by kernel_rfl
@[simp] theorem tf_sl191 : tsl Tryd.prog 191 = none := by kernel_rfl
@[simp] theorem tf_el191 : tel Tryd.prog 191 = none := by kernel_rfl
@[simp] theorem tf_int191 : tint Tryd.prog 191 = none := by kernel_rfl
@[simp] theorem tf_str191 : tstr Tryd.prog 191 = false := by kernel_rfl
@[simp] theorem tf_bool191 : tbool Tryd.prog 191 = false := by kernel_rfl
@[simp] theorem tf_ptr191 : tptr Tryd.prog 191 = false := by kernel_rfl
@[simp] theorem tf_bytes191 : tbytes Tryd.prog 191 = false := by kernel_rfl
@[simp] theorem tf_zc191 : tzc Tryd.prog 191 = some [.raw .nilFunc] := by kernel_rfl
@[simp] theorem tf_sz192 : tsz Tryd.prog 192 = some 1 := by kernel_rfl
@[simp] theorem tf_by192 : tby Tryd.prog 192 = some 4 := by kernel_rfl
@[simp] theorem tf_row192 : trow Tryd.prog 192 = some false := by kernel_rfl
@[simp] theorem tf_und192 : (Tryd.prog.underlying 192).isSome = true := by kernel_rfl
@[simp] theorem tf_sl192 : tsl Tryd.prog 192 = none := by kernel_rfl
@[simp] theorem tf_el192 : tel Tryd.prog 192 = none := by kernel_rfl
@[simp] theorem tf_int192 : tint Tryd.prog 192 = some .i32 := by kernel_rfl
@[simp] theorem tf_str192 : tstr Tryd.prog 192 = false := by kernel_rfl
@[simp] theorem tf_bool192 : tbool Tryd.prog 192 = false := by kernel_rfl
@[simp] theorem tf_ptr192 : tptr Tryd.prog 192 = false := by kernel_rfl
@[simp] theorem tf_bytes192 : tbytes Tryd.prog 192 = false := by kernel_rfl
@[simp] theorem tf_zc192 : tzc Tryd.prog 192 = some [.int .i32 0] := by kernel_rfl
@[simp] theorem tf_sz193 : tsz Tryd.prog 193 = some 1 := by kernel_rfl
@[simp] theorem tf_by193 : tby Tryd.prog 193 = some 4 := by kernel_rfl
@[simp] theorem tf_row193 : trow Tryd.prog 193 = some false := by kernel_rfl
@[simp] theorem tf_und193 : (Tryd.prog.underlying 193).isSome = true := by kernel_rfl
@[simp] theorem tf_sl193 : tsl Tryd.prog 193 = none := by kernel_rfl
@[simp] theorem tf_el193 : tel Tryd.prog 193 = none := by kernel_rfl
@[simp] theorem tf_int193 : tint Tryd.prog 193 = some .i32 := by kernel_rfl
@[simp] theorem tf_str193 : tstr Tryd.prog 193 = false := by kernel_rfl
@[simp] theorem tf_bool193 : tbool Tryd.prog 193 = false := by kernel_rfl
@[simp] theorem tf_ptr193 : tptr Tryd.prog 193 = false := by kernel_rfl
@[simp] theorem tf_bytes193 : tbytes Tryd.prog 193 = false := by kernel_rfl
@[simp] theorem tf_zc193 : tzc Tryd.prog 193 = some [.int .i32 0] := by kernel_rfl
@[simp] theorem tf_sz194 : tsz Tryd.prog 194 = some 11 := by kernel_rfl
@[simp] theorem tf_by194 : tby Tryd.prog 194 = some 48 := by kernel_rfl
@[simp] theorem tf_row194 : trow Tryd.prog 194 = some true := by kernel_rfl
@[simp] theorem tf_und194 : (Tryd.prog.underlying 194).isSome = true := by kernel_rfl
@[simp] theorem tf_sl194 : tsl Tryd.prog 194 = none := by kernel_rfl
@[simp] theorem tf_el194 : tel Tryd.prog 194 = none := by kernel_rfl
@[simp] theorem tf_int194 : tint Tryd.prog 194 = none := by kernel_rfl
@[simp] theorem tf_str194 : tstr Tryd.prog 194 = false := by kernel_rfl
@[simp] theorem tf_bool194 : tbool Tryd.prog 194 = false := by kernel_rfl
@[simp] theorem tf_ptr194 : tptr Tryd.prog 194 = false := by kernel_rfl
@[simp] theorem tf_bytes194 : tbytes Tryd.prog 194 = false := by kernel_rfl
@[simp] theorem tf_zc194 : tzc Tryd.prog 194 = some [.int .u64 0, .int .u64 0, .int .u32 0, .int .u8 0, .int .u8 0, .int .u8 0, .int .u8 0, .raw .nilFunc, .ptr none, .int .i32 0, .int .i32 0] := by kernel_rfl
@[simp] theorem tf_pl194 : tplaces Tryd.prog 194 = some [(0, 1), (1, 1), (2, 1), (3, 1), (4, 1), (5, 1), (6, 1), (7, 1), (8, 1), (9, 1), (10, 1)] := by kernel_rfl
@[simp] theorem tf_fld194x0 : tfld Tryd.prog 194 0 = some (0, 1, false) := by kernel_rfl
@[simp] theorem tf_fld194x1 : tfld Tryd.prog 194 1 = some (1, 1, false) := by kernel_rfl
@[simp] theorem tf_fld194x2 : tfld Tryd.prog 194 2 = some (2, 1, false) := by kernel_rfl
@[simp] theorem tf_fld194x3 : tfld Tryd.prog 194 3 = some (3, 1, false) := by kernel_rfl
@[simp] theorem tf_fld194x4 : tfld Tryd.prog 194 4 = some (4, 1, false) := by kernel_rfl
@[simp] theorem tf_fld194x5 : tfld Tryd.prog 194 5 = some (5, 1, false) := by kernel_rfl
@[simp] theorem tf_fld194x6 : tfld Tryd.prog 194 6 = some (6, 1, false) := by kernel_rfl
@[simp] theorem tf_fld194x7 : tfld Tryd.prog 194 7 = some (7, 1, false) := by kernel_rfl
@[simp] theorem tf_fld194x8 : tfld Tryd.prog 194 8 = some (8, 1, false) := by kernel_rfl
@[simp] theorem tf_fld194x9 : tfld Tryd.prog 194 9 = some (9, 1, false) := by kernel_rfl
@[simp] theorem tf_fld194x10 : tfld Tryd.prog 194 10 = some (10, 1, false) := by kernel_rfl
@[simp] theorem tf_sz195 : tsz Tryd.prog 195 = some 11 := by kernel_rfl
@[simp] theorem tf_by195 : tby Tryd.prog 195 = some 48 := by kernel_rfl
@[simp] theorem tf_row195 : trow Tryd.prog 195 = some true := by kernel_rfl
@[simp] theorem tf_und195 : (Tryd.prog.underlying 195).isSome = true := by kernel_rfl
@[simp] theorem tf_sl195 : tsl Tryd.prog 195 = none := by kernel_rfl
@[simp] theorem tf_el195 : tel Tryd.prog 195 = none := by kernel_rfl
@[simp] theorem tf_int195 : tint Tryd.prog 195 = none := by kernel_rfl
@[simp] theorem tf_str195 : tstr Tryd.prog 195 = false := by kernel_rfl
@[simp] theorem tf_bool195 : tbool Tryd.prog 195 = false := by kernel_rfl
@[simp] theorem tf_ptr195 : tptr Tryd.prog 195 = false := by kernel_rfl
@[simp] theorem tf_bytes195 : tbytes Tryd.prog 195 = false := by kernel_rfl
@[simp] theorem tf_zc195 : tzc Tryd.prog 195 = some [.int .u64 0, .int .u64 0, .int .u32 0, .int .u8 0, .int .u8 0, .int .u8 0, .int .u8 0, .raw .nilFunc, .ptr none, .int .i32 0, .int .i32 0] := by kernel_rfl
@[simp] theorem tf_pl195 : tplaces Tryd.prog 195 = some [(0, 1), (1, 1), (2, 1), (3, 1), (4, 1), (5, 1), (6, 1), (7, 1), (8, 1), (9, 1), (10, 1)] := by kernel_rfl
@[simp] theorem tf_fld195x0 : tfld Tryd.prog 195 0 = some (0, 1, false) := by kernel_rfl
@[simp] theorem tf_fld195x1 : tfld Tryd.prog 195 1 = some (1, 1, false) := by kernel_rfl
@[simp] theorem tf_fld195x2 : tfld Tryd.prog 195 2 = some (2, 1, false) := by kernel_rfl
@[simp] theorem tf_fld195x3 : tfld Tryd.prog 195 3 = some (3, 1, false) := by kernel_rfl
@[simp] theorem tf_fld195x4 : tfld Tryd.prog 195 4 = some (4, 1, false) := by kernel_rfl
@[simp] theorem tf_fld195x5 : tfld Tryd.prog 195 5 = some (5, 1, false) := by kernel_rfl
@[simp] theorem tf_fld195x6 : tfld Tryd.prog 195 6 = some (6, 1, false) := by kernel_rfl
@[simp] theorem tf_fld195x7 : tfld Tryd.prog 195 7 = some (7, 1, false) := by kernel_rfl
@[simp] theorem tf_fld195x8 : tfld Tryd.prog 195 8 = some (8, 1, false) := by kernel_rfl
@[simp] theorem tf_fld195x9 : tfld Tryd.prog 195 9 = some (9, 1, false) := by kernel_rfl
@[simp] theorem tf_fld195x10 : tfld Tryd.prog 195 10 = some (10, 1, false) := by kernel_rfl
end Go.Proofs.YtimhofphmgehgaaDoor
