/- Part 5 of the texts below the law. -/
import Derived.Test.YtnnhdehmlkkfjaaGreatDoorPe4
import Derived.Test.YtnnhdehmlkkfjaaGreatDoorProg
import Derived.KernelRfl
import Derived.Test.YtnnhdehmlkkfjaaGreatDoorRows
import Derived.ProofKit
import Derived.OpenShut
import Derived.SizedLaws
import Derived.Deep.Slices
import Derived.Deep.Fields
import Derived.SliceStrings
import Derived.WalkKit
import Derived.Defers
import Derived.Recover
import Derived.TacticsInMore
import Derived.Laws.EntriesVeiled
import Derived.Shelf.Strconv.Itoa3
import Derived.Shelf.Strings.BuilderK
import Derived.Shelf.Strings.OnBuilder
import Derived.Shelf.Strings.SlTrimAscii
import Derived.Lib.Strings
import Derived.Lib.Slices
import Derived.Lib.Walk
import Derived.Lib.Bytealg
import Derived.Lib.SlTrimSet
import Derived.Lib.Join
import Derived.BigCall
set_option maxRecDepth 100000
set_option maxHeartbeats 16000000
set_option linter.unusedVariables false
namespace Go.Proofs.YtnnhdehmlkkfjaaGreatDoor
open Go
@[simp] theorem tf_sz3:tsz Tryz.prog 3=some 1:=by kernel_rfl
@[simp] theorem tf_row3:trow Tryz.prog 3=some false:=by kernel_rfl
@[simp] theorem tf_int3:tint Tryz.prog 3=some .i64:=by kernel_rfl
@[simp] theorem tf_zc3:tzc Tryz.prog 3=some [.int .i64 0]:=by kernel_rfl
@[simp] theorem tf_sz4:tsz Tryz.prog 4=some 1:=by kernel_rfl
@[simp] theorem tf_row4:trow Tryz.prog 4=some false:=by kernel_rfl
@[simp] theorem tf_bool4:tbool Tryz.prog 4=true:=by kernel_rfl
@[simp] theorem tf_sz5:tsz Tryz.prog 5=some 1:=by kernel_rfl
@[simp] theorem tf_by5:tby Tryz.prog 5=some 1:=by kernel_rfl
@[simp] theorem tf_row5:trow Tryz.prog 5=some false:=by kernel_rfl
@[simp] theorem tf_int5:tint Tryz.prog 5=some .u8:=by kernel_rfl
@[simp] theorem tf_zc5:tzc Tryz.prog 5=some [.int .u8 0]:=by kernel_rfl
@[simp] theorem tf_sz9:tsz Tryz.prog 9=some 1:=by kernel_rfl
@[simp] theorem tf_by9:tby Tryz.prog 9=some 16:=by kernel_rfl
@[simp] theorem tf_row9:trow Tryz.prog 9=some false:=by kernel_rfl
@[simp] theorem tf_str9:tstr Tryz.prog 9=true:=by kernel_rfl
@[simp] theorem tf_zc9:tzc Tryz.prog 9=some [.str []]:=by kernel_rfl
@[simp] theorem tf_sz23:tsz Tryz.prog 23=some 4:=by kernel_rfl
@[simp] theorem tf_row23:trow Tryz.prog 23=some true:=by kernel_rfl
@[simp] theorem tf_zc23:tzc Tryz.prog 23=some [.int .i64 0,.int .i64 0,.int .i64 0,.int .i64 0]:=by kernel_rfl
@[simp] theorem tf_pl23:tplaces Tryz.prog 23=some [(0,1),(1,1),(2,1),(3,1)]:=by kernel_rfl
@[simp] theorem tf_fld23x0:tfld Tryz.prog 23 0=some (0,1,false):=by kernel_rfl
@[simp] theorem tf_fld23x1:tfld Tryz.prog 23 1=some (1,1,false):=by kernel_rfl
@[simp] theorem tf_fld23x2:tfld Tryz.prog 23 2=some (2,1,false):=by kernel_rfl
@[simp] theorem tf_fld23x3:tfld Tryz.prog 23 3=some (3,1,false):=by kernel_rfl
@[simp] theorem tf_sz24:tsz Tryz.prog 24=some 1:=by kernel_rfl
@[simp] theorem tf_row24:trow Tryz.prog 24=some false:=by kernel_rfl
@[simp] theorem tf_sl24:tsl Tryz.prog 24=some 65:=by kernel_rfl
@[simp] theorem tf_el24:tel Tryz.prog 24=some 2:=by kernel_rfl
@[simp] theorem tf_sz26:tsz Tryz.prog 26=some 7:=by kernel_rfl
@[simp] theorem tf_row26:trow Tryz.prog 26=some true:=by kernel_rfl
@[simp] theorem tf_zc26:tzc Tryz.prog 26=some [.str [],.str [],.int .i64 0,.int .i64 0,.nil,.str [],.nil]:=by kernel_rfl
@[simp] theorem tf_pl26:tplaces Tryz.prog 26=some [(0,1),(1,1),(2,1),(3,1),(4,1),(5,1),(6,1)]:=by kernel_rfl
@[simp] theorem tf_fld26x0:tfld Tryz.prog 26 0=some (0,1,false):=by kernel_rfl
@[simp] theorem tf_fld26x1:tfld Tryz.prog 26 1=some (1,1,false):=by kernel_rfl
@[simp] theorem tf_fld26x2:tfld Tryz.prog 26 2=some (2,1,false):=by kernel_rfl
@[simp] theorem tf_fld26x3:tfld Tryz.prog 26 3=some (3,1,false):=by kernel_rfl
@[simp] theorem tf_fld26x4:tfld Tryz.prog 26 4=some (4,1,false):=by kernel_rfl
@[simp] theorem tf_fld26x5:tfld Tryz.prog 26 5=some (5,1,false):=by kernel_rfl
@[simp] theorem tf_fld26x6:tfld Tryz.prog 26 6=some (6,1,false):=by kernel_rfl
@[simp] theorem tf_sz27:tsz Tryz.prog 27=some 1:=by kernel_rfl
@[simp] theorem tf_row27:trow Tryz.prog 27=some false:=by kernel_rfl
@[simp] theorem tf_sz29:tsz Tryz.prog 29=some 3:=by kernel_rfl
@[simp] theorem tf_row29:trow Tryz.prog 29=some true:=by kernel_rfl
@[simp] theorem tf_zc29:tzc Tryz.prog 29=some [.int .i64 0,.int .i64 0,.int .i64 0]:=by kernel_rfl
@[simp] theorem tf_pl29:tplaces Tryz.prog 29=some [(0,1),(1,1),(2,1)]:=by kernel_rfl
@[simp] theorem tf_fld29x1:tfld Tryz.prog 29 1=some (1,1,false):=by kernel_rfl
@[simp] theorem tf_sz32:tsz Tryz.prog 32=some 1:=by kernel_rfl
@[simp] theorem tf_row32:trow Tryz.prog 32=some false:=by kernel_rfl
@[simp] theorem tf_sl32:tsl Tryz.prog 32=some 89:=by kernel_rfl
@[simp] theorem tf_el32:tel Tryz.prog 32=some 2:=by kernel_rfl
@[simp] theorem tf_sz34:tsz Tryz.prog 34=some 7:=by kernel_rfl
@[simp] theorem tf_row34:trow Tryz.prog 34=some true:=by kernel_rfl
@[simp] theorem tf_zc34:tzc Tryz.prog 34=some [.str [],.str [],.int .i64 0,.int .i64 0,.nil,.str [],.nil]:=by kernel_rfl
@[simp] theorem tf_pl34:tplaces Tryz.prog 34=some [(0,1),(1,1),(2,1),(3,1),(4,1),(5,1),(6,1)]:=by kernel_rfl
@[simp] theorem tf_fld34x0:tfld Tryz.prog 34 0=some (0,1,false):=by kernel_rfl
@[simp] theorem tf_fld34x1:tfld Tryz.prog 34 1=some (1,1,false):=by kernel_rfl
@[simp] theorem tf_fld34x2:tfld Tryz.prog 34 2=some (2,1,false):=by kernel_rfl
@[simp] theorem tf_fld34x3:tfld Tryz.prog 34 3=some (3,1,false):=by kernel_rfl
@[simp] theorem tf_fld34x4:tfld Tryz.prog 34 4=some (4,1,false):=by kernel_rfl
@[simp] theorem tf_fld34x5:tfld Tryz.prog 34 5=some (5,1,false):=by kernel_rfl
@[simp] theorem tf_fld34x6:tfld Tryz.prog 34 6=some (6,1,false):=by kernel_rfl
@[simp] theorem tf_sz36:tsz Tryz.prog 36=some 14:=by kernel_rfl
@[simp] theorem tf_row36:trow Tryz.prog 36=some true:=by kernel_rfl
@[simp] theorem tf_zc36:tzc Tryz.prog 36=some [.int .i64 0,.int .i64 0,.bool false,.str [],.str [],.int .i64 0,.int .i64 0,.nil,.str [],.nil,.bool false,.int .i64 0,.int .i64 0,.int .i64 0]:=by kernel_rfl
@[simp] theorem tf_pl36:tplaces Tryz.prog 36=some [(0,1),(1,1),(2,1),(3,7),(10,1),(11,1),(12,1),(13,1)]:=by kernel_rfl
@[simp] theorem tf_fld36x0:tfld Tryz.prog 36 0=some (0,1,false):=by kernel_rfl
@[simp] theorem tf_fld36x6:tfld Tryz.prog 36 6=some (12,1,false):=by kernel_rfl
@[simp] theorem tf_sz39:tsz Tryz.prog 39=some 4:=by kernel_rfl
@[simp] theorem tf_row39:trow Tryz.prog 39=some true:=by kernel_rfl
@[simp] theorem tf_zc39:tzc Tryz.prog 39=some [.int .i64 0,.int .i64 0,.int .i64 0,.int .i64 0]:=by kernel_rfl
@[simp] theorem tf_pl39:tplaces Tryz.prog 39=some [(0,1),(1,1),(2,1),(3,1)]:=by kernel_rfl
@[simp] theorem tf_fld39x0:tfld Tryz.prog 39 0=some (0,1,false):=by kernel_rfl
@[simp] theorem tf_fld39x1:tfld Tryz.prog 39 1=some (1,1,false):=by kernel_rfl
@[simp] theorem tf_fld39x2:tfld Tryz.prog 39 2=some (2,1,false):=by kernel_rfl
@[simp] theorem tf_fld39x3:tfld Tryz.prog 39 3=some (3,1,false):=by kernel_rfl
@[simp] theorem tf_row45:trow Tryz.prog 45=some false:=by kernel_rfl
@[simp] theorem tf_sl51:tsl Tryz.prog 51=some 3:=by kernel_rfl
@[simp] theorem tf_el51:tel Tryz.prog 51=some 1:=by kernel_rfl
@[simp] theorem tf_sz65:tsz Tryz.prog 65=some 2:=by kernel_rfl
@[simp] theorem tf_by65:tby Tryz.prog 65=some 32:=by kernel_rfl
@[simp] theorem tf_row65:trow Tryz.prog 65=some true:=by kernel_rfl
@[simp] theorem tf_zc65:tzc Tryz.prog 65=some [.str [],.str []]:=by kernel_rfl
@[simp] theorem tf_pl65:tplaces Tryz.prog 65=some [(0,1),(1,1)]:=by kernel_rfl
@[simp] theorem tf_fld65x0:tfld Tryz.prog 65 0=some (0,1,false):=by kernel_rfl
@[simp] theorem tf_fld65x1:tfld Tryz.prog 65 1=some (1,1,false):=by kernel_rfl
@[simp] theorem tf_sl78:tsl Tryz.prog 78=some 9:=by kernel_rfl
@[simp] theorem tf_el78:tel Tryz.prog 78=some 1:=by kernel_rfl
@[simp] theorem tf_sz81:tsz Tryz.prog 81=some 1:=by kernel_rfl
@[simp] theorem tf_row81:trow Tryz.prog 81=some false:=by kernel_rfl
@[simp] theorem tf_func81:tfunc Tryz.prog 81=true:=by kernel_rfl
@[simp] theorem tf_sz82:tsz Tryz.prog 82=some 1:=by kernel_rfl
@[simp] theorem tf_row82:trow Tryz.prog 82=some false:=by kernel_rfl
@[simp] theorem tf_sl82:tsl Tryz.prog 82=some 5:=by kernel_rfl
@[simp] theorem tf_el82:tel Tryz.prog 82=some 1:=by kernel_rfl
@[simp] theorem tf_str82:tstr Tryz.prog 82=false:=by kernel_rfl
@[simp] theorem tf_bytes82:tbytes Tryz.prog 82=true:=by kernel_rfl
@[simp] theorem tf_sz83:tsz Tryz.prog 83=some 1:=by kernel_rfl
@[simp] theorem tf_row83:trow Tryz.prog 83=some false:=by kernel_rfl
@[simp] theorem tf_ptr83:tptr Tryz.prog 83=true:=by kernel_rfl
@[simp] theorem tf_zc85:tzc Tryz.prog 85=some [.int .i64 0,.int .i64 0,.int .i64 0,.int .i64 0,.raw .nilFunc,.int .i64 0,.int .i64 0,.str [],.str [],.int .i64 0,.int .i64 0,.nil,.str [],.nil,.int .i64 0,.int .i64 0,.int .i64 0,.nil,.str [],.int .i64 0,.int .i64 0,.int .i64 0,.nil,.ptr none,.bool false]:=by kernel_rfl
@[simp] theorem tf_pl85:tplaces Tryz.prog 85=some [(0,4),(4,1),(5,1),(6,1),(7,7),(14,3),(17,1),(18,1),(19,1),(20,1),(21,1),(22,1),(23,1),(24,1)]:=by kernel_rfl
@[simp] theorem tf_fld85x0:tfld Tryz.prog 85 0=some (0,4,true):=by kernel_rfl
@[simp] theorem tf_fld85x1:tfld Tryz.prog 85 1=some (4,1,false):=by kernel_rfl
@[simp] theorem tf_fld85x2:tfld Tryz.prog 85 2=some (5,1,false):=by kernel_rfl
@[simp] theorem tf_fld85x3:tfld Tryz.prog 85 3=some (6,1,false):=by kernel_rfl
@[simp] theorem tf_fld85x4:tfld Tryz.prog 85 4=some (7,7,true):=by kernel_rfl
@[simp] theorem tf_fld85x5:tfld Tryz.prog 85 5=some (14,3,true):=by kernel_rfl
@[simp] theorem tf_fld85x6:tfld Tryz.prog 85 6=some (17,1,false):=by kernel_rfl
@[simp] theorem tf_fld85x8:tfld Tryz.prog 85 8=some (19,1,false):=by kernel_rfl
@[simp] theorem tf_fld85x9:tfld Tryz.prog 85 9=some (20,1,false):=by kernel_rfl
@[simp] theorem tf_fld85x10:tfld Tryz.prog 85 10=some (21,1,false):=by kernel_rfl
@[simp] theorem tf_fld85x11:tfld Tryz.prog 85 11=some (22,1,false):=by kernel_rfl
@[simp] theorem tf_fld85x12:tfld Tryz.prog 85 12=some (23,1,false):=by kernel_rfl
@[simp] theorem tf_fld85x13:tfld Tryz.prog 85 13=some (24,1,false):=by kernel_rfl
@[simp] theorem tf_sz89:tsz Tryz.prog 89=some 2:=by kernel_rfl
@[simp] theorem tf_by89:tby Tryz.prog 89=some 32:=by kernel_rfl
@[simp] theorem tf_row89:trow Tryz.prog 89=some true:=by kernel_rfl
@[simp] theorem tf_zc89:tzc Tryz.prog 89=some [.str [],.str []]:=by kernel_rfl
@[simp] theorem tf_pl89:tplaces Tryz.prog 89=some [(0,1),(1,1)]:=by kernel_rfl
@[simp] theorem tf_fld89x0:tfld Tryz.prog 89 0=some (0,1,false):=by kernel_rfl
@[simp] theorem tf_fld89x1:tfld Tryz.prog 89 1=some (1,1,false):=by kernel_rfl
@[simp] theorem tf_sz95:tsz Tryz.prog 95=some 6:=by kernel_rfl
@[simp] theorem tf_row95:trow Tryz.prog 95=some true:=by kernel_rfl
@[simp] theorem tf_zc95:tzc Tryz.prog 95=some [.int .i64 0,.str [],.int .i64 0,.str [],.str [],.bool false]:=by kernel_rfl
@[simp] theorem tf_pl95:tplaces Tryz.prog 95=some [(0,1),(1,1),(2,1),(3,1),(4,1),(5,1)]:=by kernel_rfl
@[simp] theorem tf_fld95x3:tfld Tryz.prog 95 3=some (3,1,false):=by kernel_rfl
@[simp] theorem tf_fld95x4:tfld Tryz.prog 95 4=some (4,1,false):=by kernel_rfl
@[simp] theorem tf_fld95x5:tfld Tryz.prog 95 5=some (5,1,false):=by kernel_rfl
@[simp] theorem tf_sz101:tsz Tryz.prog 101=some 2:=by kernel_rfl
@[simp] theorem tf_row101:trow Tryz.prog 101=some true:=by kernel_rfl
@[simp] theorem tf_zc101:tzc Tryz.prog 101=some [.int .i64 0,.int .i64 0]:=by kernel_rfl
@[simp] theorem tf_pl101:tplaces Tryz.prog 101=some [(0,1),(1,1)]:=by kernel_rfl
@[simp] theorem tf_fld101x0:tfld Tryz.prog 101 0=some (0,1,false):=by kernel_rfl
@[simp] theorem tf_fld101x1:tfld Tryz.prog 101 1=some (1,1,false):=by kernel_rfl
@[simp] theorem tf_zc120:tzc Tryz.prog 120=some [.ptr none,.nil]:=by kernel_rfl
@[simp] theorem tf_sz153:tsz Tryz.prog 153=some 5:=by kernel_rfl
@[simp] theorem tf_row153:trow Tryz.prog 153=some true:=by kernel_rfl
@[simp] theorem tf_zc153:tzc Tryz.prog 153=some [.int .i64 0,.int .i64 0,.bool false,.str [],.nil]:=by kernel_rfl
@[simp] theorem tf_pl153:tplaces Tryz.prog 153=some [(0,1),(1,1),(2,1),(3,1),(4,1)]:=by kernel_rfl
@[simp] theorem tf_fld153x0:tfld Tryz.prog 153 0=some (0,1,false):=by kernel_rfl
@[simp] theorem tf_fld153x1:tfld Tryz.prog 153 1=some (1,1,false):=by kernel_rfl
@[simp] theorem tf_fld153x2:tfld Tryz.prog 153 2=some (2,1,false):=by kernel_rfl
@[simp] theorem tf_fld153x3:tfld Tryz.prog 153 3=some (3,1,false):=by kernel_rfl
@[simp] theorem tf_fld153x4:tfld Tryz.prog 153 4=some (4,1,false):=by kernel_rfl
@[simp] theorem tf_sl171:tsl Tryz.prog 171=some 209:=by kernel_rfl
@[simp] theorem tf_sl178:tsl Tryz.prog 178=some 195:=by kernel_rfl
@[simp] theorem tf_el178:tel Tryz.prog 178=some 3:=by kernel_rfl
@[simp] theorem tf_sz184:tsz Tryz.prog 184=some 6:=by kernel_rfl
@[simp] theorem tf_row184:trow Tryz.prog 184=some true:=by kernel_rfl
@[simp] theorem tf_zc184:tzc Tryz.prog 184=some [.int .i64 0,.str [],.int .i64 0,.str [],.str [],.bool false]:=by kernel_rfl
@[simp] theorem tf_pl184:tplaces Tryz.prog 184=some [(0,1),(1,1),(2,1),(3,1),(4,1),(5,1)]:=by kernel_rfl
@[simp] theorem tf_fld184x3:tfld Tryz.prog 184 3=some (3,1,false):=by kernel_rfl
@[simp] theorem tf_fld184x4:tfld Tryz.prog 184 4=some (4,1,false):=by kernel_rfl
@[simp] theorem tf_fld184x5:tfld Tryz.prog 184 5=some (5,1,false):=by kernel_rfl
@[simp] theorem tf_sz195:tsz Tryz.prog 195=some 3:=by kernel_rfl
@[simp] theorem tf_by195:tby Tryz.prog 195=some 40:=by kernel_rfl
@[simp] theorem tf_row195:trow Tryz.prog 195=some true:=by kernel_rfl
@[simp] theorem tf_zc195:tzc Tryz.prog 195=some [.str [],.str [],.bool false]:=by kernel_rfl
@[simp] theorem tf_pl195:tplaces Tryz.prog 195=some [(0,1),(1,1),(2,1)]:=by kernel_rfl
@[simp] theorem tf_fld195x0:tfld Tryz.prog 195 0=some (0,1,false):=by kernel_rfl
@[simp] theorem tf_fld195x1:tfld Tryz.prog 195 1=some (1,1,false):=by kernel_rfl
@[simp] theorem tf_fld195x2:tfld Tryz.prog 195 2=some (2,1,false):=by kernel_rfl
@[simp] theorem tf_int198:tint Tryz.prog 198=some .u64:=by kernel_rfl
@[simp] theorem tf_sz209:tsz Tryz.prog 209=some 3:=by kernel_rfl
@[simp] theorem tf_by209:tby Tryz.prog 209=some 40:=by kernel_rfl
@[simp] theorem tf_row209:trow Tryz.prog 209=some true:=by kernel_rfl
@[simp] theorem tf_zc209:tzc Tryz.prog 209=some [.str [],.str [],.bool false]:=by kernel_rfl
@[simp] theorem tf_pl209:tplaces Tryz.prog 209=some [(0,1),(1,1),(2,1)]:=by kernel_rfl
@[simp] theorem tf_fld209x1:tfld Tryz.prog 209 1=some (1,1,false):=by kernel_rfl
@[simp] theorem tf_fld209x2:tfld Tryz.prog 209 2=some (2,1,false):=by kernel_rfl
@[simp] theorem tf_arr222:tarr Tryz.prog 222=some (65,1,false):=by kernel_rfl
@[simp] theorem tf_int224:tint Tryz.prog 224=some .u64:=by kernel_rfl
@[simp] theorem tf_sz241:tsz Tryz.prog 241=some 1:=by kernel_rfl
@[simp] theorem tf_row241:trow Tryz.prog 241=some false:=by kernel_rfl
@[simp] theorem tf_zc243:tzc Tryz.prog 243=some [.int .i64 0,.int .i64 0,.int .i64 0,.raw .nilFunc,.nil,.int .i64 0,.nil,.nil,.int .i64 0,.int .i64 0,.bool false,.int .i64 0]:=by kernel_rfl
@[simp] theorem tf_pl243:tplaces Tryz.prog 243=some [(0,1),(1,1),(2,1),(3,1),(4,1),(5,1),(6,1),(7,1),(8,1),(9,1),(10,1),(11,1)]:=by kernel_rfl
@[simp] theorem tf_fld243x0:tfld Tryz.prog 243 0=some (0,1,false):=by kernel_rfl
@[simp] theorem tf_fld243x1:tfld Tryz.prog 243 1=some (1,1,false):=by kernel_rfl
@[simp] theorem tf_fld243x2:tfld Tryz.prog 243 2=some (2,1,false):=by kernel_rfl
@[simp] theorem tf_fld243x3:tfld Tryz.prog 243 3=some (3,1,false):=by kernel_rfl
@[simp] theorem tf_fld243x4:tfld Tryz.prog 243 4=some (4,1,false):=by kernel_rfl
@[simp] theorem tf_fld243x5:tfld Tryz.prog 243 5=some (5,1,false):=by kernel_rfl
@[simp] theorem tf_fld243x6:tfld Tryz.prog 243 6=some (6,1,false):=by kernel_rfl
@[simp] theorem tf_fld243x7:tfld Tryz.prog 243 7=some (7,1,false):=by kernel_rfl
@[simp] theorem tf_fld243x8:tfld Tryz.prog 243 8=some (8,1,false):=by kernel_rfl
@[simp] theorem tf_fld243x9:tfld Tryz.prog 243 9=some (9,1,false):=by kernel_rfl
@[simp] theorem tf_fld243x10:tfld Tryz.prog 243 10=some (10,1,false):=by kernel_rfl
@[simp] theorem tf_fld243x11:tfld Tryz.prog 243 11=some (11,1,false):=by kernel_rfl
end Go.Proofs.YtnnhdehmlkkfjaaGreatDoor
set_option linter.unusedSimpArgs false
namespace Go.Proofs.YtnnhdehmlkkfjaaGreatDoor
open Go Go.ChangeShapes Go.WideShapes Go.ChangeAt Go.RowKit Go.Deep
theorem Tryz.own:ownKnob Tryz.prog.godebug=none:=by kernel_rfl
theorem Tryz.laidOut:laidOutB Tryz.prog=true:=by kernel_rfl
section
variable {H:Type}{enc:TypeId×Value->H}
theorem Frm.trodAll{P:Program}(hl:laidOutB P=true){W W':World}(hF:Frm (fun _=>False) W W')(sp:Nat->Bool):∀{ts:List TypeId} {vs:List Value} {ds:List (DataW H)} {ps:List MemPlace},(∀t∈ts,P.readableRec t=true/\t<P.types.size)->DataW.TrodAll enc P W 0 (fun _=>true) true ts vs ds ps->(∀p∈ps,sp p.block=true)->(∀p∈ps,p.block<W.heap.size)->DataW.TrodAll enc P W' 0 sp true ts vs ds ps
 |[],[],[],_,_,h,_,_=>h
 |_::_,_::_,_::_,_,hT,⟨p,q,h1,h2,e⟩,hs,hlt=>
  ⟨p,q,WideElems.Trod_stays hl (hT _ (List.mem_cons.2 (Or.inl rfl))).1 (hT _ (List.mem_cons.2 (Or.inl rfl))).2 h1
   (fun x hx=>(hF.toBelow (Nat.le_refl _) (fun _ _=>id)).same (hlt x (by rw[e];exact List.mem_append_left _ hx))) (fun x hx=>hs x (by rw[e];exact List.mem_append_left _ hx)),
   Frm.trodAll hl hF sp (fun t ht=>hT t (List.mem_cons.2 (Or.inr ht))) h2 (fun x hx=>hs x (by rw[e];exact List.mem_append_right _ hx)) (fun x hx=>hlt x (by rw[e];exact List.mem_append_right _ hx)),e⟩
theorem qr7{P:Program}(hl:laidOutB P=true){f:Func}{s:ChangeSpec}{W W':World}{args:Array Value}{ds gs:List (DataW H)}{before:List MemPlace}{tb:TypeId}(hb:P.underlying tb=some .bool)
  (hr:f.resultTypes= #[tb]) (hs:s.vars=[]) (hT:f.params.all (fun t=>P.readableRec t&&decide (t<P.types.size))=true)
  (hspec:s.fn H ds={results:=[.lit (.bool true)],args:=ds})
  (hW:DataW.Whole enc P f.params.toList s.vars false W args.toList ds gs before) (hF:Frm (fun _=>False) W W'):
  s.post enc P f false true false false W args (.bool true) W':=by
 have hT':∀t∈f.params.toList,P.readableRec t=true/\t<P.types.size:=by
  intro t ht;have:=Array.all_eq_true_iff_forall_mem.1 hT t (by simpa using ht);simpa using this
 have hW':=hW;obtain⟨p,q,hA,hV,rfl,hfz,hnd⟩:=hW;rw[hs]at hV;obtain⟨rfl,rfl⟩:=trodVars_none hV;have hB:=hF.toBelow (Nat.le_refl _) (fun _ _=>id);simp only[List.append_nil]at hW' hfz;have hold:∀x∈p,decide (x.block<W.heap.size)=true:=fun x hx=>by simpa using hW'.lt x hx
 have hargs:∀sp:Nat->Bool,(∀x∈p,sp x.block=true)->DataW.TrodAll enc P W' 0 sp true f.params.toList args.toList ds p:=fun sp h=>hF.trodAll hl sp hT' hA h (fun x hx=>hW'.lt x hx)
 have hres:∀(b:Nat) (sp:Nat->Bool) (hd:Bool),DataW.TrodAll enc P W' b sp hd f.resultTypes.toList ((Value.bool true).resultList f.resultTypes.size) [.lit (.bool true)] []:=fun b sp hd=>by
  rw[hr];exact trodAll_mk1 (shut_bool hb true)
 have e1:(s.fn H (ds++[]))={results:=[.lit (.bool true)],args:=ds}:=by rw[List.append_nil];exact hspec
 refine⟨ds,[],p,[],p,[],hW',?_,?_,?_,World.keptBut_mono (fun x hx=>hx) (hB.frame _),fun h=>by cases h⟩
 ·rw[e1];exact hres _ _ _
 ·rw[e1];exact hargs _ hold
 ·rw[e1,hs];exact rfl
theorem qpm{α:Type}{n:Nat}{p:Nat->α->Prop}(h:∀i,i<n->∃x,p i x):∃l:List α,l.length=n/\∀i x,l[i]? =some x->p i x:=by
 induction n with
 |zero=>exact⟨[],rfl,fun i x hx=>by simp at hx⟩
 |succ n ih=>
  obtain⟨l,hl,hp⟩:=ih (fun i hi=>h i (by omega));obtain⟨y,hy⟩:=h n (by omega);refine⟨l++[y],by simp[hl],fun i x hx=>?_⟩;by_cases hi:i<l.length
  ·exact hp i x (by rwa[zqA hi]at hx)
  ·rw[zqB (by omega)]at hx
   have:i-l.length=0:=by
    have:=(zqC.1 hx).1;simp at this;omega
   rw[this]at hx;simp at hx;subst hx;rw[show i=n by omega];exact hy
theorem qpe{P:Program}{w:World}{base:Nat}{spare:Nat->Bool}{held:Bool}{t e:TypeId}{fuel:Nat}{cs:List Value}{x:DataW H×List MemPlace}{α:Type}(k:Nat)(hk:0<k)(q:Addr->α->Prop)
  (ht:P.underlying t=some (.slice e)) (hc:P.cellsOf e=k)
  (hq:∀a n cs' d pl,w.cells? base a k=some cs'->DataW.trod enc P w base spare held n e cs'=some (d,pl)->∃x,q ⟨a.block,a.off,none⟩ x)
  (h:DataW.trod enc P w base spare held fuel t cs=some x):
  ∃(bo:Option Addr) (len cap:Nat) (l:List α),cs=[.slice bo len cap]/\l.length=len/\len<=cap/\cap<=maxLen/\(∀el sp,x.1= .slice el sp->len<=el.length)/\(x.1= .nil->len=0)/\(x.1= .nil\/∃el sp,x.1= .slice el sp)/\
   ∀i x,l[i]? =some x->∃g o,bo=some ⟨g,o,none⟩/\q ⟨g,o+i*k,none⟩ x:=by
 rcases open_slice ht h with⟨rfl,rfl⟩|⟨a,len,cap,m,n,D,Pl,rfl,hb,hl,hm,hmm,rfl,hi⟩
 ·exact⟨none,0,0,[],rfl,rfl,Nat.le_refl _,Nat.zero_le _,(fun _ _ h=>by cases h),(fun _=>rfl),.inl rfl,fun i x hx=>by simp at hx⟩
 ·have hlm:len<=m:=by rw[hmm];split<;>omega
  obtain⟨l,hll,hlx⟩:=qpm (n:=len) (p:=fun i x=>∃g o,some a=some ⟨g,o,none⟩/\q ⟨g,o+i*k,none⟩ x) (fun i hi'=>by
   obtain⟨cs',hcs,htr⟩:=hi i (by omega);rw[hc]at hcs;have h0:=hi 0 (by omega);obtain⟨cs0,hcs0,_⟩:=h0;rw[hc]at hcs0;have hspot:=World.cell?_spot (((World.cells?_some hcs0).2.2 0 hk).trans (zqD (by have:=(World.cells?_some hcs0).2.1;omega)));obtain⟨b,off,spot⟩:=a;obtain rfl:spot=none:=by simpa[Addr.add]using hspot
   obtain⟨y,hy⟩:=hq _ n cs' _ _ hcs htr;refine⟨y,b,off,rfl,?_⟩;rw[add_plain]at hy
   exact hy)
  exact⟨some a,len,cap,l,rfl,hll,hl,hm,(fun el sp h=>by
   simp only[DataW.slice.injEq]at h
   rw[<-h.1];simp),(fun h=>by cases h),.inr ⟨_,_,rfl⟩,hlx⟩
theorem qqp{w:World}{base:Nat}{a:Addr}{cs:List Value}(h:w.cells? base a 1=some cs):∃v,cs=[v]/\w.cell? ⟨a.block,a.off,none⟩=some v:=by
 obtain⟨_,hl,hc⟩:=World.cells?_some h
 match cs,hl with
 |[v],_=>
  have h0:=hc 0 (by omega);have hs:=World.cell?_spot h0;obtain⟨b,o,s⟩:=a;obtain rfl:s=none:=by simpa[Addr.add]using hs
  exact⟨v,rfl,by simpa[Addr.add]using h0⟩
theorem qt8{P:Program}{w:World}{base:Nat}{spare:Nat->Bool}{held:Bool}{e:TypeId}{k:IntKind}(he:P.underlying e=some (.int k))(a:Addr)(n:Nat)(cs:List Value)(d:DataW H)(pl:List MemPlace)
  (hc:w.cells? base a 1=some cs) (h:DataW.trod enc P w base spare held n e cs=some (d,pl)):∃z:Int,w.cell? ⟨a.block,a.off,none⟩=some (.int k z)/\(Lit.int k z).wf=true:=by
 obtain⟨v,rfl,hv⟩:=qqp hc;obtain⟨m,hvv,_,hw⟩:=DataW.trod_int he h;simp only[List.cons.injEq,and_true]at hvv;exact⟨m,hvv▸hv,hw⟩
theorem row_u8{P:Program}{w:World}{base:Nat}{spare:Nat->Bool}{held:Bool}{e:TypeId}(he:P.underlying e=some (.int .u8))(a:Addr)(n:Nat)(cs:List Value)(d:DataW H)(pl:List MemPlace)
  (hc:w.cells? base a 1=some cs) (h:DataW.trod enc P w base spare held n e cs=some (d,pl)):∃z:UInt8,w.cell? ⟨a.block,a.off,none⟩=some (.int .u8 (z.toNat:Int)):=by
 obtain⟨z,hz,hw⟩:=qt8 he a n cs d pl hc h;have hr:0<=z/\z<=255:=by simpa[Lit.wf,IntKind.min,IntKind.max,IntKind.signed,IntKind.bits]using hw
 refine⟨UInt8.ofNat z.toNat,?_⟩;rw[UInt8.toNat_ofNat',Nat.mod_eq_of_lt (by omega),Int.toNat_of_nonneg hr.1];exact hz
theorem qrD{w:World}{bo:Option Addr}{len cap:Nat}{l:List UInt8}(hl:l.length=len)(h1:len<=cap)(h2:cap<=maxLen)(hc:∀i x,l[i]? =some x->∃g o,bo=some ⟨g,o,none⟩/\w.cell? ⟨g,o+i*1,none⟩=some (.int .u8 (x.toNat:Int))):
  RSl w 1 (.slice bo len cap) len (u8s l):=by
 refine⟨by rw[qcQ];omega,bo,cap,rfl,h1,h2,fun hp=>?_⟩;obtain⟨g,o,rfl,_⟩:=hc 0 (l[0]'(by omega)) (zqD (by omega));refine⟨g,o,rfl,fun j hj=>?_⟩;have hj':j<l.length:=by omega
 obtain⟨g',o',he,hcell⟩:=hc j (l[j]'hj') (zqD hj');cases he;rw[Nat.mul_one]at hcell;rw[hcell,qe8,zqD hj'];rfl
end
inductive CK where
 |int (k:IntKind)
 |bool
 |str
 |u8s
def qiR:CK->AV->Prop
 | .int k,.int k' z=>k=k'/\(Lit.int k z).wf=true
 | .bool,.bool _=>True
 | .str,.str _=>True
 | .u8s,.sl false 1 rows=>∃l,rows=bts l
 |_,_=>False
def wtA:List AV->Nat
 |[]=>0
 | .str s::l=>s.length+wtA l
 | .sl _ _ r::l=>r.length+wtA l
 |_::l=>wtA l
theorem qk0(l m:List AV):wtA (l++m)=wtA l+wtA m:=by
 induction l with
 |nil=>simp[wtA]
 |cons x l ih=>cases x<;>simp only[List.cons_append,wtA,ih]<;>omega
def qjP(g:TypeId->Option (List CK)):Nat->List Field->Option (List CK)
 |_,[]=>some []
 |off,f::r=>if f.offset=off then match g f.type with
  |some a=>(qjP g (off+a.length) r).map (a++·)
  |none=>none else none
def shape(P:Program):Nat->TypeId->Option (List CK)
 |0,_=>none
 |n+1,t=>match P.underlying t with
  |some (.int k)=>some [.int k]
  |some .bool=>some [.bool]
  |some .string=>some [.str]
  |some (.slice e)=>match P.underlying e with
   |some (.int .u8)=>if P.cellsOf e=1 then some [.u8s]else none
   |_=>none
  |some (.struct fs)=>match qjP (shape P n) 0 fs.toList with
   |some ks=>if ks.length=P.cellsOf t then some ks else none
   |none=>none
  |_=>none
structure Opened (W:World) (ks:List CK) (cs:List Value) (avs:List AV):Prop where
 len:avs.length=ks.length
 clen:cs.length=ks.length
 kind:∀(j:Nat) k x,ks[j]? =some k->avs[j]? =some x->qiR k x
 rel:∀(j:Nat) x u,avs[j]? =some x->cs[j]? =some u->x.free=true/\x.one=true/\Rel W (fun _=>0) (old W) x u/\Bnd 0 x
theorem Opened.one{W:World}{k:CK}{v:Value}{x:AV}(h1:qiR k x)(h2:x.free=true/\x.one=true/\Rel W (fun _=>0) (old W) x v/\Bnd 0 x):Opened W [k] [v] [x]:=by
 refine⟨rfl,rfl,fun j k' x' hk hx=>?_,fun j x' u hx hu=>?_⟩
 ·cases j with
  |zero=>simp at hk hx;subst hk;subst hx;exact h1
  |succ j=>simp at hk
 ·cases j with
  |zero=>simp at hu hx;subst hu;subst hx;exact h2
  |succ j=>simp at hu
theorem Opened.app{W:World}{ks ms:List CK}{cs ds:List Value}{av1 bs:List AV}(h:Opened W ks cs av1)(k:Opened W ms ds bs):Opened W (ks++ms) (cs++ds) (av1++bs):=by
 refine⟨by simp[h.len,k.len],by simp[h.clen,k.clen],fun j k' x' hk hx=>?_,fun j x' u hx hu=>?_⟩
 ·by_cases hj:j<ks.length
  ·rw[zqA hj]at hk;rw[zqA (by rw[h.len];exact hj)]at hx;exact h.kind j k' x' hk hx
  ·rw[zqB (by omega)]at hk;rw[zqB (by rw[h.len];omega),h.len]at hx;exact k.kind _ k' x' hk hx
 ·by_cases hj:j<av1.length
  ·rw[zqA hj]at hx;rw[zqA (by rw[h.clen,<-h.len];exact hj)]at hu;exact h.rel j x' u hx hu
  ·rw[zqB (by omega)]at hx;rw[zqB (by rw[h.clen,<-h.len];omega),h.clen,<-h.len]at hu;exact k.rel _ x' u hx hu
section
variable {H:Type}{enc:TypeId×Value->H}
theorem qsD(d:DataW H):1<=Rows.uptoBulk d:=by
 cases d with
 |lit l=>cases l<;>simp[Rows.uptoBulk]
 |nil=>simp[Rows.uptoBulk]
 |ptr d=>simp[Rows.uptoBulk]
 |slice elems spare=>simp[Rows.uptoBulk]
 |agg parts=>simp[Rows.uptoBulk]
 |iface t d=>simp[Rows.uptoBulk]
 |map entries=>simp[Rows.uptoBulk]
 |held h=>simp[Rows.uptoBulk]
theorem qm5:∀(l:List (DataW H)),l.length<=Rows.uptoBulkAll l
 |[]=>by simp[Rows.uptoBulkAll]
 |x::l=>by have:=qsD x;have:=qm5 l;simp only[Rows.uptoBulkAll,zqL];omega
theorem qns{w:World}{β:Nat->Nat}{Rd:Nat->Nat->Prop}{v:Value}{l:List UInt8}(h:RSl w 1 v l.length (u8s l))(hd:∀g o n c,v= .slice (some ⟨g,o,none⟩) n c->∀j,j<l.length->Rd g (o+j)):Rel w β Rd (.sl false 1 (bts l)) v:=by
 refine .sl false 1 (bts l) v (u8s l) (fun r hr=>by obtain⟨b,_,rfl⟩:=List.mem_map.1 hr;rfl) (by rw[qd1];exact h) (fun g o n c hv j hj=>hd g o n c hv j (by simpa[qd1]using hj)) (fun h=>by cases h) (fun r hr x hx=>?_) (fun j x u hx hu=>?_)
 ·obtain⟨b,_,rfl⟩:=List.mem_map.1 hr;simp at hx;subst hx;exact⟨rfl,rfl⟩
 ·rw[qgB]at hx;rw[qe8]at hu;cases hb:l[j]? with
  |none=>rw[hb]at hx;cases hx
  |some b=>rw[hb]at hx hu;simp at hx hu;subst hx;subst hu;exact .int _ _
theorem qi3{P:Program}{W:World}{base:Nat}{spare:Nat->Bool}{held:Bool}{n':Nat}{cs:List Value}(g:TypeId->Option (List CK))
  (ih:∀{t:TypeId} {ks:List CK} {cs:List Value} {x:DataW H×List MemPlace},g t=some ks->DataW.trod enc P W base spare held n' t cs=some x->∃avs,Opened W ks cs avs/\wtA avs+1<=Rows.uptoBulk x.1):
  ∀(l:List Field) (xs:List (DataW H×List MemPlace)) (off:Nat) (ks:List CK),l.length=xs.length->(∀(j:Nat) f,l[j]? =some f->DataW.trod enc P W base spare held n' f.type ((cs.drop f.offset).take (P.cellsOf f.type))=xs[j]?)->
   qjP g off l=some ks->∃avs,Opened W ks ((cs.drop off).take ks.length) avs/\wtA avs<=Rows.uptoBulkAll (xs.map (·.1)):=by
 intro l
 induction l with
 |nil=>
  intro xs off ks hl hx hs;simp[qjP]at hs;subst hs;exact⟨[],⟨rfl,by simp,fun j k x hk=>by simp at hk,fun j x u hx=>by simp at hx⟩,by simp[wtA]⟩
 |cons f l ihl=>
  intro xs off ks hl hx hs;cases xs with
  |nil=>simp at hl
  |cons y xs=>
   unfold qjP at hs;split at hs
   ·rename_i ho;cases hg:g f.type with
    |none=>rw[hg]at hs;cases hs
    |some a=>
     rw[hg]at hs;simp only[Option.map_eq_some_iff]at hs;obtain⟨b,hb,rfl⟩:=hs;have h0:=hx 0 f rfl;rw[ho]at h0;obtain⟨av1,ha,hwa⟩:=ih hg h0;obtain⟨bs,hbs,hwb⟩:=ihl xs (off+a.length) b (by simpa using hl) (fun j f' hf=>by simpa using hx (j+1) f' (by simpa using hf)) hb
     have e:(cs.drop off).take (P.cellsOf f.type)=(cs.drop off).take a.length:=by
      have hlen:=ha.clen;rw[zqJ]at hlen;rw[<-hlen];by_cases hc:P.cellsOf f.type<=(cs.drop off).length
      ·rw[Nat.min_eq_left hc]
      ·rw[Nat.min_eq_right (by omega),zqE (by omega),zqE (Nat.le_refl _)]
     refine⟨av1++bs,?_,?_⟩
     ·rw[e]at ha;have:=ha.app hbs;rw[zqK,List.take_add,List.drop_drop];exact this
     ·rw[qk0];simp only[List.map_cons,Rows.uptoBulkAll];omega
   ·cases hs
theorem opened{P:Program}{W:World}{base:Nat}{spare:Nat->Bool}{held:Bool}(n:Nat):∀{fuel:Nat} {t:TypeId} {ks:List CK} {cs:List Value} {x:DataW H×List MemPlace},shape P n t=some ks->DataW.trod enc P W base spare held fuel t cs=some x->
  ∃avs,Opened W ks cs avs/\wtA avs+1<=Rows.uptoBulk x.1:=by
 induction n with
 |zero=>intro fuel t ks cs x hs;cases hs
 |succ n ih=>
  intro fuel t ks cs x hs h;unfold shape at hs;split at hs
  ·rename_i k hu;cases hs;obtain⟨z,rfl,rfl,hw⟩:=DataW.trod_int hu h;exact⟨[.int k z],.one ⟨rfl,hw⟩ ⟨rfl,rfl,.int _ _,.int _ _⟩,by simp[wtA,Rows.uptoBulk]⟩
  ·rename_i hu;cases hs;obtain⟨z,rfl,rfl⟩:=DataW.trod_bool hu h;exact⟨[.bool z],.one trivial ⟨rfl,rfl,.bool _,.bool _⟩,by simp[wtA,Rows.uptoBulk]⟩
  ·rename_i hu;cases hs;obtain⟨z,rfl,rfl,hm⟩:=DataW.trod_string hu h;exact⟨[.str z.data.toList],.one trivial ⟨rfl,rfl,.str _ _ rfl hm,.str _⟩,by simp[wtA,Rows.uptoBulk]⟩
  ·rename_i e hu;split at hs
   ·rename_i he;split at hs
    ·rename_i hce;cases hs;obtain⟨bo,len,cap,l,rfl,hl,h1,h2,hx1,hx2,hx3,hq⟩:=qpe (α:=UInt8) 1 (by decide) (fun a x=>W.cell? a=some (.int .u8 ((x:UInt8).toNat:Int))) hu hce (fun a n cs' d pl hc h=>row_u8 he a n cs' d pl hc h) h;have hr:=qrD hl h1 h2 hq;subst hl;refine⟨[.sl false 1 (bts l)],.one ⟨l,rfl⟩ ⟨rfl,rfl,qns hr (fun g o n c hv j hj=>?_),qn2 _ _ _⟩,?_⟩
     ·obtain⟨g',o',hb,hc⟩:=hq j l[j] (zqD hj);cases hv;cases hb;rw[Nat.mul_one]at hc;exact qmv hc
     ·simp only[wtA,qd1];rcases hx3 with hn|⟨el,sp,hs⟩
      ·rw[hn,hx2 hn];simp[Rows.uptoBulk]
      ·have:=hx1 el sp hs;have:=qm5 el;rw[hs];simp only[Rows.uptoBulk];omega
    ·cases hs
   ·cases hs
  ·rename_i fs hu;split at hs
   ·rename_i ks' hks;split at hs
    ·rename_i hlen;cases hs;obtain⟨xs,n',_,rfl,hcl,hxl,hf⟩:=DataW.trod_struct hu h;obtain⟨avs,ho,hw⟩:=qi3 (enc:=enc) (P:=P) (W:=W) (base:=base) (spare:=spare) (held:=held) (n':=n') (cs:=cs) (shape P n) (fun hg hx=>ih hg hx) fs.toList xs 0 _ (by simp[hxl]) (fun j f hj=>hf j f (by simpa using hj)) hks;refine⟨avs,?_,?_⟩
     ·rw[List.drop_zero,zqE (by rw[hcl,hlen];exact Nat.le_refl _)]at ho;exact ho
     ·simp only[Rows.uptoBulk];omega
    ·cases hs
   ·cases hs
  ·cases hs
theorem qjw{n:Nat}(D:Nat->DataW H):∀(rows:List (List AV)),rows.length=n->(∀(i:Nat) r,rows[i]? =some r->wtA r+1<=Rows.uptoBulk (D i))->wtA rows.flatten+n<=Rows.uptoBulkAll ((List.range n).map D):=by
 induction n with
 |zero=>
  intro rows h hr;have:rows=[]:=List.length_eq_zero_iff.1 h;subst this;simp[wtA]
 |succ n ih=>
  intro rows hl hr;obtain⟨init,r,rfl⟩:∃init r,rows=init++[r]:=⟨rows.dropLast,rows.getLast (by intro h;rw[h]at hl;cases hl),(List.dropLast_concat_getLast _).symm⟩
  simp at hl;have h1:=ih init hl (fun i q hq=>hr i q (by rw[zqA (zqC.1 hq).1];exact hq));have h2:=hr n r (by rw[<-hl];simp)
  have happ:∀(a b:List (DataW H)),Rows.uptoBulkAll (a++b)=Rows.uptoBulkAll a+Rows.uptoBulkAll b:=by
   intro a b
   induction a with
   |nil=>simp[Rows.uptoBulkAll]
   |cons x a iha=>simp only[List.cons_append,Rows.uptoBulkAll,iha];omega
  rw[List.range_succ,List.map_append,happ,List.flatten_append,qk0];simp only[List.map_cons,List.map_nil,Rows.uptoBulkAll,List.flatten_cons,List.flatten_nil,List.append_nil];omega
theorem qim{P:Program}{W:World}{spare:Nat->Bool}{held:Bool}{t e:TypeId}{fuel:Nat}{cs:List Value}{x:DataW H×List MemPlace}{ks:List CK}(n:Nat)(ht:P.underlying t=some (.slice e))(hs:shape P n e=some ks)(hk:ks.length=P.cellsOf e)(hk0:0<ks.length)
  (h:DataW.trod enc P W 0 spare held fuel t cs=some x):
  ∃(bo:Option Addr) (len cap:Nat) (rows:List (List AV)),cs=[.slice bo len cap]/\rows.length=len/\len<=cap/\cap<=maxLen/\Rel W (fun _=>0) (old W) (.sl false ks.length rows) (.slice bo len cap)/\Bnd 0 (.sl false ks.length rows)/\
   (∀r∈rows,r.length=ks.length/\∀(j:Nat) k y,ks[j]? =some k->r[j]? =some y->qiR k y)/\wtA rows.flatten+len+1<=Rows.uptoBulk x.1:=by
 rcases open_slice ht h with⟨rfl,rfl⟩|⟨a,len,cap,m,n',D,Pl,rfl,hb,hl,hm,hmm,rfl,hi⟩
 ·refine⟨none,0,0,[],rfl,rfl,Nat.le_refl _,Nat.zero_le _,?_,.sl _ _ _ (fun r hr=>by cases hr),fun r hr=>(by cases hr),by simp[wtA,Rows.uptoBulk]⟩;exact qmo _ [] none 0 0 (fun r hr=>by cases hr) hk0 rfl (Nat.le_refl _) (Nat.zero_le _) (fun i r hr=>by simp at hr)
 ·have hlm:len<=m:=by rw[hmm];split<;>omega
  obtain⟨rows,hrl,hrx⟩:=qpm (n:=len) (p:=fun i (r:List AV)=>∃g o cs',some a=some ⟨g,o,none⟩/\(∀(j:Nat) v,cs'[j]? =some v->W.cell? ⟨g,o+i*ks.length+j,none⟩=some v)/\Opened W ks cs' r/\wtA r+1<=Rows.uptoBulk (D i)) (fun i hi'=>by
   obtain⟨cs',hcs,htr⟩:=hi i (by omega);obtain⟨avs,ho,hw⟩:=opened n hs htr;obtain⟨_,hcl,hat⟩:=World.cells?_some hcs;obtain⟨cs0,hcs0,_⟩:=hi 0 (by omega);have h00:=World.cells?_some hcs0;have hspot:=World.cell?_spot ((h00.2.2 0 (by omega)).trans (zqD (by have:=h00.2.1;omega)));obtain⟨b,off,spot⟩:=a;obtain rfl:spot=none:=by simpa[Addr.add]using hspot
   refine⟨avs,b,off,cs',rfl,fun j v hj=>?_,ho,hw⟩;have hjl:j<P.cellsOf e:=by have:=(zqC.1 hj).1;omega
   rw[hk,<-add_plain,<-add_plain,hat j hjl];exact hj)
  refine⟨some a,len,cap,rows,rfl,hrl,hl,hm,?_,?_,?_,?_⟩
  ·refine qmo _ rows _ len cap (fun r hr=>?_) hk0 hrl hl hm (fun i r hr=>?_)
   ·obtain⟨i,hi'⟩:=List.getElem?_of_mem hr;obtain⟨g,o,cs',_,_,ho,_⟩:=hrx i r hi';exact ho.len
   ·obtain⟨g,o,cs',hb',hc,ho,_⟩:=hrx i r hr;refine⟨g,o,hb',fun j y hy=>?_⟩;have hjl:j<cs'.length:=by have:=(zqC.1 hy).1;have:=ho.len;have:=ho.clen;omega
    obtain⟨h1,h2,h3,h4⟩:=ho.rel j y cs'[j] hy (zqD hjl);exact⟨h1,h2,_,hc j _ (zqD hjl),h3⟩
  ·refine .sl _ _ _ (fun r hr y hy=>?_);obtain⟨i,hi'⟩:=List.getElem?_of_mem hr;obtain⟨j,hj⟩:=List.getElem?_of_mem hy;obtain⟨g,o,cs',_,_,ho,_⟩:=hrx i r hi';have hjl:j<cs'.length:=by have:=(zqC.1 hj).1;have:=ho.len;have:=ho.clen;omega
   exact(ho.rel j y cs'[j] hj (zqD hjl)).2.2.2
  ·intro r hr;obtain⟨i,hi'⟩:=List.getElem?_of_mem hr;obtain⟨g,o,cs',_,_,ho,_⟩:=hrx i r hi';exact⟨ho.len,ho.kind⟩
  ·have:=qjw D rows hrl (fun i r hr=>by obtain⟨_,_,_,_,_,_,hw⟩:=hrx i r hr;exact hw);simp only[Rows.uptoBulk];omega
end
end Go.Proofs.YtnnhdehmlkkfjaaGreatDoor
set_option linter.unusedSectionVars false
namespace Go.Proofs.YtnnhdehmlkkfjaaGreatDoor
open Go Go.RowKit
def qcC(st err at_:Int):Value:= .iface 29 (.agg #[.int .i64 st,.int .i64 err,.int .i64 at_])
theorem qnQ(u:Value)(st err at_:Int)(w:World):Calls Tryz.prog 118 #[u,.int .i64 st,.int .i64 err,.int .i64 at_] w fun e w'=>e= .panicked [{v:=qcC st err at_,recovered:=false}]/\w'=w:=by
 go_enter Tryz.func118,Tryz.ntmps118
 go_wp2
 exact⟨rfl,rfl,rfl⟩
section
variable (E:Env){H:Hp}{Q:AV->Hp->Prop}{R:Value->Hp->Prop}
theorem Post.same{E:Env}{w:World}{β:Nat->Nat}{Rd:Nat->Nat->Prop}{Ow:Nat->Option Hold}{H:Hp}(h:HR E w β Rd Ow H):Post E w β Rd Ow H w β Rd Ow H (.raw undef) undef:=
 ⟨.raw _,.raw _,(fun g hg=>by cases hg),rfl,h,fun _ _=>rfl,Nat.le_refl _,fun g o hg=>⟨hg,rfl⟩,fun b _ h1 h2=>⟨rfl,h2,h1,fun _ h=>h⟩,rfl,rfl,rfl,Nat.le_refl _⟩
theorem qpZ(x:AV)(st err at_:Int)(hR:R (qcC st err at_) H):PX Tryz.prog E 118 [x,.int .i64 st,.int .i64 err,.int .i64 at_] H Q R:=by
 refine⟨by kernel_rfl,fun w β Rd Ow cargs hr hcell hsz hargs=>?_⟩
 match cargs,hsz with
 |⟨[u0,u1,u2,u3]⟩,_=>
  have r1:=(hargs 1 _ u1 rfl rfl).1;have r2:=(hargs 2 _ u2 rfl rfl).1;have r3:=(hargs 3 _ u3 rfl rfl).1;cases r1;cases r2;cases r3
  exact(qnQ u0 st err at_ w).mono fun e w' ⟨he,hw⟩=>by
   subst hw;exact .inr ⟨_,H,β,Rd,Ow,he,hR,Post.same hr⟩
end
theorem qn1(p q:Value)(w:World):CallsD Tryz.prog 43 #[p,q] .returning w fun e u' w'=>e= .returned (.tuple #[])/\u'= .returning/\w'=w:=by
 refine callsD_of_wpS Tryz.func43 rfl fun c₀ cs hu=>?_;apply wpS_seq;apply wpS_region;simp[wpOpsS,go_sem,recoverD,hu,Tryz.ntmps43,Exit.thenS];apply wpS_seq;apply wpS_region;simp[wpOpsS,go_sem,Array.replicate_succ,Exit.thenS];refine wpS_cond (t:=false) (by simp[Act.eval,Array.replicate]) ?_;simp only[Bool.false_eq_true,if_false];refine wpS_of_wp (wp_skip ?_);cases c₀;simp_all [bodyPostS,results,Tryz.results43]
theorem qno(st err at_:Int)(X:TypeId)(w:World):(Instr.typeAssert (qcC st err at_) X 29 true).run Tryz.prog w= .ok (.tuple #[.agg #[.int .i64 st,.int .i64 err,.int .i64 at_],.bool true]) w:=by
 unfold Instr.typeAssert qcC;simp[go_sem]
def qqr(w:World)(g gn:Nat)(u n st err at_:Int):World:=
 ((((((w.setCell ⟨g,14,none⟩ (.int .i64 st)).setCell ⟨g,15,none⟩ (.int .i64 err)).setCell ⟨g,16,none⟩ (.int .i64 at_)).setCell ⟨g,5,none⟩ (.int .i64 5)).setCell ⟨g,4,none⟩ .nilFunc).setCell ⟨g,6,none⟩ (.int .i64 (wrap64 (u+1)))).setCell ⟨gn,0,none⟩ (.int .i64 (wrap64 (n+1)))
theorem qhM(gp gn g T T1 T2:Nat)(n u st err at_:Int)(c0 c1 c2 c3 c4 c5 c7 c8 c9 c10 c11 c12 c13 c14 c15 c16 c17 c18 c19 c20 c21 c22 c23 c24:Value)(w:World)(h0:w.heap[gp]? =some (.cells #[.pointer (some ⟨g,0,none⟩)] T1 (0,0)))(h1:w.heap[gn]? =some (.cells #[.int .i64 n] T2 (0,0)))
  (h2:w.heap[g]? =some (.cells #[c0,c1,c2,c3,c4,c5,.int .i64 u,c7,c8,c9,c10,c11,c12,c13,c14,c15,c16,c17,c18,c19,c20,c21,c22,c23,c24] T (0,0))) (hn1:gp≠g) (hn2:gn≠g):
  CallsD Tryz.prog 43 #[.pointer (some ⟨gp,0,none⟩),.pointer (some ⟨gn,0,none⟩)] (.panicking [{v:=qcC st err at_,recovered:=false}]) w fun e u' w'=>
   e= .returned (.tuple #[])/\u'= .panicking [{v:=qcC st err at_,recovered:=true}]/\w'=qqr w g gn u n st err at_:=by
 have k0:w.cell? ⟨gp,0,none⟩=some (.pointer (some ⟨g,0,none⟩)):=by simp[World.cell?,h0]
 have k1:w.cell? ⟨gn,0,none⟩=some (.int .i64 n):=by simp[World.cell?,h1]
 have k2:∀k v, #[c0,c1,c2,c3,c4,c5,.int .i64 u,c7,c8,c9,c10,c11,c12,c13,c14,c15,c16,c17,c18,c19,c20,c21,c22,c23,c24][k]? =some v->w.cell? ⟨g,k,none⟩=some v:=fun k v h=>by simpa[World.cell?,h2]using h
 have z0:∀k,w.frozen? ⟨g,k,none⟩=false:=fun k=>by simp[World.frozen?,h2]
 have z1:∀k,w.frozen? ⟨gn,k,none⟩=false:=fun k=>by simp[World.frozen?,h1]
 have q4:=k2 4 c4 rfl;have q5:=k2 5 c5 rfl;have q6:=k2 6 (.int .i64 u) rfl;have q14:=k2 14 c14 rfl;have q15:=k2 15 c15 rfl;have q16:=k2 16 c16 rfl;refine callsD_of_wpS Tryz.func43 rfl fun c₀ cs0 hu=>?_;apply wpS_seq;apply wpS_region;simp[wpOpsS,go_sem,recoverD,hu,Tryz.ntmps43,Exit.thenS];simp[Array.replicate_succ];refine wpS_of_wp ?_;have ha:=qno st err at_;unfold qcC at ha⊢
 go_wp2
 exact⟨rfl,_,rfl,.tuple #[],by simp[results,Tryz.results43],rfl,rfl,rfl⟩
end Go.Proofs.YtnnhdehmlkkfjaaGreatDoor
namespace Go.Proofs.YtnnhdehmlkkfjaaGreatDoor
open Go Go.Shelf Go.Proofs
def lren:Go.Shelf.Ren:=⟨fun|15=>71|20=>103|99=>186|100=>210|101=>187|119=>214|120=>223|129=>182|137=>156|138=>248|143=>242|144=>235|145=>188|146=>234|151=>202|152=>192|153=>165|160=>154|161=>200|166=>74|167=>179|169=>75|171=>80|195=>249|197=>201|206=>207|207=>225|208=>208|217=>180|218=>250|219=>224|220=>209|221=>241|224=>215|225=>216|226=>193|227=>174|228=>194|231=>172|232=>173|233=>175|234=>176|235=>177|236=>178|240=>106|243=>112|246=>141|260=>222|266=>204|267=>233|268=>247|271=>203|276=>136|283=>158|284=>159|285=>160|286=>161|314=>240|315=>103|317=>181|318=>183|319=>184|320=>185|337=>205|338=>206|n=>n,fun|0=>0|2=>2|3=>3|4=>4|5=>5|9=>9|20=>20|21=>21|23=>117|31=>78|37=>82|40=>117|46=>224|51=>139|53=>198|59=>142|70=>118|72=>120|75=>123|80=>126|105=>233|116=>213|117=>214|119=>255|124=>217|127=>157|138=>257|139=>258|146=>262|164=>174|171=>197|173=>201|212=>221|213=>222|232=>246|233=>247|n=>n,fun|1=>2|3=>5|4=>6|17=>1|18=>3|19=>4|n=>n⟩
theorem lays160:Go.Proofs.Lays.n160 Tryz.prog lren:={
 mixed:=by kernel_rfl
 f119:=lfz Tryz.func214
 f120:=lfz Tryz.func223
 f137:=lfz Tryz.func156
 f151:=lfz Tryz.func202
 f152:=lfz Tryz.func192
 f160:=lfz Tryz.func154
 f197:=lfz Tryz.func201
 f217:=lfz Tryz.func180
 f224:=lfz Tryz.func215
 f225:=lfz Tryz.func216
 f227:=lfz Tryz.func174
 f228:=lfz Tryz.func194
 f231:=lfz Tryz.func172
 f232:=lfz Tryz.func173
 f233:=lfz Tryz.func175
 f234:=lfz Tryz.func176
 f235:=lfz Tryz.func177
 f236:=lfz Tryz.func178
 f260:=lfz Tryz.func222
 f266:=lfz Tryz.func204
 f271:=lfz Tryz.func203
 t0:=Tryz.underlying0
 a0:=Tryz.isAgg0
 z0:=Tryz.sizeOf0
 v0:=Tryz.zeroValue0
 t3:=Tryz.underlying3
 a3:=Tryz.isAgg3
 z3:=Tryz.sizeOf3
 v3:=Tryz.zeroValue3
 t4:=Tryz.underlying4
 a4:=Tryz.isAgg4
 z4:=Tryz.sizeOf4
 v4:=Tryz.zeroValue4
 t5:=Tryz.underlying5
 a5:=Tryz.isAgg5
 z5:=Tryz.sizeOf5
 v5:=Tryz.zeroValue5
 t9:=Tryz.underlying9
 a9:=Tryz.isAgg9
 z9:=Tryz.sizeOf9
 v9:=Tryz.zeroValue9
 t21:=Tryz.underlying21
 a21:=Tryz.isAgg21
 z21:=Tryz.sizeOf21
 v21:=Tryz.zeroValue21
 t46:=Tryz.underlying224
 a46:=Tryz.isAgg224
 z46:=Tryz.sizeOf224
 v46:=Tryz.zeroValue224
 t105:=Tryz.underlying233
 a105:=Tryz.isAgg233
 z105:=Tryz.sizeOf233
 v105:=Tryz.zeroValue233
 t116:=Tryz.underlying213
 a116:=Tryz.isAgg213
 z116:=Tryz.sizeOf213
 t117:=Tryz.underlying214
 a117:=Tryz.isAgg214
 z117:=Tryz.sizeOf214
 v117:=Tryz.zeroValue214
 t119:=Tryz.underlying255
 a119:=Tryz.isAgg255
 z119:=Tryz.sizeOf255
 t124:=Tryz.underlying217
 a124:=Tryz.isAgg217
 z124:=Tryz.sizeOf217
 v124:=Tryz.zeroValue217
 t138:=Tryz.underlying257
 a138:=Tryz.isAgg257
 z138:=Tryz.sizeOf257
 v138:=Tryz.zeroValue257
 t139:=Tryz.underlying258
 a139:=Tryz.isAgg258
 z139:=Tryz.sizeOf258
 v139:=Tryz.zeroValue258
 g3:=by kernel_rfl
 g4:=by kernel_rfl}
theorem lays161:Go.Proofs.Lays.n161 Tryz.prog lren:={
 mixed:=by kernel_rfl
 f119:=lfz Tryz.func214
 f137:=lfz Tryz.func156
 f151:=lfz Tryz.func202
 f152:=lfz Tryz.func192
 f161:=lfz Tryz.func200
 f197:=lfz Tryz.func201
 f217:=lfz Tryz.func180
 f224:=lfz Tryz.func215
 f225:=lfz Tryz.func216
 f227:=lfz Tryz.func174
 f228:=lfz Tryz.func194
 f231:=lfz Tryz.func172
 f233:=lfz Tryz.func175
 f235:=lfz Tryz.func177
 f260:=lfz Tryz.func222
 f266:=lfz Tryz.func204
 t0:=Tryz.underlying0
 a0:=Tryz.isAgg0
 z0:=Tryz.sizeOf0
 v0:=Tryz.zeroValue0
 t3:=Tryz.underlying3
 a3:=Tryz.isAgg3
 z3:=Tryz.sizeOf3
 v3:=Tryz.zeroValue3
 t4:=Tryz.underlying4
 a4:=Tryz.isAgg4
 z4:=Tryz.sizeOf4
 v4:=Tryz.zeroValue4
 t5:=Tryz.underlying5
 a5:=Tryz.isAgg5
 z5:=Tryz.sizeOf5
 v5:=Tryz.zeroValue5
 t9:=Tryz.underlying9
 a9:=Tryz.isAgg9
 z9:=Tryz.sizeOf9
 v9:=Tryz.zeroValue9
 t21:=Tryz.underlying21
 a21:=Tryz.isAgg21
 z21:=Tryz.sizeOf21
 v21:=Tryz.zeroValue21
 t46:=Tryz.underlying224
 a46:=Tryz.isAgg224
 z46:=Tryz.sizeOf224
 v46:=Tryz.zeroValue224
 t105:=Tryz.underlying233
 a105:=Tryz.isAgg233
 z105:=Tryz.sizeOf233
 v105:=Tryz.zeroValue233
 t116:=Tryz.underlying213
 a116:=Tryz.isAgg213
 z116:=Tryz.sizeOf213
 t117:=Tryz.underlying214
 a117:=Tryz.isAgg214
 z117:=Tryz.sizeOf214
 v117:=Tryz.zeroValue214
 t119:=Tryz.underlying255
 a119:=Tryz.isAgg255
 z119:=Tryz.sizeOf255
 t124:=Tryz.underlying217
 a124:=Tryz.isAgg217
 z124:=Tryz.sizeOf217
 v124:=Tryz.zeroValue217
 t138:=Tryz.underlying257
 a138:=Tryz.isAgg257
 z138:=Tryz.sizeOf257
 v138:=Tryz.zeroValue257
 t139:=Tryz.underlying258
 a139:=Tryz.isAgg258
 z139:=Tryz.sizeOf258
 v139:=Tryz.zeroValue258
 g3:=by kernel_rfl
 g4:=by kernel_rfl}
theorem lays166:Go.Proofs.Lays.n166 Tryz.prog lren:={
 mixed:=by kernel_rfl
 f166:=lfz Tryz.func74
 f240:=lfz Tryz.func106
 f276:=lfz Tryz.func136
 t0:=Tryz.underlying0
 a0:=Tryz.isAgg0
 z0:=Tryz.sizeOf0
 v0:=Tryz.zeroValue0
 t3:=Tryz.underlying3
 a3:=Tryz.isAgg3
 z3:=Tryz.sizeOf3
 v3:=Tryz.zeroValue3
 t4:=Tryz.underlying4
 a4:=Tryz.isAgg4
 z4:=Tryz.sizeOf4
 v4:=Tryz.zeroValue4
 t9:=Tryz.underlying9
 a9:=Tryz.isAgg9
 z9:=Tryz.sizeOf9
 v9:=Tryz.zeroValue9
 t20:=Tryz.underlying20
 a20:=Tryz.isAgg20
 z20:=Tryz.sizeOf20
 v20:=Tryz.zeroValue20
 t37:=Tryz.underlying82
 a37:=Tryz.isAgg82
 z37:=Tryz.sizeOf82
 v37:=Tryz.zeroValue82
 t70:=Tryz.underlying118
 a70:=Tryz.isAgg118
 z70:=Tryz.sizeOf118
 v70:=Tryz.zeroValue118
 t72:=Tryz.underlying120
 a72:=Tryz.isAgg120
 z72:=Tryz.sizeOf120
 v72:=Tryz.zeroValue120
 t75:=Tryz.underlying123
 a75:=Tryz.isAgg123
 z75:=Tryz.sizeOf123
 v75:=Tryz.zeroValue123
 t164:=Tryz.underlying174
 a164:=Tryz.isAgg174
 z164:=Tryz.sizeOf174
 v164:=Tryz.zeroValue174}
theorem lays167:Go.Proofs.Lays.n167 Tryz.prog lren:={
 mixed:=by kernel_rfl
 f167:=lfz Tryz.func179
 f240:=lfz Tryz.func106
 f276:=lfz Tryz.func136
 t0:=Tryz.underlying0
 a0:=Tryz.isAgg0
 z0:=Tryz.sizeOf0
 v0:=Tryz.zeroValue0
 t4:=Tryz.underlying4
 a4:=Tryz.isAgg4
 z4:=Tryz.sizeOf4
 v4:=Tryz.zeroValue4
 t5:=Tryz.underlying5
 a5:=Tryz.isAgg5
 z5:=Tryz.sizeOf5
 v5:=Tryz.zeroValue5
 t9:=Tryz.underlying9
 a9:=Tryz.isAgg9
 z9:=Tryz.sizeOf9
 v9:=Tryz.zeroValue9
 t20:=Tryz.underlying20
 a20:=Tryz.isAgg20
 z20:=Tryz.sizeOf20
 v20:=Tryz.zeroValue20
 t37:=Tryz.underlying82
 a37:=Tryz.isAgg82
 z37:=Tryz.sizeOf82
 v37:=Tryz.zeroValue82
 t70:=Tryz.underlying118
 a70:=Tryz.isAgg118
 z70:=Tryz.sizeOf118
 v70:=Tryz.zeroValue118
 t72:=Tryz.underlying120
 a72:=Tryz.isAgg120
 z72:=Tryz.sizeOf120
 v72:=Tryz.zeroValue120
 t75:=Tryz.underlying123
 a75:=Tryz.isAgg123
 z75:=Tryz.sizeOf123
 v75:=Tryz.zeroValue123
 t164:=Tryz.underlying174
 a164:=Tryz.isAgg174
 z164:=Tryz.sizeOf174
 v164:=Tryz.zeroValue174}
theorem lays169:Go.Proofs.Lays.n169 Tryz.prog lren:={
 mixed:=by kernel_rfl
 f169:=lfz Tryz.func75
 t0:=Tryz.underlying0
 a0:=Tryz.isAgg0
 z0:=Tryz.sizeOf0
 v0:=Tryz.zeroValue0
 t3:=Tryz.underlying3
 a3:=Tryz.isAgg3
 z3:=Tryz.sizeOf3
 v3:=Tryz.zeroValue3
 t9:=Tryz.underlying9
 a9:=Tryz.isAgg9
 z9:=Tryz.sizeOf9
 v9:=Tryz.zeroValue9
 t37:=Tryz.underlying82
 a37:=Tryz.isAgg82
 z37:=Tryz.sizeOf82
 v37:=Tryz.zeroValue82
 t70:=Tryz.underlying118
 a70:=Tryz.isAgg118
 z70:=Tryz.sizeOf118
 v70:=Tryz.zeroValue118
 t72:=Tryz.underlying120
 a72:=Tryz.isAgg120
 z72:=Tryz.sizeOf120
 v72:=Tryz.zeroValue120
 t127:=Tryz.underlying157
 a127:=Tryz.isAgg157
 z127:=Tryz.sizeOf157
 v127:=Tryz.zeroValue157}
theorem qr6:Go.Proofs.LaysM.n171 Tryz.prog lren:={
 mixed:=by kernel_rfl
 f129:=lfz Tryz.func182
 f171:=lfz Tryz.func80
 f243:=lfz Tryz.func112
 f246:=lfz Tryz.func141
 f283:=lfz Tryz.func158
 f284:=lfz Tryz.func159
 f285:=lfz Tryz.func160
 f286:=lfz Tryz.func161
 f317:=lfz Tryz.func181
 f318:=lfz Tryz.func183
 f319:=lfz Tryz.func184
 f320:=lfz Tryz.func185
 f337:=lfz Tryz.func205
 f338:=lfz Tryz.func206
 t0:=Tryz.underlying0
 a0:=Tryz.isAgg0
 z0:=Tryz.sizeOf0
 v0:=Tryz.zeroValue0
 t2:=Tryz.underlying2
 a2:=Tryz.isAgg2
 z2:=Tryz.sizeOf2
 v2:=Tryz.zeroValue2
 t3:=Tryz.underlying3
 a3:=Tryz.isAgg3
 z3:=Tryz.sizeOf3
 v3:=Tryz.zeroValue3
 t4:=Tryz.underlying4
 a4:=Tryz.isAgg4
 z4:=Tryz.sizeOf4
 v4:=Tryz.zeroValue4
 t5:=Tryz.underlying5
 a5:=Tryz.isAgg5
 z5:=Tryz.sizeOf5
 v5:=Tryz.zeroValue5
 t9:=Tryz.underlying9
 a9:=Tryz.isAgg9
 z9:=Tryz.sizeOf9
 v9:=Tryz.zeroValue9
 t20:=Tryz.underlying20
 a20:=Tryz.isAgg20
 z20:=Tryz.sizeOf20
 v20:=Tryz.zeroValue20
 t37:=Tryz.underlying82
 a37:=Tryz.isAgg82
 z37:=Tryz.sizeOf82
 v37:=Tryz.zeroValue82
 t46:=Tryz.underlying224
 a46:=Tryz.isAgg224
 z46:=Tryz.sizeOf224
 v46:=Tryz.zeroValue224
 t51:=Tryz.underlying139
 a51:=Tryz.isAgg139
 z51:=Tryz.sizeOf139
 v51:=Tryz.zeroValue139
 t53:=Tryz.underlying198
 a53:=Tryz.isAgg198
 z53:=Tryz.sizeOf198
 v53:=Tryz.zeroValue198
 t171:=Tryz.underlying197
 a171:=Tryz.isAgg197
 z171:=Tryz.sizeOf197
 v171:=Tryz.zeroValue197
 t173:=Tryz.underlying201
 a173:=Tryz.isAgg201
 z173:=Tryz.sizeOf201
 v173:=Tryz.zeroValue201
 t212:=Tryz.underlying221
 a212:=Tryz.isAgg221
 z212:=Tryz.sizeOf221
 v212:=Tryz.zeroValue221
 t213:=Tryz.underlying222
 a213:=Tryz.isAgg222
 z213:=Tryz.sizeOf222
 t232:=Tryz.underlying246
 a232:=Tryz.isAgg246
 z232:=Tryz.sizeOf246
 v232:=Tryz.zeroValue246
 t233:=Tryz.underlying247
 a233:=Tryz.isAgg247
 z233:=Tryz.sizeOf247
 v233:=Tryz.zeroValue247
 g17:=by kernel_rfl
 g18:=by kernel_rfl
 g19:=by kernel_rfl
 i0:=by kernel_rfl
 i2:=by kernel_rfl
 i3:=by kernel_rfl
 i4:=by kernel_rfl
 i5:=by kernel_rfl
 i9:=by kernel_rfl
 i20:=by kernel_rfl
 i37:=by kernel_rfl
 i46:=by kernel_rfl
 i51:=by kernel_rfl
 i53:=by kernel_rfl
 i171:=by kernel_rfl
 i173:=by kernel_rfl
 i212:=by kernel_rfl
 i232:=by kernel_rfl
 i233:=by kernel_rfl
 m17:=by kernel_rfl
 m18:=by kernel_rfl
 m19:=by kernel_rfl}
theorem lextra:Builder.Extra Tryz.prog lren:={
 sizeBuilder:=by kernel_rfl
 liesBuilder:=by kernel_rfl
 t5:=Tryz.underlying5
 a5:=Tryz.isAgg5
 z5:=Tryz.sizeOf5
 v5:=Tryz.zeroValue5
 infoByte:=by kernel_rfl
 cellsByte:=by kernel_rfl
 sizeByte:=by kernel_rfl
 neB5:=by decide}
end Go.Proofs.YtnnhdehmlkkfjaaGreatDoor
namespace Go.Proofs.YtnnhdehmlkkfjaaGreatDoor
open Go Go.RowKit Go.Proofs
theorem qi8(s:ByteArray)(hs:s.size<=140737488351232)(W:World):Calls Tryz.prog 110 #[.string s] W fun e w'=>e= .returned (.string (tx (low s.data.toList)))/\Frm (fun _=>False) W w':=by
 obtain⟨cap,w1,hconv,ho,hf,hw1⟩:=qcH (P:=Tryz.prog) W 9 82 5 s Tryz.underlying9 Tryz.underlying82 Tryz.underlying5 (by simp only[maxLen];omega);have HO:=Lib.hid ho;have HF:=Lib.hid hf;clear ho hf
 go_enter Tryz.func110,Tryz.ntmps110
 go_wp2
 clear hconv
 go_loopw [10] (fun i wr=>∃k:Nat,k<=s.size/\i= .int .i64 k/\OSl wr 1 (.slice (some ⟨W.heap.size,0,none⟩) s.size cap) s.size (u8s (low (s.data.toList.take k)++s.data.toList.drop k))/\Frm (fun _=>False) W wr) (fun i _=>s.size-(intOf i).toNat)
 case atStart=>exact⟨0,Nat.zero_le _,rfl,HO.out,HF.out⟩
 case round=>
  obtain⟨k,hk,rfl,ho,hf⟩:=hrel;have hb:W.heap.size<wr.heap.size:=ho.lt _ rfl;have HR:=Lib.hid ho;have HG:=Lib.hid hf;clear ho hf;by_cases hlt:k<s.size
  ·obtain⟨x,hx⟩:∃x,s.data.toList[k]? =some x:=⟨_,zqD (by rw[qad];omega)⟩
   obtain⟨hc,hz⟩:=HR.out.cellAt k x (qlz _ _ _ hx);rw[Nat.zero_add]at hc hz;have HX:=Lib.hid hx;clear hx;have hx8:x.toNat<256:=x.toNat_lt;by_cases h1:65<=x.toNat
   ·by_cases h2:x.toNat<=90
    ·go_wp2
     go_roundw
     case rel=>
      refine⟨k+1,by omega,by go_num,?_,HG.out.setNew (Nat.le_refl _) _⟩;have:=HR.out.set k hlt (.int .u8 ((lowB x).toNat:Int));rw[qeu x h1 h2,Nat.zero_add]at this;rw[<-qgx _ _ _ HX.out,qk3,qeu x h1 h2];rw[show(x.toNat:Int)+97-65=x.toNat+32 by omega];exact this
     case measure=>simp[intOf];omega
    ·go_wp2
     go_roundw
     case rel=>
      refine⟨k+1,by omega,by go_num,?_,HG.out⟩;rw[<-qet _ _ _ HX.out (qfW x (by omega))];exact HR.out
     case measure=>simp[intOf];omega
   ·go_wp2
    go_roundw
    case rel=>
     refine⟨k+1,by omega,by go_num,?_,HG.out⟩;rw[<-qet _ _ _ HX.out (qfW x (by omega))];exact HR.out
    case measure=>simp[intOf];omega
  ·obtain rfl:k=s.size:=by omega
   have hr:=HR.out.toR;rw[zqE (by rw[qad];omega),List.drop_of_length_le (by rw[qad];omega),List.append_nil]at hr;have hback:=qb9 (P:=Tryz.prog) wr 82 9 5 _ _ _ _ Tryz.underlying82 Tryz.underlying5 Tryz.underlying9 hr
   go_wp2
   go_ret
   exact⟨rfl,HG.out⟩
theorem qjW(s:ByteArray)(hs:s.size<=140737488351232)(W:World):Calls Tryz.prog 128 #[.string s] W fun e w'=>e= .returned (.string (tx (low s.data.toList)))/\Frm (fun _=>False) W w':=by
 obtain⟨cap,w1,hconv,ho,hf,hw1⟩:=qcH (P:=Tryz.prog) W 9 82 5 s Tryz.underlying9 Tryz.underlying82 Tryz.underlying5 (by simp only[maxLen];omega);have HO:=Lib.hid ho;have HF:=Lib.hid hf;clear ho hf
 go_enter Tryz.func128,Tryz.ntmps128
 go_wp2
 clear hconv
 go_loopw [4] (fun i wr=>∃k:Nat,k<=s.size/\i= .int .i64 k/\OSl wr 1 (.slice (some ⟨W.heap.size,0,none⟩) s.size cap) s.size (u8s (low (s.data.toList.take k)++s.data.toList.drop k))/\Frm (fun _=>False) W wr) (fun i _=>s.size-(intOf i).toNat)
 case atStart=>exact⟨0,Nat.zero_le _,rfl,HO.out,HF.out⟩
 case round=>
  obtain⟨k,hk,rfl,ho,hf⟩:=hrel;have hb:W.heap.size<wr.heap.size:=ho.lt _ rfl;have HR:=Lib.hid ho;have HG:=Lib.hid hf;clear ho hf;by_cases hlt:k<s.size
  ·obtain⟨x,hx⟩:∃x,s.data.toList[k]? =some x:=⟨_,zqD (by rw[qad];omega)⟩
   obtain⟨hc,hz⟩:=HR.out.cellAt k x (qlz _ _ _ hx);rw[Nat.zero_add]at hc hz;have HX:=Lib.hid hx;clear hx;have hx8:x.toNat<256:=x.toNat_lt;by_cases h1:65<=x.toNat
   ·by_cases h2:x.toNat<=90
    ·go_wp2
     go_roundw
     case rel=>
      refine⟨k+1,by omega,by go_num,?_,HG.out.setNew (Nat.le_refl _) _⟩;have:=HR.out.set k hlt (.int .u8 ((lowB x).toNat:Int));rw[qeu x h1 h2,Nat.zero_add]at this;rw[<-qgx _ _ _ HX.out,qk3,qeu x h1 h2];exact this
     case measure=>simp[intOf];omega
    ·go_wp2
     go_roundw
     case rel=>
      refine⟨k+1,by omega,by go_num,?_,HG.out⟩;rw[<-qet _ _ _ HX.out (qfW x (by omega))];exact HR.out
     case measure=>simp[intOf];omega
   ·go_wp2
    go_roundw
    case rel=>
     refine⟨k+1,by omega,by go_num,?_,HG.out⟩;rw[<-qet _ _ _ HX.out (qfW x (by omega))];exact HR.out
    case measure=>simp[intOf];omega
  ·obtain rfl:k=s.size:=by omega
   have hr:=HR.out.toR;rw[zqE (by rw[qad];omega),List.drop_of_length_le (by rw[qad];omega),List.append_nil]at hr;have hback:=qb9 (P:=Tryz.prog) wr 82 9 5 _ _ _ _ Tryz.underlying82 Tryz.underlying5 Tryz.underlying9 hr
   go_wp2
   go_ret
   exact⟨rfl,HG.out⟩
theorem qhX(s:ByteArray)(c:Int)(w:World):
  Calls Tryz.prog 180 #[.string s,.int .u8 c] w fun e w'=>e= .returned (.int .i64 (Lib.indexByte s.data.toList c.toNat.toUInt8))/\w'=w:=by
 go_enter Tryz.func180,Tryz.ntmps180
 go_wp2
 rw[run_callFunc_extern Tryz.func204 (by kernel_rfl) (by kernel_rfl) (by kernel_rfl) (e:=Extern.BytealgIndexByte.indexByte) (by kernel_rfl),Lib.run_indexByteString];simp only[Result.andThen];rw[Oper.upon_value]
 go_wp2
 go_ret
 exact⟨rfl,rfl⟩
theorem qcl(s:ByteArray)(c:Int)(w:World):
  Calls Tryz.prog 156 #[.string s,.int .u8 c] w fun e w'=>e= .returned (.int .i64 (Lib.indexByte s.data.toList c.toNat.toUInt8))/\w'=w:=by
 go_enter Tryz.func156,Tryz.ntmps156
 go_wp2_with (go_at_call 180;refine(qhX _ _ _).mono ?_;rintro e w' ⟨rfl,rfl⟩)
 go_ret
 exact⟨rfl,rfl⟩
def digs:List UInt8:=[48,49,50,51,52,53,54,55,56,57,97,98,99,100,101,102]
def dig(b:UInt8):Int:=Lib.indexByte digs (lowB b)
theorem quX:∀n,n<256->(let b:=UInt8.ofNat n;-1<=dig b/\dig b<16):=by decide
theorem qiJ(b:UInt8): -1<=dig b/\dig b<16:=by
 have:=quX b.toNat b.toNat_lt;simpa using this
def qaV(base:Int)(l:List UInt8):Bool:=l.all fun b=>decide (0<=dig b/\dig b<base)
def qbf(base:Int)(l:List UInt8):Int:=l.foldl (fun n b=>n*base+dig b) 0
theorem qcR(base:Int)(l:List UInt8)(k:Nat)(x:UInt8)(h:l[k]? =some x):qbf base (l.take (k+1))=qbf base (l.take k)*base+dig x:=by
 unfold qbf;rw[List.take_add_one,h,List.foldl_append];rfl
theorem qc0(base:Int)(l:List UInt8)(k:Nat)(x:UInt8)(h:l[k]? =some x):qaV base (l.take (k+1))=(qaV base (l.take k)&&decide (0<=dig x/\dig x<base)):=by
 unfold qaV;rw[List.take_add_one,h,List.all_append];simp
theorem qdz(base:Int)(l:List UInt8)(k:Nat)(x:UInt8)(h:l[k]? =some x)(hx:¬(0<=dig x/\dig x<base)):qaV base l=false:=by
 unfold qaV;rw[List.all_eq_false];exact⟨x,zqH h,by simpa using hx⟩
def qae(base most:Int)(l:List UInt8):Int×Int:=
 if l=[]then(0,11)else if qaV base l=false then(0,11)else if most<0\/most<qbf base l then(0,12)else(qbf base l,0)
theorem qbw(base:Int)(hb:0<=base):∀(l:List UInt8),qaV base l=true->0<=qbf base l:=by
 intro l h;unfold qbf
 have:∀(l:List UInt8) (n:Int),0<=n->qaV base l=true->0<=l.foldl (fun n b=>n*base+dig b) n:=by
  intro l
  induction l with
  |nil=>intro n hn _;exact hn
  |cons b l ih=>
   intro n hn hl;unfold qaV at hl ih;rw[List.all_cons,Bool.and_eq_true]at hl;have hb':=of_decide_eq_true hl.1;refine ih _ ?_ hl.2;have:=Int.mul_nonneg hn hb;show 0<=n*base+dig b;omega
 exact this l 0 (Int.le_refl 0) h
theorem qlu(s:ByteArray)(most:Int)(hs:s.size<=140737488351232)(hm1: -9223372036854775808<=most)(hm2:most<=9223372036854775807)(W:World):
  Calls Tryz.prog 138 #[.string s,.int .i64 most,.int .i64 16] W fun e w'=>e= .returned (.tuple #[.int .i64 (qae 16 most s.data.toList).1,.int .i64 (qae 16 most s.data.toList).2])/\Frm (fun _=>False) W w':=by
 obtain⟨q,hq⟩:=exz (most.tdiv 16)
 have hq1:0<=most->16*q<=most/\most<16*q+16:=fun h=>by
  rw[Int.tdiv_eq_ediv_of_nonneg h]at hq;omega
 have HQ1:=Lib.hid hq1;clear hq1
 go_enter Tryz.func138,Tryz.ntmps138
 by_cases he:s.data.toList=[]
 ·have hn:qae 16 most s.data.toList=(0,11):=by rw[qae,if_pos he]
  have he':s.toList.isEmpty=true:=by rw[qa1,he];rfl
  go_wp2
  go_ret2
  rw[hn];exact⟨rfl,Frm.refl _ _⟩
 ·have he':s.toList.isEmpty=false:=by rw[qa1];simpa using he
  have HE:=Lib.hid he;clear he
  go_wp2
  clear he'
  go_loopw [8,9,18] (fun n big i wr=>∃(k:Nat) (v:Int) (bg:Bool),k<=s.size/\i= .int .i64 k/\n= .int .i64 v/\big= .bool bg/\qaV 16 (s.data.toList.take k)=true/\bg=decide (most<0\/most<qbf 16 (s.data.toList.take k))/\(bg=false->v=qbf 16 (s.data.toList.take k))/\Frm (fun _=>False) W wr) (fun _ _ i _=>s.size-(intOf i).toNat)
  case atStart=>
   refine⟨0,0,decide (most<0),Nat.zero_le _,rfl,rfl,rfl,rfl,?_,fun _=>rfl,Frm.refl _ _⟩;have:qbf 16 (s.data.toList.take 0)=0:=rfl;rw[this];simp
  case round=>
   obtain⟨k,v,bg,hk,rfl,rfl,rfl,hok,hbg,hv,hf⟩:=hrel;have HF:=Lib.hid hf;have HOK:=Lib.hid hok;have hnn:=qbw 16 (by omega) _ hok;obtain⟨m,hm⟩:∃m,m=qbf 16 (s.data.toList.take k):=⟨_,rfl⟩
   rw[<-hm]at hbg hv hnn;have HM:=Lib.hid hm;clear hf hok hm;by_cases hlt:k<s.size
   ·obtain⟨x,hx⟩:∃x,s.data.toList[k]? =some x:=⟨_,zqD (by rw[qad];omega)⟩
    have HX:=Lib.hid hx;clear hx;have hstep:=qcR 16 _ _ _ HX.out;have hostep:=qc0 16 _ _ _ HX.out;rw[<-HM.out]at hstep;rw[HOK.out,Bool.true_and]at hostep;have HB:=Lib.hid hbg;have HV:=Lib.hid hv;have hx16:=qiJ x;obtain⟨d,hd⟩:∃d,d=dig x:=⟨_,rfl⟩
    rw[<-hd]at hstep hostep hx16;have HS:=Lib.hid hstep;have HO:=Lib.hid hostep;clear hbg hv hstep hostep
    go_wp2_with fail
    refine(qi8 _ (Nat.le_trans (qel _ _ _) hs) wr).mono ?_;rintro e w2 ⟨rfl,hf2⟩;have h1:tx (low (s.extract k (k+1)).data.toList)=⟨#[lowB x]⟩:=by rw[qhx s k x HX.out];rfl
    rw[h1];clear h1;have HF2:=Lib.hid (HF.out.trans hf2);clear hf2
    go_wp2_with fail
    refine(qcl _ _ w2).mono ?_;rintro e w3 ⟨rfl,rfl⟩
    have h2:Lib.indexByte (⟨#[48,49,50,51,52,53,54,55,56,57,97,98,99,100,101,102]⟩:ByteArray).data.toList ((((⟨#[lowB x]⟩:ByteArray)[0]'(by show 0<1;decide)).toNat:Int).toNat.toUInt8)=d:=by
     rw[hd];show Lib.indexByte digs (((lowB x).toNat:Int).toNat.toUInt8)=Lib.indexByte digs (lowB x);simp
    rw[h2];clear h2;have HD:=Lib.hid hd;clear hd
    have hbad:(d<0\/16<=d)->qae 16 most s.data.toList=(0,11):=fun h=>by
     rw[qae,if_neg HE.out,if_pos (qdz 16 _ _ _ HX.out (by rw[<-HD.out];omega))]
    have HBad:=Lib.hid hbad;clear hbad;by_cases hd0:d<0
    ·go_wp2
     go_ret2
     rw[HBad.out (.inl hd0)];exact⟨rfl,HF2.out⟩
    ·by_cases hd1:16<=d
     ·go_wp2
      go_ret2
      rw[HBad.out (.inr hd1)];exact⟨rfl,HF2.out⟩
     ·have HOK':Hid (qaV 16 (s.data.toList.take (k+1))=true):=HO.out.trans (decide_eq_true ⟨by omega,by omega⟩);cases bg with
      |true=>
       go_wp2
       go_roundw
       case rel=>
        refine⟨k+1,v,true,by omega,by go_num,rfl,rfl,HOK'.out,?_,(fun h=>by cases h),HF2.out⟩;have h1:=of_decide_eq_true HB.out.symm;rw[HS.out];exact(decide_eq_true (by omega)).symm
       case measure=>simp[intOf];omega
      |false=>
       have hv:=HV.out rfl;subst hv;have h1:=of_decide_eq_false HB.out.symm;have h1a:0<=most:=by omega
       have h1b:v<=most:=by omega
       have h1c:=(HQ1.out h1a).1;have h1d:=(HQ1.out h1a).2;clear h1;by_cases hA:q<v
       ·go_wp2
        go_roundw
        case rel=>
         refine⟨k+1,v,true,by omega,by go_num,rfl,rfl,HOK'.out,?_,(fun h=>by cases h),HF2.out⟩;rw[HS.out];exact(decide_eq_true (by omega)).symm
        case measure=>simp[intOf];omega
       ·by_cases hB:most-d<v*16
        ·go_wp2
         go_roundw
         case rel=>
          refine⟨k+1,v,true,by omega,by go_num,rfl,rfl,HOK'.out,?_,(fun h=>by cases h),HF2.out⟩;rw[HS.out];exact(decide_eq_true (by omega)).symm
         case measure=>simp[intOf];omega
        ·go_wp2
         go_roundw
         case rel=>
          refine⟨k+1,v*16+d,false,by omega,by go_num,by go_num,rfl,HOK'.out,?_,(fun _=>HS.out.symm),HF2.out⟩;rw[HS.out];exact(decide_eq_false (by omega)).symm
         case measure=>simp[intOf];omega
   ·obtain rfl:k=s.size:=by omega
    have ht:s.data.toList.take s.size=s.data.toList:=zqE (by rw[qad];omega);have hok:=HOK.out;have hm:=HM.out;rw[ht]at hok hm
    have HN:Hid (qae 16 most s.data.toList=if most<0\/most<m then(0,12)else(m,0)):=by
     show qae 16 most s.data.toList=_;rw[qae,if_neg HE.out,if_neg (by rw[hok];decide),<-hm]
    clear hok hm ht;cases bg with
    |true=>
     have h1:=of_decide_eq_true hbg.symm;rw[if_pos h1]at HN;clear hbg hv h1
     go_wp2
     go_ret2
     rw[HN.out];exact⟨rfl,HF.out⟩
    |false=>
     have h1:=of_decide_eq_false hbg.symm;have hv':=hv rfl;subst hv';rw[if_neg h1]at HN;clear hbg hv h1
     go_wp2
     go_ret2
     rw[HN.out];exact⟨rfl,HF.out⟩
def qbX(b:UInt8):Bool:=decide (48<=b.toNat/\b.toNat<=57)
def qaT(b:UInt8):Bool:=qbX b||decide (65<=b.toNat/\b.toNat<=70)||decide (97<=b.toNat/\b.toNat<=102)
theorem quW:∀n,n<256->(qbX (UInt8.ofNat n)=decide (0<=dig (UInt8.ofNat n)/\dig (UInt8.ofNat n)<10)):=by decide
theorem quV:∀n,n<256->(qaT (UInt8.ofNat n)=decide (0<=dig (UInt8.ofNat n)/\dig (UInt8.ofNat n)<16)):=by decide
def val(b:UInt8):Int:=if qbX b then(b.toNat:Int)-48 else if 97<=b.toNat then(b.toNat:Int)-97+10 else(b.toNat:Int)-65+10
theorem quU:∀n,n<256->0<=dig (UInt8.ofNat n)->val (UInt8.ofNat n)=dig (UInt8.ofNat n):=by decide
theorem qce(b:UInt8):UInt8.ofNat b.toNat=b:=by simp
theorem qks(b:UInt8):qbX b=decide (0<=dig b/\dig b<10):=by have:=quW b.toNat b.toNat_lt;rwa[qce]at this
theorem qcy(b:UInt8):qaT b=decide (0<=dig b/\dig b<16):=by have:=quV b.toNat b.toNat_lt;rwa[qce]at this
theorem qov(b:UInt8)(h:0<=dig b):val b=dig b:=by have:=quU b.toNat b.toNat_lt;rw[qce]at this;exact this h
theorem qmM(base:Int)(hb:1<=base):∀(l:List UInt8) (n:Int),0<=n->qaV base l=true->n<=l.foldl (fun n b=>n*base+dig b) n
 |[],n,_,_=>Int.le_refl n
 |b::l,n,hn,h=>by
  unfold qaV at h;rw[List.all_cons,Bool.and_eq_true]at h;have hd:=of_decide_eq_true h.1
  have hmul:n<=n*base:=by
   have:=Int.mul_le_mul_of_nonneg_left hb hn;omega
  have h0:0<=n*base+dig b:=by omega
  have:=qmM base hb l (n*base+dig b) h0 h.2;show n<=l.foldl (fun n b=>n*base+dig b) (n*base+dig b);omega
theorem qls(base:Int)(l:List UInt8)(k:Nat)(h:qaV base l=true):qaV base (l.take k)=true:=by
 unfold qaV at*;rw[List.all_eq_true]at*;exact fun x hx=>h x (List.mem_of_mem_take hx)
theorem qio(base:Int)(hb:1<=base)(l:List UInt8)(h:qaV base l=true)(k:Nat):qbf base (l.take k)<=qbf base l:=by
 have e:l=l.take k++l.drop k:=(List.take_append_drop k l).symm
 have hd:qaV base (l.drop k)=true:=by
  unfold qaV at*;rw[List.all_eq_true]at*;exact fun x hx=>h x (List.mem_of_mem_drop hx)
 conv=>rhs;rw[e]
 unfold qbf;rw[List.foldl_append];exact qmM base hb _ _ (qbw base (by omega) _ (qls base l k h)) hd
theorem hex_ok(s:ByteArray)(most:Int)(hs:s.size<=140737488351232)(hm1: -9223372036854775808<=most)(hm2:most<=9223372036854775807)(W:World):
  Calls Tryz.prog 237 #[.string s,.int .i64 most] W fun e w'=>e= .returned (.tuple #[.int .i64 (qae 16 most s.data.toList).1,.int .i64 (qae 16 most s.data.toList).2])/\Frm (fun _=>False) W w':=by
 go_enter Tryz.func237,Tryz.ntmps237
 go_wp2_with fail
 refine(qlu s most hs hm1 hm2 W).mono ?_;rintro e w1 ⟨rfl,hf⟩
 go_wp2
 go_ret2
 exact⟨rfl,hf⟩
def signTab:List Int:=[0,67071226,3355443198,1476395007]
def qh2(w:World):Prop:=∀j z,signTab[j]? =some z->w.cell? ⟨0,j,none⟩=some (.int .u32 z)
def qai(b:UInt8):Bool:=decide (b.toNat<128)&&decide ((signTab.getD (b.toNat/32) 0).toNat>>>(b.toNat%32)%2=1)
theorem qry:∀n,n<128->(bits .and .u32 (signTab.getD (n/32) 0/2^(n%32)) 1==1)=qai (UInt8.ofNat n):=by decide
theorem qiV(b:UInt8)(j:Nat)(z:Int)(h:b.toNat<128)(hj:b.toNat/32=j)(hz:signTab.getD j 0=z):(bits .and .u32 (z/2^(b.toNat%32)) 1==1)=qai b:=by
 have:=qry b.toNat h;rw[qce,hj,hz]at this;exact this
theorem qkq(b:UInt8)(W:World)(hS:qh2 W):Calls Tryz.prog 62 #[.int .u8 b.toNat] W fun e w'=>e= .returned (.bool (qai b))/\w'=W:=by
 have hb:=b.toNat_lt;by_cases h1:b.toNat<128
 ·by_cases h2:b.toNat<32
  ·have hq:(b.toNat:Int).tdiv 32=0:=by rw[Int.tdiv_eq_ediv_of_nonneg (by omega)];omega
   have hc:=hS 0 0 rfl
   go_enter Tryz.func62,Tryz.ntmps62
   go_wp2
   go_ret
   exact⟨congrArg (fun x=>Ending.returned (.bool x)) (by have:=qiV b 0 0 h1 (by omega) rfl;rw[Int.zero_ediv]at this;exact this),rfl⟩
  ·by_cases h3:b.toNat<64
   ·have hq:(b.toNat:Int).tdiv 32=1:=by rw[Int.tdiv_eq_ediv_of_nonneg (by omega)];omega
    have hc:=hS 1 67071226 rfl
    go_enter Tryz.func62,Tryz.ntmps62
    go_wp2
    go_ret
    exact⟨congrArg (fun x=>Ending.returned (.bool x)) (qiV b 1 67071226 h1 (by omega) rfl),rfl⟩
   ·by_cases h4:b.toNat<96
    ·have hq:(b.toNat:Int).tdiv 32=2:=by rw[Int.tdiv_eq_ediv_of_nonneg (by omega)];omega
     have hc:=hS 2 3355443198 rfl
     go_enter Tryz.func62,Tryz.ntmps62
     go_wp2
     go_ret
     exact⟨congrArg (fun x=>Ending.returned (.bool x)) (qiV b 2 3355443198 h1 (by omega) rfl),rfl⟩
    ·have hq:(b.toNat:Int).tdiv 32=3:=by rw[Int.tdiv_eq_ediv_of_nonneg (by omega)];omega
     have hc:=hS 3 1476395007 rfl
     go_enter Tryz.func62,Tryz.ntmps62
     go_wp2
     go_ret
     exact⟨congrArg (fun x=>Ending.returned (.bool x)) (qiV b 3 1476395007 h1 (by omega) rfl),rfl⟩
 ·go_enter Tryz.func62,Tryz.ntmps62
  go_wp2
  go_ret
  refine⟨?_,rfl⟩;have:qai b=false:=by simp[qai,h1]
  rw[this];rfl
def tokB(l:List UInt8):Bool:=l.all qai&&!l.isEmpty
theorem qa8(p:UInt8->Bool)(l:List UInt8)(k:Nat)(x:UInt8)(h:l[k]? =some x):(l.take (k+1)).all p=((l.take k).all p&&p x):=by
 rw[List.take_add_one,h,List.all_append];simp
theorem qd3(p:UInt8->Bool)(l:List UInt8)(k:Nat)(x:UInt8)(h:l[k]? =some x)(hp:p x=false):l.all p=false:=by
 rw[List.all_eq_false];exact⟨x,zqH h,by rw[hp];simp⟩
theorem qnG(s:ByteArray)(hs:s.size<=140737488351232)(W:World)(hS:qh2 W):Calls Tryz.prog 41 #[.string s] W fun e w'=>e= .returned (.bool (tokB s.data.toList))/\w'=W:=by
 have HS:=Lib.hid hS;clear hS
 go_enter Tryz.func41,Tryz.ntmps41
 go_wp2
 go_loopw [6] (fun i wr=>∃k:Nat,k<=s.size/\i= .int .i64 k/\(s.data.toList.take k).all qai=true/\wr=W) (fun i _=>s.size-(intOf i).toNat)
 case atStart=>exact⟨0,Nat.zero_le _,rfl,rfl,rfl⟩
 case round=>
  obtain⟨k,hk,rfl,hok,rfl⟩:=hrel;have HOK:=Lib.hid hok;clear hok;by_cases hlt:k<s.size
  ·obtain⟨x,hx⟩:∃x,s.data.toList[k]? =some x:=⟨_,zqD (by rw[qad];omega)⟩
   have hxb:s[k]'hlt=x:=qh0 s k x hx hlt;have hst:=qa8 qai _ _ _ hx;rw[HOK.out,Bool.true_and]at hst;have HST:=Lib.hid hst;have HX:=Lib.hid hx;clear hx hst
   go_wp2_with fail
   refine(qkq x wr HS.out).mono ?_;rintro e w' ⟨rfl,rfl⟩;cases hp:qai x
   ·have HN:Hid (tokB s.data.toList=false):=by
     show _=_;rw[tokB,qd3 qai _ _ _ HX.out hp];rfl
    clear hp
    go_wp2
    go_ret
    exact⟨by rw[HN.out];rfl,rfl⟩
   ·have HO2:=Lib.hid (HST.out.trans hp);clear hp
    go_wp2
    go_roundw
    case rel=>exact⟨k+1,by omega,by go_num,HO2.out,by trivial⟩
    case measure=>simp[intOf];omega
  ·obtain rfl:k=s.size:=by omega
   have hall:=HOK.out;rw[zqE (by rw[qad];omega)]at hall
   have HN:Hid (tokB s.data.toList=!s.data.toList.isEmpty):=by
    show _=_;rw[tokB,hall,Bool.true_and]
   clear hall HOK
   go_wp2
   go_ret
   refine⟨?_,rfl⟩;rw[HN.out,<-qa1];rfl
end Go.Proofs.YtnnhdehmlkkfjaaGreatDoor
namespace Go.Proofs.YtnnhdehmlkkfjaaGreatDoor
def fcB(b:UInt8):Bool:=b==9||(decide (32<=b.toNat)&&b !=127)
def qaf(b:UInt8):Bool:=b==32||b==9
def fldB(l:List UInt8):Bool:=l.all fcB
def unq:List UInt8->Option (List UInt8×Nat)
 |[]=>none
 |c::r=>if c=34 then some ([],1)else if c=92 then(match r with
   |[]=>none
   |d::r'=>if fcB d then(unq r').map fun p=>(d::p.1,p.2+2)else none)
  else if fcB c then(unq r).map fun p=>(c::p.1,p.2+1)else none
def unquote(s:List UInt8):Option (List UInt8×Nat):=match s with
 |[]=>none
 |c::r=>if c=34 then(unq r).map fun p=>(p.1,p.2+1)else none
def escB(c:UInt8):List UInt8:=if c=34\/c=92 then [92,c]else [c]
def esc(s:List UInt8):List UInt8:=s.flatMap escB
def quoted(s:List UInt8):List UInt8:=34::(esc s++[34])
theorem qma:∀(n:Nat) (s l:List UInt8) (k:Nat),s.length<=n->unq s=some (l,k)->1<=k/\k<=s.length/\l.length+1<=k
 |n,[],l,k,_,h=>by simp[unq]at h
 |0,c::r,l,k,hn,h=>by simp at hn
 |n+1,c::r,l,k,hn,h=>by
  simp only[zqL]at hn;unfold unq at h;split at h
  ·simp at h;obtain⟨rfl,rfl⟩:=h;simp
  ·split at h
   ·cases r with
    |nil=>simp at h
    |cons d r'=>
     simp only[zqL]at hn;simp only at h;split at h
     ·cases hu:unq r' with
      |none=>simp[hu]at h
      |some p=>
       simp[hu]at h;obtain⟨rfl,rfl⟩:=h;have:=qma n r' p.1 p.2 (by omega) hu;simp only[zqL];omega
     ·cases h
   ·split at h
    ·cases hu:unq r with
     |none=>simp[hu]at h
     |some p=>
      simp[hu]at h;obtain⟨rfl,rfl⟩:=h;have:=qma n r p.1 p.2 (by omega) hu;simp only[zqL];omega
    ·cases h
theorem qbQ{s l:List UInt8}{k:Nat}(h:unquote s=some (l,k)):2<=k/\k<=s.length/\l.length+2<=k:=by
 unfold unquote at h;split at h
 ·cases h
 ·rename_i c r;split at h
  ·cases hu:unq r with
   |none=>simp[hu]at h
   |some p=>
    simp[hu]at h;obtain⟨rfl,rfl⟩:=h;have:=qma _ r p.1 p.2 (Nat.le_refl _) hu;simp only[zqL];omega
  ·cases h
def qaJ(l:List UInt8):List UInt8:=Go.Lib.trimS l [32,9]
def cut(acc:List UInt8)(s:List UInt8):Option (List (List UInt8)):=match s with
 |[]=>some [acc]
 |c::r=>if c=44 then(cut [] r).map (acc::·)else if c=34 then(match unquote (c::r)with
   |none=>none
   |some p=>cut (acc++(c::r).take p.2) (r.drop (p.2-1)))
  else cut (acc++[c]) r
termination_by s.length
decreasing_by all_goals (simp only[zqL,zqI];omega)
def qco(l:List (List UInt8)):List (List UInt8):=(l.map qaJ).filter fun x=>!x.isEmpty
def qd6(s:List UInt8):Option (List (List UInt8)):=(cut [] s).map qco
theorem qlP(acc:List UInt8):cut acc []=some [acc]:=by rw[cut]
theorem qhE(acc r:List UInt8):cut acc (44::r)=(cut [] r).map (acc::·):=by rw[cut];simp
theorem qhC(acc r:List UInt8)(c:UInt8)(h1:c≠44)(h2:c≠34):cut acc (c::r)=cut (acc++[c]) r:=by rw[cut,if_neg h1,if_neg h2]
theorem qlQ(acc r:List UInt8)(h:unquote (34::r)=none):cut acc (34::r)=none:=by rw[cut];simp[h]
theorem qhB(acc r l:List UInt8)(k:Nat)(h:unquote (34::r)=some (l,k)):cut acc (34::r)=cut (acc++(34::r).take k) ((34::r).drop k):=by
 rw[cut];have:=(qbQ h).1;simp only[h];rw[if_neg (by decide),if_pos trivial];congr 1;obtain⟨j,rfl⟩:∃j,k=j+1:=⟨k-1,by omega⟩
 simp
theorem qpt(a b:List (List UInt8)):qco (a++b)=qco a++qco b:=by simp[qco]
theorem qgO(c:UInt8)(hc:qaf c=true)(l:List UInt8):qaJ (c::l)=qaJ l:=by
 have hcs:[32,9].contains c=true:=by
  unfold qaf at hc;simpa using hc
 unfold qaJ Go.Lib.trimS Go.Lib.trimLeftS Go.Lib.trimRightS;rw[List.reverse_cons]
 generalize hr:l.reverse=r
 have:∀r:List UInt8,(((r++[c]).dropWhile ([32,9].contains ·)).reverse).dropWhile ([32,9].contains ·)=((r.dropWhile ([32,9].contains ·)).reverse).dropWhile ([32,9].contains ·):=by
  intro r
  induction r with
  |nil=>rw[List.nil_append,List.dropWhile_cons_of_pos hcs]
  |cons d r ih=>
   rw[List.cons_append];by_cases hd:[32,9].contains d=true
   ·rw[List.dropWhile_cons_of_pos hd,List.dropWhile_cons_of_pos hd];exact ih
   ·rw[List.dropWhile_cons_of_neg hd,List.dropWhile_cons_of_neg hd,<-List.cons_append,List.reverse_append,List.reverse_singleton,List.singleton_append,List.dropWhile_cons_of_pos hcs]
 exact this r
end Go.Proofs.YtnnhdehmlkkfjaaGreatDoor
namespace Go.Proofs.YtnnhdehmlkkfjaaGreatDoor
structure Par where
 name:List UInt8
 value:List UInt8
 has:Bool
deriving DecidableEq
def run(p:UInt8->Bool)(l:List UInt8):Nat:=(l.takeWhile p).length
theorem qbp(p:UInt8->Bool)(l:List UInt8):run p l<=l.length:=by
 unfold run
 induction l with
 |nil=>simp
 |cons a l ih=>rw[List.takeWhile_cons];split<;>simp<;>omega
theorem qt7(p:UInt8->Bool)(l x:List UInt8)(h:l.all p=true)(hx:∀c,x.head? =some c->p c=false):run p (l++x)=l.length:=by
 unfold run
 induction l with
 |nil=>
  cases x with
  |nil=>rfl
  |cons c x=>rw[List.nil_append,List.takeWhile_cons,hx c rfl];rfl
 |cons a l ih=>
  rw[List.all_cons,Bool.and_eq_true]at h;rw[List.cons_append,List.takeWhile_cons,h.1];simp[ih h.2]
theorem qby(p:UInt8->Bool)(l:List UInt8)(n:Nat)(h:(l.take n).all p=true)(hn:n<=l.length)(hs:∀c,l[n]? =some c->p c=false):run p l=n:=by
 have:=qt7 p (l.take n) (l.drop n) h (fun c hc=>hs c (by rw[List.head?_drop]at hc;exact hc));rw[List.take_append_drop]at this;rw[this,zqJ];omega
section
variable (sg:UInt8->Bool)
def tokP(l:List UInt8):Bool:=l.all sg&&!l.isEmpty
def pval(v:List UInt8):Option (List UInt8×Nat):=if 0<run sg v then some (v.take (run sg v),run sg v)else unquote v
def pars(s:List UInt8):Option (List Par×Nat):=match h:s.drop (run qaf s)with
 |[]=>some ([],0)
 |c::q=>if c≠59 then some ([],0)else
   if run sg (q.drop (run qaf q))=0 then(pars q).map fun p=>(p.1,p.2+(run qaf s+1))else
   match(q.drop (run qaf q)).drop (run sg (q.drop (run qaf q)))with
   |[]=>some ([⟨(q.drop (run qaf q)).take (run sg (q.drop (run qaf q))),[],false⟩],run qaf s+1+run qaf q+run sg (q.drop (run qaf q)))
   |d::v=>if d=61 then(match pval sg v with
     |none=>none
     |some x=>(pars (q.drop (run qaf q+run sg (q.drop (run qaf q))+1+x.2))).map fun p=>(⟨(q.drop (run qaf q)).take (run sg (q.drop (run qaf q))),x.1,true⟩::p.1,p.2+(run qaf s+1+run qaf q+run sg (q.drop (run qaf q))+1+x.2)))
    else(pars (q.drop (run qaf q+run sg (q.drop (run qaf q))))).map fun p=>(⟨(q.drop (run qaf q)).take (run sg (q.drop (run qaf q))),[],false⟩::p.1,p.2+(run qaf s+1+run qaf q+run sg (q.drop (run qaf q))))
termination_by s.length
decreasing_by all_goals (have hl:=congrArg List.length h;simp only[zqI,zqL]at hl⊢;omega)
theorem qfr(s:List UInt8)(h:s[run qaf s]? ≠some 59):pars sg s=some ([],0):=by
 rw[pars];split
 ·rfl
 ·rename_i c q hq;have:s[run qaf s]? =some c:=by rw[<-List.head?_drop,hq];rfl
  rw[if_pos (fun e=>h (by rw[this,e]))]
variable (s:List UInt8)(b m n:Nat)(hb:run qaf s=b)(h0:s[b]? =some 59)(hm:run qaf (s.drop (b+1))=m)(hn:run sg (s.drop (b+1+m))=n)
theorem drop59(h0:s[b]? =some 59):s.drop b=59::s.drop (b+1):=by
 have hlt:=(zqC.1 h0).1;rw[List.drop_eq_getElem_cons hlt,(zqC.1 h0).2]
include hb h0 hm hn in
theorem qj8(h:n=0):pars sg s=(pars sg (s.drop (b+1))).map fun p=>(p.1,p.2+(b+1)):=by
 subst hb hm;rw[pars];have h1:=drop59 s _ h0;split
 ·rename_i hq;rw[h1]at hq;cases hq
 ·rename_i c q hq;rw[h1]at hq;cases hq;rw[if_neg (by decide),List.drop_drop,hn,if_pos h]
include hb h0 hm hn in
theorem qii(h:n≠0)(he:s[b+1+m+n]? ≠some 61):pars sg s=(pars sg (s.drop (b+1+m+n))).map fun p=>(⟨(s.drop (b+1+m)).take n,[],false⟩::p.1,p.2+(b+1+m+n)):=by
 subst hb hm;rw[pars];have h1:=drop59 s _ h0;split
 ·rename_i hq;rw[h1]at hq;cases hq
 ·rename_i c q hq;rw[h1]at hq;cases hq;rw[if_neg (by decide),List.drop_drop,hn,if_neg h,List.drop_drop];split
  ·rename_i hd;rw[hd,qfr sg [] (by simp)];simp
  ·rename_i d v hd;have:s[run qaf s+1+run qaf (s.drop (run qaf s+1))+n]? =some d:=by rw[<-List.head?_drop,hd];rfl
   rw[if_neg (fun e=>he (by rw[this,e]))];rw[List.drop_drop];congr 2;rw[Nat.add_assoc,Nat.add_assoc,Nat.add_assoc]
include hb h0 hm hn in
theorem qms(h:n≠0)(he:s[b+1+m+n]? =some 61)(hv:pval sg (s.drop (b+1+m+n+1))=none):pars sg s=none:=by
 subst hb hm;rw[pars];have h1:=drop59 s _ h0;split
 ·rename_i hq;rw[h1]at hq;cases hq
 ·rename_i c q hq;rw[h1]at hq;cases hq;rw[if_neg (by decide),List.drop_drop,hn,if_neg h,List.drop_drop];split
  ·rename_i hd;rw[<-List.head?_drop,hd]at he;cases he
  ·rename_i d v hd;have hlt:=(zqC.1 he).1;rw[List.drop_eq_getElem_cons hlt,(zqC.1 he).2]at hd;cases hd;rw[if_pos rfl,hv]
include hb h0 hm hn in
theorem qih(h:n≠0)(he:s[b+1+m+n]? =some 61){x:List UInt8}{k:Nat}(hv:pval sg (s.drop (b+1+m+n+1))=some (x,k)):
  pars sg s=(pars sg (s.drop (b+1+m+n+1+k))).map fun p=>(⟨(s.drop (b+1+m)).take n,x,true⟩::p.1,p.2+(b+1+m+n+1+k)):=by
 subst hb hm;rw[pars];have h1:=drop59 s _ h0;split
 ·rename_i hq;rw[h1]at hq;cases hq
 ·rename_i c q hq;rw[h1]at hq;cases hq;rw[if_neg (by decide),List.drop_drop,hn,if_neg h,List.drop_drop];split
  ·rename_i hd;rw[<-List.head?_drop,hd]at he;cases he
  ·rename_i d v hd;have hlt:=(zqC.1 he).1;rw[List.drop_eq_getElem_cons hlt,(zqC.1 he).2]at hd;cases hd;rw[if_pos rfl,hv];simp only;rw[List.drop_drop];congr 3;omega
end
section
variable (sg:UInt8->Bool)
def qft(p:Par):Bool:=tokP sg p.name&&fldB p.value&&(p.has||p.value.isEmpty)
def prtV(v:List UInt8):List UInt8:=if tokP sg v=true then v else quoted v
def prt1(p:Par):List UInt8:=59::32::(p.name++if p.has then 61::prtV sg p.value else [])
def prt(l:List Par):List UInt8:=l.flatMap (prt1 sg)
end
end Go.Proofs.YtnnhdehmlkkfjaaGreatDoor
namespace Go.Proofs.YtnnhdehmlkkfjaaGreatDoor
open Go Go.RowKit Go.Proofs
section
variable {w:World}{β:Nat->Nat}{Rd:Nat->Nat->Prop}
theorem args1{x:AV}{cargs:Array Value}(hsz:cargs.size=1)(h:∀(t:Nat) y u,[x][t]? =some y->cargs[t]? =some u->Rel w β Rd y u):∃u,cargs= #[u]/\Rel w β Rd x u:=by
 match cargs,hsz with
 |⟨[u]⟩,_=>exact⟨u,rfl,h 0 x u rfl rfl⟩
theorem args2{x y:AV}{cargs:Array Value}(hsz:cargs.size=2)(h:∀(t:Nat) z u,[x,y][t]? =some z->cargs[t]? =some u->Rel w β Rd z u):∃u v,cargs= #[u,v]/\Rel w β Rd x u/\Rel w β Rd y v:=by
 match cargs,hsz with
 |⟨[u,v]⟩,_=>exact⟨u,v,rfl,h 0 x u rfl rfl,h 1 y v rfl rfl⟩
theorem qmn{k1 k2:IntKind}{a b:Int}:Rel w β Rd (.tup [.int k1 a,.int k2 b]) (.tuple #[.int k1 a,.int k2 b]):=by
 refine .tup _ _ rfl (by simp[AV.free]) (fun j x u hx hu=>?_)
 match j with
 |0=>simp at hx hu;subst hx;subst hu;exact .int _ _
 |1=>simp at hx hu;subst hx;subst hu;exact .int _ _
 |j+2=>simp at hx
theorem qdv(l:List UInt8)(h:l.length<=maxLen):Rel w β Rd (.str l) (.string (tx l)):= .str _ _ rfl (by rw[qk4];exact h)
end
def SE(E:Env):Prop:=E.Fix 0/\qh2 E.w0
theorem SE.signs{E:Env}(h:SE E){w:World}(hw:∀b,E.Fix b->w.heap[b]? =E.w0.heap[b]?):qh2 w:=fun j z hj=>by
 rw[World.cell?_of_block (a:=⟨0,j,none⟩) (hw _ h.1)];exact h.2 j z hj
def cap:Nat:=140737488351232
theorem qf4{n:Nat}(h:n<=cap):n<=maxLen:=by simp only[cap]at h;simp only[maxLen];omega
section
variable (E:Env)(H:Hp)(Q:AV->Hp->Prop)
theorem qkp(hE:SE E)(b:UInt8)(hQ:Q (.bool (qai b)) H):PC Tryz.prog E 62 [.int .u8 (b.toNat:Int)] H Q:=by
 refine qau (v:= .bool (qai b)) (by kernel_rfl) qh2 (fun w hw=>hE.signs hw) (fun w β Rd cargs hS hsz hargs=>?_) (.bool _) rfl hQ;obtain⟨u,rfl,hu⟩:=args1 hsz hargs;obtain rfl:=qaD hu;refine(qkq b w hS).mono ?_;rintro e w' ⟨rfl,rfl⟩;exact⟨_,rfl,Frm.refl _ _,.bool _⟩
theorem qcb(hE:SE E)(l:List UInt8)(hl:l.length<=cap)(hQ:Q (.bool (tokB l)) H):PC Tryz.prog E 41 [.str l] H Q:=by
 refine qau (v:= .bool (tokB l)) (by kernel_rfl) qh2 (fun w hw=>hE.signs hw) (fun w β Rd cargs hS hsz hargs=>?_) (.bool _) rfl hQ;obtain⟨u,rfl,hu⟩:=args1 hsz hargs;obtain⟨s,rfl,rfl,hs⟩:=qaC hu;refine(qnG s (by rw[<-qad];exact hl) w hS).mono ?_;rintro e w' ⟨rfl,rfl⟩;exact⟨_,rfl,Frm.refl _ _,.bool _⟩
theorem qb3(l:List UInt8)(hl:l.length<=cap)(hQ:Q (.str (low l)) H):PC Tryz.prog E 110 [.str l] H Q:=by
 refine qau (v:= .str (low l)) (by kernel_rfl) (fun _=>True) (fun w hw=>trivial) (fun w β Rd cargs hS hsz hargs=>?_) (.str _) rfl hQ;obtain⟨u,rfl,hu⟩:=args1 hsz hargs;obtain⟨s,rfl,rfl,hs⟩:=qaC hu;refine(qi8 s (by rw[<-qad];exact hl) w).mono ?_;rintro e w' ⟨rfl,hf⟩;exact⟨_,rfl,hf,qdv _ (qf4 (by rw[qaO];exact hl))⟩
theorem qcv(l:List UInt8)(hl:l.length<=cap)(hQ:Q (.str (low l)) H):PC Tryz.prog E 128 [.str l] H Q:=by
 refine qau (v:= .str (low l)) (by kernel_rfl) (fun _=>True) (fun w hw=>trivial) (fun w β Rd cargs hS hsz hargs=>?_) (.str _) rfl hQ;obtain⟨u,rfl,hu⟩:=args1 hsz hargs;obtain⟨s,rfl,rfl,hs⟩:=qaC hu;refine(qjW s (by rw[<-qad];exact hl) w).mono ?_;rintro e w' ⟨rfl,hf⟩;exact⟨_,rfl,hf,qdv _ (qf4 (by rw[qaO];exact hl))⟩
end
abbrev Bld(B b:Nat)(bs:List Value)(w:World):Prop:=Lib.IsBuilderF 120 5 B b bs w
theorem qcE(B b:Nat)(bs:List Value)(c:Int)(w:World)(h:Bld B b bs w)(hlen:bs.length+1<=140737488355328)(hB:B<=w.heap.size):
  Calls Tryz.prog 179 #[.pointer (some ⟨b,0,none⟩),.int .u8 c] w fun e w'=>e= .returned .nilIface/\Bld B b (bs++[.int .u8 c]) w'/\Below B w w'/\B<=w'.heap.size:=by
 refine(Any.Builder_WriteByte_k lays167 lextra B b bs c w h hlen hB).mono ?_;rintro e w' ⟨rfl,h1,h2,h3⟩;exact⟨rfl,.inr h1,h2,Nat.le_trans hB h2.size⟩
theorem qm6(B b:Nat)(l:List UInt8)(w:World)(h:Bld B b (Lib.byteCells l) w)(hB:B<=w.heap.size):
  Calls Tryz.prog 75 #[.pointer (some ⟨b,0,none⟩)] w fun e w'=>e= .returned (.string (tx l))/\Below B w w':=by
 refine(Any.Builder_String_any_k lays169 lextra B b l w h hB).mono ?_;rintro e w' ⟨rfl,h1,h2,h3⟩;exact⟨rfl,h2⟩
theorem qbM{w w':World}(h:Below w.heap.size w w'):Frm (fun _=>False) w w':=⟨h.os,h.tape,h.output,h.size,fun k hk _=>h.block k hk⟩
theorem qhw(b:UInt8):fcB b=(decide (b.toNat=9)||(decide (32<=b.toNat)&&decide (b.toNat≠127))):=by
 have e1:(b==9)=decide (b.toNat=9):=by rw[Bool.eq_iff_iff];simp[<-UInt8.toNat_inj]
 have e2:(b !=127)=decide (b.toNat≠127):=by rw[Bool.eq_iff_iff];simp[<-UInt8.toNat_inj]
 rw[fcB,e1,e2]
theorem qcs(b:UInt8)(W:World):Calls Tryz.prog 153 #[.int .u8 b.toNat] W fun e w'=>e= .returned (.bool (fcB b))/\w'=W:=by
 have hb:=b.toNat_lt;by_cases h1:b.toNat=9
 ·have e:fcB b=true:=by rw[qhw];simp[h1]
  rw[e]
  go_enter Tryz.func153,Tryz.ntmps153
  go_wp2
  go_ret
  exact⟨rfl,rfl⟩
 ·by_cases h2:32<=b.toNat
  ·by_cases h3:b.toNat=127
   ·have e:fcB b=false:=by rw[qhw];simp[h3]
    rw[e]
    go_enter Tryz.func153,Tryz.ntmps153
    go_wp2
    go_ret
    exact⟨rfl,rfl⟩
   ·have e:fcB b=true:=by rw[qhw];simp[h2,h3]
    rw[e];have n9:((b.toNat:Int)==9)=false:=by simp;omega
    have n127:((b.toNat:Int) !=127)=true:=by simp;omega
    go_enter Tryz.func153,Tryz.ntmps153
    go_wp2
    go_ret
    exact⟨rfl,rfl⟩
  ·have e:fcB b=false:=by rw[qhw];simp[h1,h2]
   rw[e];have n9:((b.toNat:Int)==9)=false:=by simp;omega
   go_enter Tryz.func153,Tryz.ntmps153
   go_wp2
   go_ret
   exact⟨rfl,rfl⟩
theorem qiA(s:ByteArray)(hs:s.size<=140737488351232)(W:World):Calls Tryz.prog 134 #[.string s] W fun e w'=>e= .returned (.bool (fldB s.data.toList))/\w'=W:=by
 go_enter Tryz.func134,Tryz.ntmps134
 go_wp2
 go_loopw [6] (fun i wr=>wr=W/\∃k:Nat,k<=s.size/\i= .int .i64 k/\fldB (s.data.toList.take k)=true) (fun i _=>s.size-(intOf i).toNat)
 case atStart=>exact⟨rfl,0,Nat.zero_le _,rfl,rfl⟩
 case round=>
  obtain⟨rfl,k,hk,rfl,hall⟩:=hrel;have HA:=Lib.hid hall;clear hall;by_cases hlt:k<s.size
  ·obtain⟨x,hx⟩:∃x,s.data.toList[k]? =some x:=⟨_,zqD (by rw[qad];omega)⟩
   have hx':s[k]'hlt=x:=by
    have:s.data.toList[k]? =some (s[k]'hlt):=by simp[ByteArray.getElem_eq_getElem_data,hlt]
    rw[this]at hx;exact Option.some.inj hx
   cases hf:fcB x
   ·go_wp2_with (go_at_call 153;refine(qcs x _).mono ?_;rw[hf];rintro e w' ⟨rfl,rfl⟩)
    go_ret
    exact⟨by rw[show fldB s.data.toList=false from qd3 fcB _ k x hx hf];rfl,rfl⟩
   ·go_wp2_with (go_at_call 153;refine(qcs x _).mono ?_;rw[hf];rintro e w' ⟨rfl,rfl⟩)
    go_roundw
    case rel=>exact⟨by trivial,k+1,by omega,by go_num,by unfold fldB;rw[qa8 fcB _ k x hx];have:=HA.out;unfold fldB at this;rw[this,hf];rfl⟩
    case measure=>simp[intOf];omega
  ·obtain rfl:k=s.size:=by omega
   have ha:=HA.out;rw[zqE (by rw[qad];omega)]at ha
   go_wp2
   go_ret
   exact⟨by rw[ha];rfl,rfl⟩
theorem qsn(l:List UInt8)(k:Nat)(x:UInt8)(h:l[k]? =some x):esc (l.take (k+1))=esc (l.take k)++escB x:=by
 rw[List.take_add_one,h];simp[esc]
theorem qtk(l:List UInt8):(esc l).length<=2*l.length:=by
 induction l with
 |nil=>simp[esc]
 |cons c l ih=>
  have e:esc (c::l)=escB c++esc l:=by simp[esc]
  rw[e,zqK];have:(escB c).length<=2:=by unfold escB;split<;>simp
  simp only[zqL];omega
theorem bcells(l:List UInt8)(c:UInt8):Lib.byteCells l++[.int .u8 (c.toNat:Int)]=Lib.byteCells (l++[c]):=by simp[Lib.byteCells]
def qbT(l:List UInt8):List UInt8×Int:=if fldB l=true then(quoted l,0)else([],13)
theorem qrI(s:ByteArray)(hs:s.size<=35184372088832)(W:World):Calls Tryz.prog 157 #[.string s] W fun e w'=>e= .returned (.tuple #[.string (tx (qbT s.data.toList).1),.int .i64 (qbT s.data.toList).2])/\Frm (fun _=>False) W w':=by
 have HI:Calls Tryz.prog 134 #[.string s] W fun e w'=>e= .returned (.bool (fldB s.data.toList))/\W=w':=(qiA s (by omega) W).mono fun e w' ⟨h1,h2⟩=>⟨h1,h2.symm⟩
 cases hF:fldB s.data.toList with
 |false=>
  rw[hF]at HI;have hq:qbT s.data.toList=([],13):=by rw[qbT,if_neg (by rw[hF];simp)]
  rw[hq]
  go_enter Tryz.func157,Tryz.ntmps157
  go_wp2_with (go_at_call 134;refine HI.mono ?_;rintro e w1 ⟨rfl,rfl⟩)
  go_ret2
  exact⟨rfl,Frm.refl _ _⟩
 |true=>
  rw[hF]at HI;have hq:qbT s.data.toList=(quoted s.data.toList,0):=by rw[qbT,if_pos hF]
  rw[hq];have HQ:=Lib.hid hq;clear hq hF;have f0:Bld W.heap.size W.heap.size [] (W.alloc (.cells #[.pointer none,.slice none 0 0] 120)):=Lib.IsBuilderF.of (Lib.fresh_isBuilder 120 5 W)
  go_enter Tryz.func157,Tryz.ntmps157
  go_wp2_with (go_at_call 134;refine HI.mono ?_;rintro e w1 ⟨rfl,rfl⟩)
  clear HI;refine(qcE W.heap.size W.heap.size [] 34 _ f0 (by simp) (by simp)).mono ?_;rintro e w1 ⟨rfl,h1,b1,s1⟩;have h1:Bld W.heap.size W.heap.size (Lib.byteCells (34::esc (s.data.toList.take 0))) w1:=h1;have b1:Below W.heap.size W w1:=(Below.alloc (Below.refl _ W) (Nat.le_refl _) _).trans b1;have G1:=Lib.hid h1;have G2:=Lib.hid b1;clear h1 b1 f0
  go_wp2
  go_loopw [12] (fun i wr=>∃k:Nat,k<=s.size/\i= .int .i64 k/\Bld W.heap.size W.heap.size (Lib.byteCells (34::esc (s.data.toList.take k))) wr/\Below W.heap.size W wr/\W.heap.size<=wr.heap.size) (fun i _=>s.size-(intOf i).toNat)
  case atStart=>exact⟨0,Nat.zero_le _,rfl,G1.out,G2.out,s1⟩
  case round=>
   clear G1 G2 s1;obtain⟨k,hk,rfl,hB,hb,hsz⟩:=hrel;have HB:=Lib.hid hB;have Hb:=Lib.hid hb;clear hB hb
   have hlen:(esc (s.data.toList.take k)).length<=2*k:=by
    have:=qtk (s.data.toList.take k);rw[zqJ]at this;omega
   by_cases hlt:k<s.size
   ·obtain⟨x,hx⟩:∃x,s.data.toList[k]? =some x:=⟨_,zqD (by rw[qad];omega)⟩
    have hxb:s[k]'hlt=x:=qh0 s k x hx hlt;have hst:=qsn _ _ _ hx;have HX:=Lib.hid hst;clear hx hst;by_cases h34:x.toNat=34\/x.toNat=92
    ·have he:escB x=[92,x]:=by
      have:x=34\/x=92:=h34.imp (fun h=>UInt8.toNat_inj.1 h) (fun h=>UInt8.toNat_inj.1 h);rw[escB,if_pos this]
     have HE:=Lib.hid he;clear he;have hor:∃b:Bool,((x.toNat:Int)==34)=b/\(b=false->((x.toNat:Int)==92)=true):=⟨_,rfl,fun h=>by simp at h⊢;omega⟩
     clear h34;obtain⟨b,hb1,hb2⟩:=hor;cases b
     ·have hb2:=hb2 rfl
      go_wp2_with fail
      clear hb1 hb2;refine(qcE W.heap.size W.heap.size _ 92 _ HB.out (by rw[Lib.byteCells_length];simp;omega) hsz).mono ?_;rintro e w1 ⟨rfl,h1,b1,s1⟩;have K1:=Lib.hid h1;have K2:=Lib.hid (Hb.out.trans b1);clear h1 b1
      go_wp2_with fail
      refine(qcE W.heap.size W.heap.size _ _ _ K1.out (by rw[zqK,Lib.byteCells_length];simp;omega) s1).mono ?_;rintro e w2 ⟨rfl,h2,b2,s2⟩
      have h2':Bld W.heap.size W.heap.size (Lib.byteCells (34::esc (s.data.toList.take (k+1)))) w2:=by
       rw[HX.out,HE.out];have e1:=bcells (34::esc (s.data.toList.take k)) 92;have e2:=bcells (34::esc (s.data.toList.take k)++[92]) x;rw[<-e1]at e2;have e3:(34::(esc (s.data.toList.take k)++[92,x]):List UInt8)=34::esc (s.data.toList.take k)++[92]++[x]:=by simp
       rw[e3,<-e2];exact h2
      have L1:=Lib.hid h2';have L2:=Lib.hid (K2.out.trans b2);clear h2 h2' b2
      go_wp2
      go_roundw
      case rel=>exact⟨k+1,by omega,by go_num,L1.out,L2.out,s2⟩
      case measure=>simp[intOf];omega
     ·clear hb2
      go_wp2_with fail
      clear hb1;refine(qcE W.heap.size W.heap.size _ 92 _ HB.out (by rw[Lib.byteCells_length];simp;omega) hsz).mono ?_;rintro e w1 ⟨rfl,h1,b1,s1⟩;have K1:=Lib.hid h1;have K2:=Lib.hid (Hb.out.trans b1);clear h1 b1
      go_wp2_with fail
      refine(qcE W.heap.size W.heap.size _ _ _ K1.out (by rw[zqK,Lib.byteCells_length];simp;omega) s1).mono ?_;rintro e w2 ⟨rfl,h2,b2,s2⟩
      have h2':Bld W.heap.size W.heap.size (Lib.byteCells (34::esc (s.data.toList.take (k+1)))) w2:=by
       rw[HX.out,HE.out];have e1:=bcells (34::esc (s.data.toList.take k)) 92;have e2:=bcells (34::esc (s.data.toList.take k)++[92]) x;rw[<-e1]at e2;have e3:(34::(esc (s.data.toList.take k)++[92,x]):List UInt8)=34::esc (s.data.toList.take k)++[92]++[x]:=by simp
       rw[e3,<-e2];exact h2
      have L1:=Lib.hid h2';have L2:=Lib.hid (K2.out.trans b2);clear h2 h2' b2
      go_wp2
      go_roundw
      case rel=>exact⟨k+1,by omega,by go_num,L1.out,L2.out,s2⟩
      case measure=>simp[intOf];omega
    ·have he:escB x=[x]:=by
      rw[escB,if_neg];rintro(rfl|rfl)
      ·exact h34 (.inl rfl)
      ·exact h34 (.inr rfl)
     have HE:=Lib.hid he;clear he;have n1:((x.toNat:Int)==34)=false:=by simp;omega
     have n2:((x.toNat:Int)==92)=false:=by simp;omega
     clear h34
     go_wp2_with fail
     clear n1 n2;refine(qcE W.heap.size W.heap.size _ _ _ HB.out (by rw[Lib.byteCells_length];simp;omega) hsz).mono ?_;rintro e w2 ⟨rfl,h2,b2,s2⟩
     have h2':Bld W.heap.size W.heap.size (Lib.byteCells (34::esc (s.data.toList.take (k+1)))) w2:=by
      rw[HX.out,HE.out];have e2:=bcells (34::esc (s.data.toList.take k)) x;rw[List.cons_append]at e2;rw[<-e2];exact h2
     have L1:=Lib.hid h2';have L2:=Lib.hid (Hb.out.trans b2);clear h2 h2' b2
     go_wp2
     go_roundw
     case rel=>exact⟨k+1,by omega,by go_num,L1.out,L2.out,s2⟩
     case measure=>simp[intOf];omega
   ·obtain rfl:k=s.size:=by omega
    have hB:=HB.out;rw[zqE (by rw[qad];omega)]at hB hlen;have HB2:=Lib.hid hB;clear hB HB
    go_wp2_with fail
    refine(qcE W.heap.size W.heap.size _ 34 _ HB2.out (by rw[Lib.byteCells_length];simp;omega) hsz).mono ?_;rintro e w1 ⟨rfl,h1,b1,s1⟩
    have h1':Bld W.heap.size W.heap.size (Lib.byteCells (quoted s.data.toList)) w1:=by
     have e1:=bcells (34::esc s.data.toList) 34;have e2:quoted s.data.toList=34::esc s.data.toList++[34]:=by simp[quoted]
     rw[e2,<-e1];exact h1
    have K1:=Lib.hid h1';have K2:=Lib.hid (Hb.out.trans b1);clear h1 h1' b1
    go_wp2_with fail
    refine(qm6 W.heap.size W.heap.size _ _ K1.out s1).mono ?_;rintro e w2 ⟨rfl,b2⟩;have K3:=Lib.hid (K2.out.trans b2);clear b2
    go_wp2
    go_ret2
    exact⟨rfl,qbM K3.out⟩
def qaU(l:List UInt8):List UInt8×Int×Int:=match unquote l with
 |some p=>(p.1,(p.2:Int),0)
 |none=>([],0,13)
def qd8(l acc:List UInt8)(k:Nat):Prop:=unq (l.drop 1)=(unq (l.drop k)).map fun p=>(acc++p.1,p.2+(k-1))
theorem qeN(l:List UInt8):qd8 l [] 1:=by
 unfold qd8;cases unq (l.drop 1)<;>simp
theorem qay(l:List UInt8)(k:Nat)(x:UInt8)(h:l[k]? =some x):l.drop k=x::l.drop (k+1):=by
 have hlt:=(zqC.1 h).1;rw[List.drop_eq_getElem_cons hlt,(zqC.1 h).2]
theorem qgJ{l acc:List UInt8}{k:Nat}(h:qd8 l acc k)(hk:1<=k)(hx:l[k]? =some 34)(h0:l[0]? =some 34):qaU l=(acc,(k:Int)+1,0):=by
 unfold qd8 at h
 have e:unquote l=some (acc,k+1):=by
  rw[show l=34::l.drop 1 from qay l 0 34 h0,unquote];rw[if_pos rfl];rw[qay l k 34 hx]at h;rw[show unq (34::l.drop (k+1))=some ([],1)by unfold unq;rw[if_pos rfl]]at h;rw[h];simp;omega
 unfold qaU;rw[e];simp
theorem qk2{l:List UInt8}(h:unq (l.drop 1)=none)(h0:l[0]? =some 34):qaU l=([],0,13):=by
 have e:unquote l=none:=by
  rw[show l=34::l.drop 1 from qay l 0 34 h0,unquote,if_pos rfl,h];rfl
 unfold qaU;rw[e]
theorem qcu{l acc:List UInt8}{k:Nat}(h:qd8 l acc k)(hn:unq (l.drop k)=none)(h0:l[0]? =some 34):qaU l=([],0,13):=by
 unfold qd8 at h;rw[hn]at h;exact qk2 h h0
theorem qgH(x:UInt8)(r:List UInt8)(h1:x≠34)(h2:x≠92):unq (x::r)=if fcB x=true then(unq r).map (fun p=>(x::p.1,p.2+1))else none:=by
 conv=>lhs;unfold unq
 rw[if_neg h1,if_neg h2]
theorem qiT(x:UInt8)(r:List UInt8):unq (92::x::r)=if fcB x=true then(unq r).map (fun p=>(x::p.1,p.2+2))else none:=by
 conv=>lhs;unfold unq
 rw[if_neg (by decide),if_pos rfl]
theorem qeO{l acc:List UInt8}{k:Nat}{x:UInt8}(h:qd8 l acc k)(hk:1<=k)(hx:l[k]? =some x)(h1:x≠34)(h2:x≠92)(hf:fcB x=true):qd8 l (acc++[x]) (k+1):=by
 unfold qd8 at h⊢;rw[h,qay l k x hx,qgH _ _ h1 h2,if_pos hf];cases unq (l.drop (k+1))with
 |none=>rfl
 |some p=>simp;omega
theorem qgI{l acc:List UInt8}{k:Nat}{x:UInt8}(h:qd8 l acc k)(hk:1<=k)(hx:l[k]? =some 92)(hy:l[k+1]? =some x)(hf:fcB x=true):qd8 l (acc++[x]) (k+2):=by
 unfold qd8 at h⊢;rw[h,qay l k 92 hx,qay l (k+1) x hy,qiT,if_pos hf];rw[show k+1+1=k+2 from rfl];cases unq (l.drop (k+2))with
 |none=>rfl
 |some p=>simp;omega
theorem qeJ{l:List UInt8}{k:Nat}{x:UInt8}(hx:l[k]? =some x)(h1:x≠34)(h2:x≠92)(hf:fcB x=false):unq (l.drop k)=none:=by
 rw[qay l k x hx,qgH _ _ h1 h2,if_neg (by rw[hf];simp)]
theorem qga{l:List UInt8}{k:Nat}{x:UInt8}(hx:l[k]? =some 92)(hy:l[k+1]? =some x)(hf:fcB x=false):unq (l.drop k)=none:=by
 rw[qay l k 92 hx,qay l (k+1) x hy,qiT,if_neg (by rw[hf];simp)]
theorem qe7{l:List UInt8}{k:Nat}(hx:l[k]? =some 92)(hl:l.length=k+1):unq (l.drop k)=none:=by
 rw[qay l k 92 hx,List.drop_of_length_le (by omega)];rfl
theorem qgb{l:List UInt8}{k:Nat}(hl:l.length<=k):unq (l.drop k)=none:=by
 rw[List.drop_of_length_le hl];rfl
theorem qnd(s:ByteArray)(hs:s.size<=35184372088832)(W:World):Calls Tryz.prog 155 #[.string s] W fun e w'=>e= .returned (.tuple #[.string (tx (qaU s.data.toList).1),.int .i64 (qaU s.data.toList).2.1,.int .i64 (qaU s.data.toList).2.2])/\Frm (fun _=>False) W w':=by
 by_cases he:s.data.toList=[]
 ·have hn:qaU s.data.toList=([],0,13):=by rw[he];rfl
  have he':s.toList.isEmpty=true:=by rw[qa1,he];rfl
  rw[hn]
  go_enter Tryz.func155,Tryz.ntmps155
  go_wp2
  go_ret3
  exact⟨rfl,Frm.refl _ _⟩
 ·have he':s.toList.isEmpty=false:=by rw[qa1];simpa using he
  have h0s:0<s.size:=by
   rw[<-qad];exact List.length_pos_iff.2 he
  obtain⟨c,hc⟩:∃x,s.data.toList[0]? =some x:=⟨_,zqD (by rw[qad];omega)⟩
  have hcb:s[0]'h0s=c:=qh0 s 0 c hc h0s;clear he;by_cases h34:c.toNat=34
  ·have hc34:c=34:=UInt8.toNat_inj.1 h34;have t34:((c.toNat:Int) !=34)=false:=by simp;omega
   have H0:Hid (s.data.toList[0]? =some 34):=Lib.hid (by rw[hc,hc34]);have f0:Bld W.heap.size W.heap.size (Lib.byteCells []) (W.alloc (.cells #[.pointer none,.slice none 0 0] 120)):=Lib.IsBuilderF.of (Lib.fresh_isBuilder 120 5 W);have F0:=Lib.hid f0;have B0:=Lib.hid (Below.alloc (Below.refl _ W) (Nat.le_refl _) (.cells #[.pointer none,.slice none 0 0] 120));clear hc hc34 h34 f0
   go_enter Tryz.func155,Tryz.ntmps155
   go_wp2
   clear t34 hcb he'
   go_loopw [6] (fun i wr=>∃(k:Nat) (acc:List UInt8),1<=k/\k<=s.size/\i= .int .i64 k/\Bld W.heap.size W.heap.size (Lib.byteCells acc) wr/\Below W.heap.size W wr/\W.heap.size<=wr.heap.size/\qd8 s.data.toList acc k/\acc.length<=k) (fun i _=>s.size-(intOf i).toNat)
   case atStart=>exact⟨1,[],by omega,by omega,rfl,F0.out,B0.out,by simp,qeN _,by simp⟩
   case round=>
    clear F0 B0;obtain⟨k,acc,hk1,hk,rfl,hB,hb,hsz,hu,hacc⟩:=hrel;have HB:=Lib.hid hB;have Hb:=Lib.hid hb;have HU:=Lib.hid hu;clear hB hb hu;by_cases hlt:k<s.size
    ·obtain⟨x,hx⟩:∃x,s.data.toList[k]? =some x:=⟨_,zqD (by rw[qad];omega)⟩
     have hxb:s[k]'hlt=x:=qh0 s k x hx hlt;have HX:=Lib.hid hx;clear hx;by_cases h34:x.toNat=34
     ·have hx34:x=34:=UInt8.toNat_inj.1 h34;have t1:((x.toNat:Int)==34)=true:=by simp;omega
      have HN:=Lib.hid (qgJ HU.out hk1 (by rw[HX.out,hx34]) H0.out);clear h34 hx34
      go_wp2_with fail
      clear t1;refine(qm6 W.heap.size W.heap.size _ _ HB.out hsz).mono ?_;rintro e w2 ⟨rfl,b2⟩;have K3:=Lib.hid (Hb.out.trans b2);clear b2
      go_wp2
      go_ret3
      rw[HN.out];refine⟨?_,qbM K3.out⟩;rfl
     ·have t1:((x.toNat:Int)==34)=false:=by simp;omega
      by_cases h92:x.toNat=92
      ·have hx92:x=92:=UInt8.toNat_inj.1 h92;have t2:((x.toNat:Int)==92)=true:=by simp;omega
       have hx92':=Lib.hid (show s.data.toList[k]? =some 92 by rw[HX.out,hx92]);clear h34 h92 hx92;by_cases hl2:k+1=s.size
       ·have HN:=Lib.hid (qcu HU.out (qe7 hx92'.out (by rw[qad];omega)) H0.out);have t3:((k:Int)+1==(s.size:Int))=true:=by simp;omega
        go_wp2
        go_ret3
        rw[HN.out];exact⟨rfl,qbM Hb.out⟩
       ·have hlt2:k+1<s.size:=by omega
        have t3:((k:Int)+1==(s.size:Int))=false:=by simp;omega
        obtain⟨y,hy⟩:∃x,s.data.toList[k+1]? =some x:=⟨_,zqD (by rw[qad];omega)⟩
        have hyb:s[k+1]'hlt2=y:=qh0 s (k+1) y hy hlt2;have HY:=Lib.hid hy;clear hy;have hif:=qcs y wr;cases hf:fcB y
        ·rw[hf]at hif;have HN:=Lib.hid (qcu HU.out (qga hx92'.out HY.out hf) H0.out);clear hf
         go_wp2_with fail
         clear t1 t2 t3;refine hif.mono ?_;rintro e w2 ⟨rfl,rfl⟩
         go_wp2
         go_ret3
         rw[HN.out];exact⟨rfl,qbM Hb.out⟩
        ·rw[hf]at hif;have HS:=Lib.hid (qgI HU.out hk1 hx92'.out HY.out hf);clear hf
         go_wp2_with fail
         clear t1 t2 t3;refine hif.mono ?_;rintro e w2 ⟨rfl,rfl⟩
         go_wp2_with fail
         refine(qcE W.heap.size W.heap.size _ _ _ HB.out (by rw[Lib.byteCells_length];omega) hsz).mono ?_;rintro e w3 ⟨rfl,h2,b2,s2⟩;rw[bcells]at h2;have L1:=Lib.hid h2;have L2:=Lib.hid (Hb.out.trans b2);clear h2 b2
         go_wp2
         go_roundw
         case rel=>exact⟨k+2,_,by omega,by omega,by go_num,L1.out,L2.out,s2,HS.out,by simp;omega⟩
         case measure=>simp[intOf];omega
      ·have t2:((x.toNat:Int)==92)=false:=by simp;omega
       have ne1:x≠34:=by rintro rfl;exact h34 rfl
       have ne2:x≠92:=by rintro rfl;exact h92 rfl
       clear h34 h92;have hif:=qcs x wr;cases hf:fcB x
       ·rw[hf]at hif;have HN:=Lib.hid (qcu HU.out (qeJ HX.out ne1 ne2 hf) H0.out);clear hf ne1 ne2
        go_wp2_with fail
        clear t1 t2;refine hif.mono ?_;rintro e w2 ⟨rfl,rfl⟩
        go_wp2
        go_ret3
        rw[HN.out];exact⟨rfl,qbM Hb.out⟩
       ·rw[hf]at hif;have HS:=Lib.hid (qeO HU.out hk1 HX.out ne1 ne2 hf);clear hf ne1 ne2
        go_wp2_with fail
        clear t1 t2;refine hif.mono ?_;rintro e w2 ⟨rfl,rfl⟩
        go_wp2_with fail
        refine(qcE W.heap.size W.heap.size _ _ _ HB.out (by rw[Lib.byteCells_length];omega) hsz).mono ?_;rintro e w3 ⟨rfl,h2,b2,s2⟩;rw[bcells]at h2;have L1:=Lib.hid h2;have L2:=Lib.hid (Hb.out.trans b2);clear h2 b2
        go_wp2
        go_roundw
        case rel=>exact⟨k+1,_,by omega,by omega,by go_num,L1.out,L2.out,s2,HS.out,by simp;omega⟩
        case measure=>simp[intOf];omega
    ·have HN:=Lib.hid (qcu HU.out (qgb (by rw[qad];omega)) H0.out)
     go_wp2
     go_ret3
     rw[HN.out];exact⟨rfl,qbM Hb.out⟩
  ·have hn:qaU s.data.toList=([],0,13):=by
    have:unquote s.data.toList=none:=by
     rw[show s.data.toList=c::s.data.toList.drop 1 from qay _ 0 c hc,unquote,if_neg];rintro rfl;exact h34 rfl
    unfold qaU;rw[this]
   have HN:=Lib.hid hn;have t34:((c.toNat:Int) !=34)=true:=by simp;omega
   clear hn hc h34
   go_enter Tryz.func155,Tryz.ntmps155
   go_wp2
   go_ret3
   rw[HN.out];exact⟨rfl,Frm.refl _ _⟩
def strs(l:List (List UInt8)):List (List AV):=l.map fun x=>[.str x]
theorem qmc(l:List (List UInt8)):(strs l).length=l.length:=by simp[strs]
section
variable {w:World}{β:Nat->Nat}{Rd:Nat->Nat->Prop}
theorem qnr{a:List UInt8}{k:IntKind}{n:Int}(h:a.length<=maxLen):Rel w β Rd (.tup [.str a,.int k n]) (.tuple #[.string (tx a),.int k n]):=by
 refine .tup _ _ rfl (by simp[AV.free]) (fun j x u hx hu=>?_)
 match j with
 |0=>simp at hx hu;subst hx;subst hu;exact qdv a h
 |1=>simp at hx hu;subst hx;subst hu;exact .int _ _
 |j+2=>simp at hx
theorem qlg{a:List UInt8}{k k':IntKind}{n m:Int}(h:a.length<=maxLen):Rel w β Rd (.tup [.str a,.int k n,.int k' m]) (.tuple #[.string (tx a),.int k n,.int k' m]):=by
 refine .tup _ _ rfl (by simp[AV.free]) (fun j x u hx hu=>?_)
 match j with
 |0=>simp at hx hu;subst hx;subst hu;exact qdv a h
 |1=>simp at hx hu;subst hx;subst hu;exact .int _ _
 |2=>simp at hx hu;subst hx;subst hu;exact .int _ _
 |j+3=>simp at hx
end
theorem qk6(l:List UInt8):(qaJ l).length<=l.length:=by
 have dw:∀(p:UInt8->Bool) (l:List UInt8),(l.dropWhile p).length<=l.length:=fun p l=>(List.dropWhile_sublist p).length_le;unfold qaJ Go.Lib.trimS Go.Lib.trimLeftS Go.Lib.trimRightS;refine Nat.le_trans (dw _ _) ?_;rw[List.length_reverse];refine Nat.le_trans (dw _ _) ?_;rw[List.length_reverse];exact Nat.le_refl _
theorem qg3(l:List UInt8):(quoted l).length<=2*l.length+2:=by
 have:=qtk l;simp[quoted];omega
theorem qox(l:List UInt8):(qaU l).1.length<=l.length:=by
 unfold qaU;cases h:unquote l with
 |none=>simp
 |some p=>have:=qbQ (l:=p.1) (k:=p.2) h;simp;omega
section
variable (E:Env)(H:Hp)(Q:AV->Hp->Prop)
theorem qrl(l:List UInt8)(hl:l.length<=cap)(hQ:Q (.str (qaJ l)) H):PC Tryz.prog E 154 [.str l,.str [32,9]] H Q:=by
 refine qau (v:= .str (qaJ l)) (by kernel_rfl) (fun _=>True) (fun w hw=>trivial) (fun w β Rd cargs hS hsz hargs=>?_) (.str _) rfl hQ;obtain⟨u,v,rfl,hu,hv⟩:=args2 hsz hargs;obtain⟨s,rfl,rfl,hs⟩:=qaC hu;obtain⟨t,rfl,ht,_⟩:=qaC hv;have h116:(Tryz.prog.info? (lren.t 116)).map (fun i=>(i.zero,i.size))=some (some (.agg (Array.replicate 256 (.bool false))),256):=by kernel_rfl
 have htl:t.size=2:=by rw[<-qad,ht];rfl
 refine(Any.strings_Trim_ascii lays160 (zero_of_info h116).1 (zero_of_info h116).2 s t w (by rw[<-qad];simp only[cap]at hl;omega) (by rw[htl];omega) (fun j b hb=>by
  rw[ht]at hb
  match j with
  |0=>simp at hb;subst hb;decide
  |1=>simp at hb;subst hb;decide
  |j+2=>simp at hb)).mono ?_
 rintro e w' ⟨rfl,hb⟩;rw[ht];exact⟨_,rfl,qbM hb,qdv (qaJ s.data.toList) (qf4 (Nat.le_trans (qk6 _) hl))⟩
theorem qgM(l:List UInt8)(hl:l.length<=cap)(hQ:Q (.str (qaJ l)) H):PC Tryz.prog E 135 [.str l] H Q:=by
 refine qac Tryz.func135 rfl [] [] (by kernel_rfl) (fun hB=>?_);simp[Tryz.ntmps135,Tryz.results135,List.replicate_succ];refine qrl E H _ l hl ?_;simp[Tryz.results135];exact aQz hB (h6:=hQ)
theorem qex(l:List UInt8)(hl:l.length<=cap)(hQ:Q (.bool (fldB l)) H):PC Tryz.prog E 134 [.str l] H Q:=by
 refine qau (v:= .bool (fldB l)) (by kernel_rfl) (fun _=>True) (fun w hw=>trivial) (fun w β Rd cargs hS hsz hargs=>?_) (.bool _) rfl hQ;obtain⟨u,rfl,hu⟩:=args1 hsz hargs;obtain⟨s,rfl,rfl,hs⟩:=qaC hu;refine(qiA s (by rw[<-qad];exact hl) w).mono ?_;rintro e w' ⟨rfl,rfl⟩;exact⟨_,rfl,Frm.refl _ _,.bool _⟩
theorem qrH(l:List UInt8)(hl:l.length<=35184372088832)(hQ:Q (.tup [.str (qbT l).1,.int .i64 (qbT l).2]) H):PC Tryz.prog E 157 [.str l] H Q:=by
 refine qau (v:= .tup [.str (qbT l).1,.int .i64 (qbT l).2]) (by kernel_rfl) (fun _=>True) (fun w hw=>trivial) (fun w β Rd cargs hS hsz hargs=>?_) (.tup _ (fun x hx=>by simp at hx;rcases hx with rfl|rfl;exact .str _;exact .int _ _)) rfl hQ;obtain⟨u,rfl,hu⟩:=args1 hsz hargs;obtain⟨s,rfl,rfl,hs⟩:=qaC hu;refine(qrI s (by rw[<-qad];exact hl) w).mono ?_;rintro e w' ⟨rfl,hf⟩;refine⟨_,rfl,hf,qnr ?_⟩;have:=qg3 s.data.toList;simp only[maxLen];unfold qbT;split
 ·simp only;omega
 ·simp
theorem qh5(l:List UInt8)(hl:l.length<=35184372088832)(hQ:Q (.tup [.str (qaU l).1,.int .i64 (qaU l).2.1,.int .i64 (qaU l).2.2]) H):PC Tryz.prog E 155 [.str l] H Q:=by
 refine qau (v:= .tup [.str (qaU l).1,.int .i64 (qaU l).2.1,.int .i64 (qaU l).2.2]) (by kernel_rfl) (fun _=>True) (fun w hw=>trivial) (fun w β Rd cargs hS hsz hargs=>?_) (.tup _ (fun x hx=>by simp at hx;rcases hx with rfl|rfl|rfl;exact .str _;exact .int _ _;exact .int _ _)) rfl hQ;obtain⟨u,rfl,hu⟩:=args1 hsz hargs;obtain⟨s,rfl,rfl,hs⟩:=qaC hu;refine(qnd s (by rw[<-qad];exact hl) w).mono ?_;rintro e w' ⟨rfl,hf⟩;exact⟨_,rfl,hf,qlg (Nat.le_trans (qox _) (by simp only[maxLen];omega))⟩
end
end Go.Proofs.YtnnhdehmlkkfjaaGreatDoor
