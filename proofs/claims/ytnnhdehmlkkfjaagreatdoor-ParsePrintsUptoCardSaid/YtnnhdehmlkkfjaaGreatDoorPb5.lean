/- Part 5 of the texts below the law. -/
import Derived.Test.YtnnhdehmlkkfjaaGreatDoorPb4
import Derived.Test.YtnnhdehmlkkfjaaGreatDoorProg
import Derived.KernelRfl
import Derived.Lib.Strings
import Derived.Lib.Slices
import Derived.Lib.Walk
import Derived.Lib.Bytealg
import Derived.Lib.SlTrimSet
import Derived.Lib.Join
import Derived.WalkKit
import Derived.BigCall
import Derived.Test.YtnnhdehmlkkfjaaGreatDoorRows
import Derived.ProofKit
import Derived.OpenShut
import Derived.SizedLaws
import Derived.Deep.Slices
import Derived.Deep.Fields
import Derived.SliceStrings
set_option maxRecDepth 100000
set_option maxHeartbeats 16000000
set_option linter.unusedVariables false
namespace Go.Proofs.YtnnhdehmlkkfjaaGreatDoor
open Go
@[simp] theorem tf_sz3:tsz Tryz.prog 3=some 1:=by kernel_rfl
@[simp] theorem tf_row3:trow Tryz.prog 3=some false:=by kernel_rfl
@[simp] theorem tf_int3:tint Tryz.prog 3=some .i64:=by kernel_rfl
@[simp] theorem tf_zc3:tzc Tryz.prog 3=some [.int .i64 0]:=by kernel_rfl
@[simp] theorem tf_sz4:tsz Tryz.prog 4=some 1:=by kernel_rfl
@[simp] theorem tf_row4:trow Tryz.prog 4=some false:=by kernel_rfl
@[simp] theorem tf_bool4:tbool Tryz.prog 4=true:=by kernel_rfl
@[simp] theorem tf_sz5:tsz Tryz.prog 5=some 1:=by kernel_rfl
@[simp] theorem tf_by5:tby Tryz.prog 5=some 1:=by kernel_rfl
@[simp] theorem tf_row5:trow Tryz.prog 5=some false:=by kernel_rfl
@[simp] theorem tf_int5:tint Tryz.prog 5=some .u8:=by kernel_rfl
@[simp] theorem tf_zc5:tzc Tryz.prog 5=some [.int .u8 0]:=by kernel_rfl
@[simp] theorem tf_sz9:tsz Tryz.prog 9=some 1:=by kernel_rfl
@[simp] theorem tf_by9:tby Tryz.prog 9=some 16:=by kernel_rfl
@[simp] theorem tf_row9:trow Tryz.prog 9=some false:=by kernel_rfl
@[simp] theorem tf_str9:tstr Tryz.prog 9=true:=by kernel_rfl
@[simp] theorem tf_zc9:tzc Tryz.prog 9=some [.str []]:=by kernel_rfl
@[simp] theorem tf_sz23:tsz Tryz.prog 23=some 4:=by kernel_rfl
@[simp] theorem tf_row23:trow Tryz.prog 23=some true:=by kernel_rfl
@[simp] theorem tf_zc23:tzc Tryz.prog 23=some [.int .i64 0,.int .i64 0,.int .i64 0,.int .i64 0]:=by kernel_rfl
@[simp] theorem tf_pl23:tplaces Tryz.prog 23=some [(0,1),(1,1),(2,1),(3,1)]:=by kernel_rfl
@[simp] theorem tf_fld23x0:tfld Tryz.prog 23 0=some (0,1,false):=by kernel_rfl
@[simp] theorem tf_fld23x1:tfld Tryz.prog 23 1=some (1,1,false):=by kernel_rfl
@[simp] theorem tf_fld23x2:tfld Tryz.prog 23 2=some (2,1,false):=by kernel_rfl
@[simp] theorem tf_fld23x3:tfld Tryz.prog 23 3=some (3,1,false):=by kernel_rfl
@[simp] theorem tf_sz24:tsz Tryz.prog 24=some 1:=by kernel_rfl
@[simp] theorem tf_row24:trow Tryz.prog 24=some false:=by kernel_rfl
@[simp] theorem tf_sl24:tsl Tryz.prog 24=some 65:=by kernel_rfl
@[simp] theorem tf_el24:tel Tryz.prog 24=some 2:=by kernel_rfl
@[simp] theorem tf_sz26:tsz Tryz.prog 26=some 7:=by kernel_rfl
@[simp] theorem tf_row26:trow Tryz.prog 26=some true:=by kernel_rfl
@[simp] theorem tf_zc26:tzc Tryz.prog 26=some [.str [],.str [],.int .i64 0,.int .i64 0,.nil,.str [],.nil]:=by kernel_rfl
@[simp] theorem tf_pl26:tplaces Tryz.prog 26=some [(0,1),(1,1),(2,1),(3,1),(4,1),(5,1),(6,1)]:=by kernel_rfl
@[simp] theorem tf_fld26x0:tfld Tryz.prog 26 0=some (0,1,false):=by kernel_rfl
@[simp] theorem tf_fld26x1:tfld Tryz.prog 26 1=some (1,1,false):=by kernel_rfl
@[simp] theorem tf_fld26x2:tfld Tryz.prog 26 2=some (2,1,false):=by kernel_rfl
@[simp] theorem tf_fld26x3:tfld Tryz.prog 26 3=some (3,1,false):=by kernel_rfl
@[simp] theorem tf_fld26x4:tfld Tryz.prog 26 4=some (4,1,false):=by kernel_rfl
@[simp] theorem tf_fld26x5:tfld Tryz.prog 26 5=some (5,1,false):=by kernel_rfl
@[simp] theorem tf_fld26x6:tfld Tryz.prog 26 6=some (6,1,false):=by kernel_rfl
@[simp] theorem tf_sz27:tsz Tryz.prog 27=some 1:=by kernel_rfl
@[simp] theorem tf_row27:trow Tryz.prog 27=some false:=by kernel_rfl
@[simp] theorem tf_sz29:tsz Tryz.prog 29=some 3:=by kernel_rfl
@[simp] theorem tf_row29:trow Tryz.prog 29=some true:=by kernel_rfl
@[simp] theorem tf_zc29:tzc Tryz.prog 29=some [.int .i64 0,.int .i64 0,.int .i64 0]:=by kernel_rfl
@[simp] theorem tf_pl29:tplaces Tryz.prog 29=some [(0,1),(1,1),(2,1)]:=by kernel_rfl
@[simp] theorem tf_sz32:tsz Tryz.prog 32=some 1:=by kernel_rfl
@[simp] theorem tf_row32:trow Tryz.prog 32=some false:=by kernel_rfl
@[simp] theorem tf_sl32:tsl Tryz.prog 32=some 89:=by kernel_rfl
@[simp] theorem tf_el32:tel Tryz.prog 32=some 2:=by kernel_rfl
@[simp] theorem tf_sz34:tsz Tryz.prog 34=some 7:=by kernel_rfl
@[simp] theorem tf_row34:trow Tryz.prog 34=some true:=by kernel_rfl
@[simp] theorem tf_zc34:tzc Tryz.prog 34=some [.str [],.str [],.int .i64 0,.int .i64 0,.nil,.str [],.nil]:=by kernel_rfl
@[simp] theorem tf_pl34:tplaces Tryz.prog 34=some [(0,1),(1,1),(2,1),(3,1),(4,1),(5,1),(6,1)]:=by kernel_rfl
@[simp] theorem tf_fld34x0:tfld Tryz.prog 34 0=some (0,1,false):=by kernel_rfl
@[simp] theorem tf_fld34x1:tfld Tryz.prog 34 1=some (1,1,false):=by kernel_rfl
@[simp] theorem tf_fld34x2:tfld Tryz.prog 34 2=some (2,1,false):=by kernel_rfl
@[simp] theorem tf_fld34x3:tfld Tryz.prog 34 3=some (3,1,false):=by kernel_rfl
@[simp] theorem tf_fld34x4:tfld Tryz.prog 34 4=some (4,1,false):=by kernel_rfl
@[simp] theorem tf_fld34x5:tfld Tryz.prog 34 5=some (5,1,false):=by kernel_rfl
@[simp] theorem tf_fld34x6:tfld Tryz.prog 34 6=some (6,1,false):=by kernel_rfl
@[simp] theorem tf_row45:trow Tryz.prog 45=some false:=by kernel_rfl
@[simp] theorem tf_sl51:tsl Tryz.prog 51=some 3:=by kernel_rfl
@[simp] theorem tf_el51:tel Tryz.prog 51=some 1:=by kernel_rfl
@[simp] theorem tf_sz65:tsz Tryz.prog 65=some 2:=by kernel_rfl
@[simp] theorem tf_by65:tby Tryz.prog 65=some 32:=by kernel_rfl
@[simp] theorem tf_row65:trow Tryz.prog 65=some true:=by kernel_rfl
@[simp] theorem tf_zc65:tzc Tryz.prog 65=some [.str [],.str []]:=by kernel_rfl
@[simp] theorem tf_pl65:tplaces Tryz.prog 65=some [(0,1),(1,1)]:=by kernel_rfl
@[simp] theorem tf_fld65x0:tfld Tryz.prog 65 0=some (0,1,false):=by kernel_rfl
@[simp] theorem tf_fld65x1:tfld Tryz.prog 65 1=some (1,1,false):=by kernel_rfl
@[simp] theorem tf_sl78:tsl Tryz.prog 78=some 9:=by kernel_rfl
@[simp] theorem tf_el78:tel Tryz.prog 78=some 1:=by kernel_rfl
@[simp] theorem tf_sz81:tsz Tryz.prog 81=some 1:=by kernel_rfl
@[simp] theorem tf_row81:trow Tryz.prog 81=some false:=by kernel_rfl
@[simp] theorem tf_func81:tfunc Tryz.prog 81=true:=by kernel_rfl
@[simp] theorem tf_sz82:tsz Tryz.prog 82=some 1:=by kernel_rfl
@[simp] theorem tf_row82:trow Tryz.prog 82=some false:=by kernel_rfl
@[simp] theorem tf_sl82:tsl Tryz.prog 82=some 5:=by kernel_rfl
@[simp] theorem tf_el82:tel Tryz.prog 82=some 1:=by kernel_rfl
@[simp] theorem tf_str82:tstr Tryz.prog 82=false:=by kernel_rfl
@[simp] theorem tf_bytes82:tbytes Tryz.prog 82=true:=by kernel_rfl
@[simp] theorem tf_sz83:tsz Tryz.prog 83=some 1:=by kernel_rfl
@[simp] theorem tf_row83:trow Tryz.prog 83=some false:=by kernel_rfl
@[simp] theorem tf_ptr83:tptr Tryz.prog 83=true:=by kernel_rfl
@[simp] theorem tf_zc85:tzc Tryz.prog 85=some [.int .i64 0,.int .i64 0,.int .i64 0,.int .i64 0,.raw .nilFunc,.int .i64 0,.int .i64 0,.str [],.str [],.int .i64 0,.int .i64 0,.nil,.str [],.nil,.int .i64 0,.int .i64 0,.int .i64 0,.nil,.str [],.int .i64 0,.int .i64 0,.int .i64 0,.nil,.ptr none,.bool false]:=by kernel_rfl
@[simp] theorem tf_pl85:tplaces Tryz.prog 85=some [(0,4),(4,1),(5,1),(6,1),(7,7),(14,3),(17,1),(18,1),(19,1),(20,1),(21,1),(22,1),(23,1),(24,1)]:=by kernel_rfl
@[simp] theorem tf_fld85x0:tfld Tryz.prog 85 0=some (0,4,true):=by kernel_rfl
@[simp] theorem tf_fld85x1:tfld Tryz.prog 85 1=some (4,1,false):=by kernel_rfl
@[simp] theorem tf_fld85x2:tfld Tryz.prog 85 2=some (5,1,false):=by kernel_rfl
@[simp] theorem tf_fld85x3:tfld Tryz.prog 85 3=some (6,1,false):=by kernel_rfl
@[simp] theorem tf_fld85x4:tfld Tryz.prog 85 4=some (7,7,true):=by kernel_rfl
@[simp] theorem tf_fld85x5:tfld Tryz.prog 85 5=some (14,3,true):=by kernel_rfl
@[simp] theorem tf_fld85x6:tfld Tryz.prog 85 6=some (17,1,false):=by kernel_rfl
@[simp] theorem tf_fld85x8:tfld Tryz.prog 85 8=some (19,1,false):=by kernel_rfl
@[simp] theorem tf_fld85x9:tfld Tryz.prog 85 9=some (20,1,false):=by kernel_rfl
@[simp] theorem tf_fld85x10:tfld Tryz.prog 85 10=some (21,1,false):=by kernel_rfl
@[simp] theorem tf_fld85x11:tfld Tryz.prog 85 11=some (22,1,false):=by kernel_rfl
@[simp] theorem tf_fld85x12:tfld Tryz.prog 85 12=some (23,1,false):=by kernel_rfl
@[simp] theorem tf_fld85x13:tfld Tryz.prog 85 13=some (24,1,false):=by kernel_rfl
@[simp] theorem tf_sz89:tsz Tryz.prog 89=some 2:=by kernel_rfl
@[simp] theorem tf_by89:tby Tryz.prog 89=some 32:=by kernel_rfl
@[simp] theorem tf_row89:trow Tryz.prog 89=some true:=by kernel_rfl
@[simp] theorem tf_zc89:tzc Tryz.prog 89=some [.str [],.str []]:=by kernel_rfl
@[simp] theorem tf_pl89:tplaces Tryz.prog 89=some [(0,1),(1,1)]:=by kernel_rfl
@[simp] theorem tf_fld89x0:tfld Tryz.prog 89 0=some (0,1,false):=by kernel_rfl
@[simp] theorem tf_fld89x1:tfld Tryz.prog 89 1=some (1,1,false):=by kernel_rfl
@[simp] theorem tf_sz101:tsz Tryz.prog 101=some 2:=by kernel_rfl
@[simp] theorem tf_row101:trow Tryz.prog 101=some true:=by kernel_rfl
@[simp] theorem tf_zc101:tzc Tryz.prog 101=some [.int .i64 0,.int .i64 0]:=by kernel_rfl
@[simp] theorem tf_pl101:tplaces Tryz.prog 101=some [(0,1),(1,1)]:=by kernel_rfl
@[simp] theorem tf_fld101x0:tfld Tryz.prog 101 0=some (0,1,false):=by kernel_rfl
@[simp] theorem tf_fld101x1:tfld Tryz.prog 101 1=some (1,1,false):=by kernel_rfl
@[simp] theorem tf_zc120:tzc Tryz.prog 120=some [.ptr none,.nil]:=by kernel_rfl
@[simp] theorem tf_sl178:tsl Tryz.prog 178=some 195:=by kernel_rfl
@[simp] theorem tf_el178:tel Tryz.prog 178=some 3:=by kernel_rfl
@[simp] theorem tf_sz184:tsz Tryz.prog 184=some 6:=by kernel_rfl
@[simp] theorem tf_row184:trow Tryz.prog 184=some true:=by kernel_rfl
@[simp] theorem tf_zc184:tzc Tryz.prog 184=some [.int .i64 0,.str [],.int .i64 0,.str [],.str [],.bool false]:=by kernel_rfl
@[simp] theorem tf_pl184:tplaces Tryz.prog 184=some [(0,1),(1,1),(2,1),(3,1),(4,1),(5,1)]:=by kernel_rfl
@[simp] theorem tf_fld184x3:tfld Tryz.prog 184 3=some (3,1,false):=by kernel_rfl
@[simp] theorem tf_fld184x4:tfld Tryz.prog 184 4=some (4,1,false):=by kernel_rfl
@[simp] theorem tf_fld184x5:tfld Tryz.prog 184 5=some (5,1,false):=by kernel_rfl
@[simp] theorem tf_sz195:tsz Tryz.prog 195=some 3:=by kernel_rfl
@[simp] theorem tf_by195:tby Tryz.prog 195=some 40:=by kernel_rfl
@[simp] theorem tf_row195:trow Tryz.prog 195=some true:=by kernel_rfl
@[simp] theorem tf_zc195:tzc Tryz.prog 195=some [.str [],.str [],.bool false]:=by kernel_rfl
@[simp] theorem tf_pl195:tplaces Tryz.prog 195=some [(0,1),(1,1),(2,1)]:=by kernel_rfl
@[simp] theorem tf_fld195x0:tfld Tryz.prog 195 0=some (0,1,false):=by kernel_rfl
@[simp] theorem tf_fld195x1:tfld Tryz.prog 195 1=some (1,1,false):=by kernel_rfl
@[simp] theorem tf_fld195x2:tfld Tryz.prog 195 2=some (2,1,false):=by kernel_rfl
@[simp] theorem tf_int198:tint Tryz.prog 198=some .u64:=by kernel_rfl
@[simp] theorem tf_arr222:tarr Tryz.prog 222=some (65,1,false):=by kernel_rfl
@[simp] theorem tf_int224:tint Tryz.prog 224=some .u64:=by kernel_rfl
@[simp] theorem tf_sz241:tsz Tryz.prog 241=some 1:=by kernel_rfl
@[simp] theorem tf_row241:trow Tryz.prog 241=some false:=by kernel_rfl
@[simp] theorem tf_zc243:tzc Tryz.prog 243=some [.int .i64 0,.int .i64 0,.int .i64 0,.raw .nilFunc,.nil,.int .i64 0,.nil,.nil,.int .i64 0,.int .i64 0,.bool false,.int .i64 0]:=by kernel_rfl
@[simp] theorem tf_pl243:tplaces Tryz.prog 243=some [(0,1),(1,1),(2,1),(3,1),(4,1),(5,1),(6,1),(7,1),(8,1),(9,1),(10,1),(11,1)]:=by kernel_rfl
@[simp] theorem tf_fld243x0:tfld Tryz.prog 243 0=some (0,1,false):=by kernel_rfl
@[simp] theorem tf_fld243x1:tfld Tryz.prog 243 1=some (1,1,false):=by kernel_rfl
@[simp] theorem tf_fld243x2:tfld Tryz.prog 243 2=some (2,1,false):=by kernel_rfl
@[simp] theorem tf_fld243x3:tfld Tryz.prog 243 3=some (3,1,false):=by kernel_rfl
@[simp] theorem tf_fld243x4:tfld Tryz.prog 243 4=some (4,1,false):=by kernel_rfl
@[simp] theorem tf_fld243x5:tfld Tryz.prog 243 5=some (5,1,false):=by kernel_rfl
@[simp] theorem tf_fld243x6:tfld Tryz.prog 243 6=some (6,1,false):=by kernel_rfl
@[simp] theorem tf_fld243x7:tfld Tryz.prog 243 7=some (7,1,false):=by kernel_rfl
@[simp] theorem tf_fld243x8:tfld Tryz.prog 243 8=some (8,1,false):=by kernel_rfl
@[simp] theorem tf_fld243x9:tfld Tryz.prog 243 9=some (9,1,false):=by kernel_rfl
@[simp] theorem tf_fld243x10:tfld Tryz.prog 243 10=some (10,1,false):=by kernel_rfl
@[simp] theorem tf_fld243x11:tfld Tryz.prog 243 11=some (11,1,false):=by kernel_rfl
end Go.Proofs.YtnnhdehmlkkfjaaGreatDoor
set_option linter.unusedSimpArgs false
set_option linter.unusedSectionVars false
namespace Go.Proofs.YtnnhdehmlkkfjaaGreatDoor
open Go Go.RowKit Go.Proofs
theorem qg5(s:ByteArray)(hs:s.size<=140737488351232)(W:World):Calls Tryz.prog 110 #[.string s] W fun e w'=>e= .returned (.string (tx (low s.data.toList)))/\Frm (fun _=>False) W w':=by
 obtain⟨cap,w1,hconv,ho,hf,hw1⟩:=qcP (P:=Tryz.prog) W 9 82 5 s Tryz.underlying9 Tryz.underlying82 Tryz.underlying5 (by simp only[maxLen];omega);have HO:=Lib.hid ho;have HF:=Lib.hid hf;clear ho hf
 go_enter Tryz.func110,Tryz.ntmps110
 go_wp2
 clear hconv
 go_loopw [10] (fun i wr=>∃k:Nat,k<=s.size/\i= .int .i64 k/\OSl wr 1 (.slice (some ⟨W.heap.size,0,none⟩) s.size cap) s.size (u8s (low (s.data.toList.take k)++s.data.toList.drop k))/\Frm (fun _=>False) W wr) (fun i _=>s.size-(intOf i).toNat)
 case atStart=>exact⟨0,Nat.zero_le _,rfl,HO.out,HF.out⟩
 case round=>
  obtain⟨k,hk,rfl,ho,hf⟩:=hrel;have hb:W.heap.size<wr.heap.size:=ho.lt _ rfl;have HR:=Lib.hid ho;have HG:=Lib.hid hf;clear ho hf;by_cases hlt:k<s.size
  ·obtain⟨x,hx⟩:∃x,s.data.toList[k]? =some x:=⟨_,zqD (by rw[qad];omega)⟩
   obtain⟨hc,hz⟩:=HR.out.cellAt k x (qmn _ _ _ hx);rw[Nat.zero_add]at hc hz;have HX:=Lib.hid hx;clear hx;have hx8:x.toNat<256:=x.toNat_lt;by_cases h1:65<=x.toNat
   ·by_cases h2:x.toNat<=90
    ·go_wp2
     go_roundw
     case rel=>
      refine⟨k+1,by omega,by go_num,?_,HG.out.setNew (Nat.le_refl _) _⟩;have:=HR.out.set k hlt (.int .u8 ((lowB x).toNat:Int));rw[qfa x h1 h2,Nat.zero_add]at this;rw[<-qg6 _ _ _ HX.out,qlJ,qfa x h1 h2];rw[show(x.toNat:Int)+97-65=x.toNat+32 by omega];exact this
     case measure=>simp[intOf];omega
    ·go_wp2
     go_roundw
     case rel=>
      refine⟨k+1,by omega,by go_num,?_,HG.out⟩;rw[<-qe9 _ _ _ HX.out (qg7 x (by omega))];exact HR.out
     case measure=>simp[intOf];omega
   ·go_wp2
    go_roundw
    case rel=>
     refine⟨k+1,by omega,by go_num,?_,HG.out⟩;rw[<-qe9 _ _ _ HX.out (qg7 x (by omega))];exact HR.out
    case measure=>simp[intOf];omega
  ·obtain rfl:k=s.size:=by omega
   have hr:=HR.out.toR;rw[zqE (by rw[qad];omega),List.drop_of_length_le (by rw[qad];omega),List.append_nil]at hr;have hback:=qbL (P:=Tryz.prog) wr 82 9 5 _ _ _ _ Tryz.underlying82 Tryz.underlying5 Tryz.underlying9 hr
   go_wp2
   go_ret
   exact⟨rfl,HG.out⟩
theorem qhR(s:ByteArray)(hs:s.size<=140737488351232)(W:World):Calls Tryz.prog 128 #[.string s] W fun e w'=>e= .returned (.string (tx (low s.data.toList)))/\Frm (fun _=>False) W w':=by
 obtain⟨cap,w1,hconv,ho,hf,hw1⟩:=qcP (P:=Tryz.prog) W 9 82 5 s Tryz.underlying9 Tryz.underlying82 Tryz.underlying5 (by simp only[maxLen];omega);have HO:=Lib.hid ho;have HF:=Lib.hid hf;clear ho hf
 go_enter Tryz.func128,Tryz.ntmps128
 go_wp2
 clear hconv
 go_loopw [4] (fun i wr=>∃k:Nat,k<=s.size/\i= .int .i64 k/\OSl wr 1 (.slice (some ⟨W.heap.size,0,none⟩) s.size cap) s.size (u8s (low (s.data.toList.take k)++s.data.toList.drop k))/\Frm (fun _=>False) W wr) (fun i _=>s.size-(intOf i).toNat)
 case atStart=>exact⟨0,Nat.zero_le _,rfl,HO.out,HF.out⟩
 case round=>
  obtain⟨k,hk,rfl,ho,hf⟩:=hrel;have hb:W.heap.size<wr.heap.size:=ho.lt _ rfl;have HR:=Lib.hid ho;have HG:=Lib.hid hf;clear ho hf;by_cases hlt:k<s.size
  ·obtain⟨x,hx⟩:∃x,s.data.toList[k]? =some x:=⟨_,zqD (by rw[qad];omega)⟩
   obtain⟨hc,hz⟩:=HR.out.cellAt k x (qmn _ _ _ hx);rw[Nat.zero_add]at hc hz;have HX:=Lib.hid hx;clear hx;have hx8:x.toNat<256:=x.toNat_lt;by_cases h1:65<=x.toNat
   ·by_cases h2:x.toNat<=90
    ·go_wp2
     go_roundw
     case rel=>
      refine⟨k+1,by omega,by go_num,?_,HG.out.setNew (Nat.le_refl _) _⟩;have:=HR.out.set k hlt (.int .u8 ((lowB x).toNat:Int));rw[qfa x h1 h2,Nat.zero_add]at this;rw[<-qg6 _ _ _ HX.out,qlJ,qfa x h1 h2];exact this
     case measure=>simp[intOf];omega
    ·go_wp2
     go_roundw
     case rel=>
      refine⟨k+1,by omega,by go_num,?_,HG.out⟩;rw[<-qe9 _ _ _ HX.out (qg7 x (by omega))];exact HR.out
     case measure=>simp[intOf];omega
   ·go_wp2
    go_roundw
    case rel=>
     refine⟨k+1,by omega,by go_num,?_,HG.out⟩;rw[<-qe9 _ _ _ HX.out (qg7 x (by omega))];exact HR.out
    case measure=>simp[intOf];omega
  ·obtain rfl:k=s.size:=by omega
   have hr:=HR.out.toR;rw[zqE (by rw[qad];omega),List.drop_of_length_le (by rw[qad];omega),List.append_nil]at hr;have hback:=qbL (P:=Tryz.prog) wr 82 9 5 _ _ _ _ Tryz.underlying82 Tryz.underlying5 Tryz.underlying9 hr
   go_wp2
   go_ret
   exact⟨rfl,HG.out⟩
theorem qgi(s:ByteArray)(c:Int)(w:World):
  Calls Tryz.prog 180 #[.string s,.int .u8 c] w fun e w'=>e= .returned (.int .i64 (Lib.indexByte s.data.toList c.toNat.toUInt8))/\w'=w:=by
 go_enter Tryz.func180,Tryz.ntmps180
 go_wp2
 rw[run_callFunc_extern Tryz.func204 (by kernel_rfl) (by kernel_rfl) (by kernel_rfl) (e:=Extern.BytealgIndexByte.indexByte) (by kernel_rfl),Lib.run_indexByteString];simp only[Result.andThen];rw[Oper.upon_value]
 go_wp2
 go_ret
 exact⟨rfl,rfl⟩
theorem qbz(s:ByteArray)(c:Int)(w:World):
  Calls Tryz.prog 156 #[.string s,.int .u8 c] w fun e w'=>e= .returned (.int .i64 (Lib.indexByte s.data.toList c.toNat.toUInt8))/\w'=w:=by
 go_enter Tryz.func156,Tryz.ntmps156
 go_wp2_with (go_at_call 180;refine(qgi _ _ _).mono ?_;rintro e w' ⟨rfl,rfl⟩)
 go_ret
 exact⟨rfl,rfl⟩
def digs:List UInt8:=[48,49,50,51,52,53,54,55,56,57,97,98,99,100,101,102]
def dig(b:UInt8):Int:=Lib.indexByte digs (lowB b)
theorem qq9:∀n,n<256->(let b:=UInt8.ofNat n;-1<=dig b/\dig b<16):=by decide
theorem qnb(b:UInt8): -1<=dig b/\dig b<16:=by
 have:=qq9 b.toNat b.toNat_lt;simpa using this
def qbR(base:Int)(l:List UInt8):Bool:=l.all fun b=>decide (0<=dig b/\dig b<base)
def qcy(base:Int)(l:List UInt8):Int:=l.foldl (fun n b=>n*base+dig b) 0
theorem qeE(base:Int)(l:List UInt8)(k:Nat)(x:UInt8)(h:l[k]? =some x):qcy base (l.take (k+1))=qcy base (l.take k)*base+dig x:=by
 unfold qcy;rw[List.take_add_one,h,List.foldl_append];rfl
theorem qdI(base:Int)(l:List UInt8)(k:Nat)(x:UInt8)(h:l[k]? =some x):qbR base (l.take (k+1))=(qbR base (l.take k)&&decide (0<=dig x/\dig x<base)):=by
 unfold qbR;rw[List.take_add_one,h,List.all_append];simp
theorem qeD(base:Int)(l:List UInt8)(k:Nat)(x:UInt8)(h:l[k]? =some x)(hx:¬(0<=dig x/\dig x<base)):qbR base l=false:=by
 unfold qbR;rw[List.all_eq_false];exact⟨x,zqH h,by simpa using hx⟩
def qah(base most:Int)(l:List UInt8):Int×Int:=
 if l=[]then(0,11)else if qbR base l=false then(0,11)else if most<0\/most<qcy base l then(0,12)else(qcy base l,0)
theorem qbp(base:Int)(hb:0<=base):∀(l:List UInt8),qbR base l=true->0<=qcy base l:=by
 intro l h;unfold qcy
 have:∀(l:List UInt8) (n:Int),0<=n->qbR base l=true->0<=l.foldl (fun n b=>n*base+dig b) n:=by
  intro l
  induction l with
  |nil=>intro n hn _;exact hn
  |cons b l ih=>
   intro n hn hl;unfold qbR at hl ih;rw[List.all_cons,Bool.and_eq_true]at hl;have hb':=of_decide_eq_true hl.1;refine ih _ ?_ hl.2;have:=Int.mul_nonneg hn hb;show 0<=n*base+dig b;omega
 exact this l 0 (Int.le_refl 0) h
theorem qi4(s:ByteArray)(most:Int)(hs:s.size<=140737488351232)(hm1: -9223372036854775808<=most)(hm2:most<=9223372036854775807)(W:World):
  Calls Tryz.prog 138 #[.string s,.int .i64 most,.int .i64 16] W fun e w'=>e= .returned (.tuple #[.int .i64 (qah 16 most s.data.toList).1,.int .i64 (qah 16 most s.data.toList).2])/\Frm (fun _=>False) W w':=by
 obtain⟨q,hq⟩:=exz (most.tdiv 16)
 have hq1:0<=most->16*q<=most/\most<16*q+16:=fun h=>by
  rw[Int.tdiv_eq_ediv_of_nonneg h]at hq;omega
 have HQ1:=Lib.hid hq1;clear hq1
 go_enter Tryz.func138,Tryz.ntmps138
 by_cases he:s.data.toList=[]
 ·have hn:qah 16 most s.data.toList=(0,11):=by rw[qah,if_pos he]
  have he':s.toList.isEmpty=true:=by rw[qa2,he];rfl
  go_wp2
  go_ret2
  rw[hn];exact⟨rfl,Frm.refl _ _⟩
 ·have he':s.toList.isEmpty=false:=by rw[qa2];simpa using he
  have HE:=Lib.hid he;clear he
  go_wp2
  clear he'
  go_loopw [8,9,18] (fun n big i wr=>∃(k:Nat) (v:Int) (bg:Bool),k<=s.size/\i= .int .i64 k/\n= .int .i64 v/\big= .bool bg/\qbR 16 (s.data.toList.take k)=true/\bg=decide (most<0\/most<qcy 16 (s.data.toList.take k))/\(bg=false->v=qcy 16 (s.data.toList.take k))/\Frm (fun _=>False) W wr) (fun _ _ i _=>s.size-(intOf i).toNat)
  case atStart=>
   refine⟨0,0,decide (most<0),Nat.zero_le _,rfl,rfl,rfl,rfl,?_,fun _=>rfl,Frm.refl _ _⟩;have:qcy 16 (s.data.toList.take 0)=0:=rfl;rw[this];simp
  case round=>
   obtain⟨k,v,bg,hk,rfl,rfl,rfl,hok,hbg,hv,hf⟩:=hrel;have HF:=Lib.hid hf;have HOK:=Lib.hid hok;have hnn:=qbp 16 (by omega) _ hok;obtain⟨m,hm⟩:∃m,m=qcy 16 (s.data.toList.take k):=⟨_,rfl⟩
   rw[<-hm]at hbg hv hnn;have HM:=Lib.hid hm;clear hf hok hm;by_cases hlt:k<s.size
   ·obtain⟨x,hx⟩:∃x,s.data.toList[k]? =some x:=⟨_,zqD (by rw[qad];omega)⟩
    have HX:=Lib.hid hx;clear hx;have hstep:=qeE 16 _ _ _ HX.out;have hostep:=qdI 16 _ _ _ HX.out;rw[<-HM.out]at hstep;rw[HOK.out,Bool.true_and]at hostep;have HB:=Lib.hid hbg;have HV:=Lib.hid hv;have hx16:=qnb x;obtain⟨d,hd⟩:∃d,d=dig x:=⟨_,rfl⟩
    rw[<-hd]at hstep hostep hx16;have HS:=Lib.hid hstep;have HO:=Lib.hid hostep;clear hbg hv hstep hostep
    go_wp2_with fail
    refine(qg5 _ (Nat.le_trans (qdk _ _ _) hs) wr).mono ?_;rintro e w2 ⟨rfl,hf2⟩;have h1:tx (low (s.extract k (k+1)).data.toList)=⟨#[lowB x]⟩:=by rw[qfX s k x HX.out];rfl
    rw[h1];clear h1;have HF2:=Lib.hid (HF.out.trans hf2);clear hf2
    go_wp2_with fail
    refine(qbz _ _ w2).mono ?_;rintro e w3 ⟨rfl,rfl⟩
    have h2:Lib.indexByte (⟨#[48,49,50,51,52,53,54,55,56,57,97,98,99,100,101,102]⟩:ByteArray).data.toList ((((⟨#[lowB x]⟩:ByteArray)[0]'(by show 0<1;decide)).toNat:Int).toNat.toUInt8)=d:=by
     rw[hd];show Lib.indexByte digs (((lowB x).toNat:Int).toNat.toUInt8)=Lib.indexByte digs (lowB x);simp
    rw[h2];clear h2;have HD:=Lib.hid hd;clear hd
    have hbad:(d<0\/16<=d)->qah 16 most s.data.toList=(0,11):=fun h=>by
     rw[qah,if_neg HE.out,if_pos (qeD 16 _ _ _ HX.out (by rw[<-HD.out];omega))]
    have HBad:=Lib.hid hbad;clear hbad;by_cases hd0:d<0
    ·go_wp2
     go_ret2
     rw[HBad.out (.inl hd0)];exact⟨rfl,HF2.out⟩
    ·by_cases hd1:16<=d
     ·go_wp2
      go_ret2
      rw[HBad.out (.inr hd1)];exact⟨rfl,HF2.out⟩
     ·have HOK':Hid (qbR 16 (s.data.toList.take (k+1))=true):=HO.out.trans (decide_eq_true ⟨by omega,by omega⟩);cases bg with
      |true=>
       go_wp2
       go_roundw
       case rel=>
        refine⟨k+1,v,true,by omega,by go_num,rfl,rfl,HOK'.out,?_,(fun h=>by cases h),HF2.out⟩;have h1:=of_decide_eq_true HB.out.symm;rw[HS.out];exact(decide_eq_true (by omega)).symm
       case measure=>simp[intOf];omega
      |false=>
       have hv:=HV.out rfl;subst hv;have h1:=of_decide_eq_false HB.out.symm;have h1a:0<=most:=by omega
       have h1b:v<=most:=by omega
       have h1c:=(HQ1.out h1a).1;have h1d:=(HQ1.out h1a).2;clear h1;by_cases hA:q<v
       ·go_wp2
        go_roundw
        case rel=>
         refine⟨k+1,v,true,by omega,by go_num,rfl,rfl,HOK'.out,?_,(fun h=>by cases h),HF2.out⟩;rw[HS.out];exact(decide_eq_true (by omega)).symm
        case measure=>simp[intOf];omega
       ·by_cases hB:most-d<v*16
        ·go_wp2
         go_roundw
         case rel=>
          refine⟨k+1,v,true,by omega,by go_num,rfl,rfl,HOK'.out,?_,(fun h=>by cases h),HF2.out⟩;rw[HS.out];exact(decide_eq_true (by omega)).symm
         case measure=>simp[intOf];omega
        ·go_wp2
         go_roundw
         case rel=>
          refine⟨k+1,v*16+d,false,by omega,by go_num,by go_num,rfl,HOK'.out,?_,(fun _=>HS.out.symm),HF2.out⟩;rw[HS.out];exact(decide_eq_false (by omega)).symm
         case measure=>simp[intOf];omega
   ·obtain rfl:k=s.size:=by omega
    have ht:s.data.toList.take s.size=s.data.toList:=zqE (by rw[qad];omega);have hok:=HOK.out;have hm:=HM.out;rw[ht]at hok hm
    have HN:Hid (qah 16 most s.data.toList=if most<0\/most<m then(0,12)else(m,0)):=by
     show qah 16 most s.data.toList=_;rw[qah,if_neg HE.out,if_neg (by rw[hok];decide),<-hm]
    clear hok hm ht;cases bg with
    |true=>
     have h1:=of_decide_eq_true hbg.symm;rw[if_pos h1]at HN;clear hbg hv h1
     go_wp2
     go_ret2
     rw[HN.out];exact⟨rfl,HF.out⟩
    |false=>
     have h1:=of_decide_eq_false hbg.symm;have hv':=hv rfl;subst hv';rw[if_neg h1]at HN;clear hbg hv h1
     go_wp2
     go_ret2
     rw[HN.out];exact⟨rfl,HF.out⟩
def qdg(b:UInt8):Bool:=decide (48<=b.toNat/\b.toNat<=57)
def qcF(b:UInt8):Bool:=qdg b||decide (65<=b.toNat/\b.toNat<=70)||decide (97<=b.toNat/\b.toNat<=102)
theorem qq8:∀n,n<256->(qcF (UInt8.ofNat n)=decide (0<=dig (UInt8.ofNat n)/\dig (UInt8.ofNat n)<16)):=by decide
def val(b:UInt8):Int:=if qdg b then(b.toNat:Int)-48 else if 97<=b.toNat then(b.toNat:Int)-97+10 else(b.toNat:Int)-65+10
theorem qgU(b:UInt8):UInt8.ofNat b.toNat=b:=by simp
theorem qmF(b:UInt8):qcF b=decide (0<=dig b/\dig b<16):=by have:=qq8 b.toNat b.toNat_lt;rwa[qgU]at this
theorem hex_ok(s:ByteArray)(most:Int)(hs:s.size<=140737488351232)(hm1: -9223372036854775808<=most)(hm2:most<=9223372036854775807)(W:World):
  Calls Tryz.prog 237 #[.string s,.int .i64 most] W fun e w'=>e= .returned (.tuple #[.int .i64 (qah 16 most s.data.toList).1,.int .i64 (qah 16 most s.data.toList).2])/\Frm (fun _=>False) W w':=by
 go_enter Tryz.func237,Tryz.ntmps237
 go_wp2_with fail
 refine(qi4 s most hs hm1 hm2 W).mono ?_;rintro e w1 ⟨rfl,hf⟩
 go_wp2
 go_ret2
 exact⟨rfl,hf⟩
def signTab:List Int:=[0,67071226,3355443198,1476395007]
def qgn(w:World):Prop:=∀j z,signTab[j]? =some z->w.cell? ⟨0,j,none⟩=some (.int .u32 z)
def qaj(b:UInt8):Bool:=decide (b.toNat<128)&&decide ((signTab.getD (b.toNat/32) 0).toNat>>>(b.toNat%32)%2=1)
theorem qos:∀n,n<128->(bits .and .u32 (signTab.getD (n/32) 0/2^(n%32)) 1==1)=qaj (UInt8.ofNat n):=by decide
theorem qgV(b:UInt8)(j:Nat)(z:Int)(h:b.toNat<128)(hj:b.toNat/32=j)(hz:signTab.getD j 0=z):(bits .and .u32 (z/2^(b.toNat%32)) 1==1)=qaj b:=by
 have:=qos b.toNat h;rw[qgU,hj,hz]at this;exact this
theorem qib(b:UInt8)(W:World)(hS:qgn W):Calls Tryz.prog 62 #[.int .u8 b.toNat] W fun e w'=>e= .returned (.bool (qaj b))/\w'=W:=by
 have hb:=b.toNat_lt;by_cases h1:b.toNat<128
 ·by_cases h2:b.toNat<32
  ·have hq:(b.toNat:Int).tdiv 32=0:=by rw[Int.tdiv_eq_ediv_of_nonneg (by omega)];omega
   have hc:=hS 0 0 rfl
   go_enter Tryz.func62,Tryz.ntmps62
   go_wp2
   go_ret
   exact⟨congrArg (fun x=>Ending.returned (.bool x)) (by have:=qgV b 0 0 h1 (by omega) rfl;rw[Int.zero_ediv]at this;exact this),rfl⟩
  ·by_cases h3:b.toNat<64
   ·have hq:(b.toNat:Int).tdiv 32=1:=by rw[Int.tdiv_eq_ediv_of_nonneg (by omega)];omega
    have hc:=hS 1 67071226 rfl
    go_enter Tryz.func62,Tryz.ntmps62
    go_wp2
    go_ret
    exact⟨congrArg (fun x=>Ending.returned (.bool x)) (qgV b 1 67071226 h1 (by omega) rfl),rfl⟩
   ·by_cases h4:b.toNat<96
    ·have hq:(b.toNat:Int).tdiv 32=2:=by rw[Int.tdiv_eq_ediv_of_nonneg (by omega)];omega
     have hc:=hS 2 3355443198 rfl
     go_enter Tryz.func62,Tryz.ntmps62
     go_wp2
     go_ret
     exact⟨congrArg (fun x=>Ending.returned (.bool x)) (qgV b 2 3355443198 h1 (by omega) rfl),rfl⟩
    ·have hq:(b.toNat:Int).tdiv 32=3:=by rw[Int.tdiv_eq_ediv_of_nonneg (by omega)];omega
     have hc:=hS 3 1476395007 rfl
     go_enter Tryz.func62,Tryz.ntmps62
     go_wp2
     go_ret
     exact⟨congrArg (fun x=>Ending.returned (.bool x)) (qgV b 3 1476395007 h1 (by omega) rfl),rfl⟩
 ·go_enter Tryz.func62,Tryz.ntmps62
  go_wp2
  go_ret
  refine⟨?_,rfl⟩;have:qaj b=false:=by simp[qaj,h1]
  rw[this];rfl
def tokB(l:List UInt8):Bool:=l.all qaj&&!l.isEmpty
theorem qbJ(p:UInt8->Bool)(l:List UInt8)(k:Nat)(x:UInt8)(h:l[k]? =some x):(l.take (k+1)).all p=((l.take k).all p&&p x):=by
 rw[List.take_add_one,h,List.all_append];simp
theorem qdN(p:UInt8->Bool)(l:List UInt8)(k:Nat)(x:UInt8)(h:l[k]? =some x)(hp:p x=false):l.all p=false:=by
 rw[List.all_eq_false];exact⟨x,zqH h,by rw[hp];simp⟩
theorem qkX(s:ByteArray)(hs:s.size<=140737488351232)(W:World)(hS:qgn W):Calls Tryz.prog 41 #[.string s] W fun e w'=>e= .returned (.bool (tokB s.data.toList))/\w'=W:=by
 have HS:=Lib.hid hS;clear hS
 go_enter Tryz.func41,Tryz.ntmps41
 go_wp2
 go_loopw [6] (fun i wr=>∃k:Nat,k<=s.size/\i= .int .i64 k/\(s.data.toList.take k).all qaj=true/\wr=W) (fun i _=>s.size-(intOf i).toNat)
 case atStart=>exact⟨0,Nat.zero_le _,rfl,rfl,rfl⟩
 case round=>
  obtain⟨k,hk,rfl,hok,rfl⟩:=hrel;have HOK:=Lib.hid hok;clear hok;by_cases hlt:k<s.size
  ·obtain⟨x,hx⟩:∃x,s.data.toList[k]? =some x:=⟨_,zqD (by rw[qad];omega)⟩
   have hxb:s[k]'hlt=x:=qlg s k x hx hlt;have hst:=qbJ qaj _ _ _ hx;rw[HOK.out,Bool.true_and]at hst;have HST:=Lib.hid hst;have HX:=Lib.hid hx;clear hx hst
   go_wp2_with fail
   refine(qib x wr HS.out).mono ?_;rintro e w' ⟨rfl,rfl⟩;cases hp:qaj x
   ·have HN:Hid (tokB s.data.toList=false):=by
     show _=_;rw[tokB,qdN qaj _ _ _ HX.out hp];rfl
    clear hp
    go_wp2
    go_ret
    exact⟨by rw[HN.out];rfl,rfl⟩
   ·have HO2:=Lib.hid (HST.out.trans hp);clear hp
    go_wp2
    go_roundw
    case rel=>exact⟨k+1,by omega,by go_num,HO2.out,by trivial⟩
    case measure=>simp[intOf];omega
  ·obtain rfl:k=s.size:=by omega
   have hall:=HOK.out;rw[zqE (by rw[qad];omega)]at hall
   have HN:Hid (tokB s.data.toList=!s.data.toList.isEmpty):=by
    show _=_;rw[tokB,hall,Bool.true_and]
   clear hall HOK
   go_wp2
   go_ret
   refine⟨?_,rfl⟩;rw[HN.out,<-qa2];rfl
end Go.Proofs.YtnnhdehmlkkfjaaGreatDoor
namespace Go.Proofs.YtnnhdehmlkkfjaaGreatDoor
def fcB(b:UInt8):Bool:=b==9||(decide (32<=b.toNat)&&b !=127)
def qag(b:UInt8):Bool:=b==32||b==9
def fldB(l:List UInt8):Bool:=l.all fcB
def unq:List UInt8->Option (List UInt8×Nat)
 |[]=>none
 |c::r=>if c=34 then some ([],1)else if c=92 then(match r with
   |[]=>none
   |d::r'=>if fcB d then(unq r').map fun p=>(d::p.1,p.2+2)else none)
  else if fcB c then(unq r).map fun p=>(c::p.1,p.2+1)else none
def unquote(s:List UInt8):Option (List UInt8×Nat):=match s with
 |[]=>none
 |c::r=>if c=34 then(unq r).map fun p=>(p.1,p.2+1)else none
def escB(c:UInt8):List UInt8:=if c=34\/c=92 then [92,c]else [c]
def esc(s:List UInt8):List UInt8:=s.flatMap escB
def quoted(s:List UInt8):List UInt8:=34::(esc s++[34])
theorem qlH:∀(n:Nat) (s l:List UInt8) (k:Nat),s.length<=n->unq s=some (l,k)->1<=k/\k<=s.length/\l.length+1<=k
 |n,[],l,k,_,h=>by simp[unq]at h
 |0,c::r,l,k,hn,h=>by simp at hn
 |n+1,c::r,l,k,hn,h=>by
  simp only[zqL]at hn;unfold unq at h;split at h
  ·simp at h;obtain⟨rfl,rfl⟩:=h;simp
  ·split at h
   ·cases r with
    |nil=>simp at h
    |cons d r'=>
     simp only[zqL]at hn;simp only at h;split at h
     ·cases hu:unq r' with
      |none=>simp[hu]at h
      |some p=>
       simp[hu]at h;obtain⟨rfl,rfl⟩:=h;have:=qlH n r' p.1 p.2 (by omega) hu;simp only[zqL];omega
     ·cases h
   ·split at h
    ·cases hu:unq r with
     |none=>simp[hu]at h
     |some p=>
      simp[hu]at h;obtain⟨rfl,rfl⟩:=h;have:=qlH n r p.1 p.2 (by omega) hu;simp only[zqL];omega
    ·cases h
theorem qby{s l:List UInt8}{k:Nat}(h:unquote s=some (l,k)):2<=k/\k<=s.length/\l.length+2<=k:=by
 unfold unquote at h;split at h
 ·cases h
 ·rename_i c r;split at h
  ·cases hu:unq r with
   |none=>simp[hu]at h
   |some p=>
    simp[hu]at h;obtain⟨rfl,rfl⟩:=h;have:=qlH _ r p.1 p.2 (Nat.le_refl _) hu;simp only[zqL];omega
  ·cases h
def qaL(l:List UInt8):List UInt8:=Go.Lib.trimS l [32,9]
def cut(acc:List UInt8)(s:List UInt8):Option (List (List UInt8)):=match s with
 |[]=>some [acc]
 |c::r=>if c=44 then(cut [] r).map (acc::·)else if c=34 then(match unquote (c::r)with
   |none=>none
   |some p=>cut (acc++(c::r).take p.2) (r.drop (p.2-1)))
  else cut (acc++[c]) r
termination_by s.length
decreasing_by all_goals (simp only[zqL,zqI];omega)
def qbA(l:List (List UInt8)):List (List UInt8):=(l.map qaL).filter fun x=>!x.isEmpty
def qc8(s:List UInt8):Option (List (List UInt8)):=(cut [] s).map qbA
theorem qjm(acc:List UInt8):cut acc []=some [acc]:=by rw[cut]
theorem qf2(acc r:List UInt8):cut acc (44::r)=(cut [] r).map (acc::·):=by rw[cut];simp
theorem qf0(acc r:List UInt8)(c:UInt8)(h1:c≠44)(h2:c≠34):cut acc (c::r)=cut (acc++[c]) r:=by rw[cut,if_neg h1,if_neg h2]
theorem qjn(acc r:List UInt8)(h:unquote (34::r)=none):cut acc (34::r)=none:=by rw[cut];simp[h]
theorem qfZ(acc r l:List UInt8)(k:Nat)(h:unquote (34::r)=some (l,k)):cut acc (34::r)=cut (acc++(34::r).take k) ((34::r).drop k):=by
 rw[cut];have:=(qby h).1;simp only[h];rw[if_neg (by decide),if_pos trivial];congr 1;obtain⟨j,rfl⟩:∃j,k=j+1:=⟨k-1,by omega⟩
 simp
theorem qmD(a b:List (List UInt8)):qbA (a++b)=qbA a++qbA b:=by simp[qbA]
theorem qiL(c:UInt8)(hc:qag c=true)(l:List UInt8):qaL (c::l)=qaL l:=by
 have hcs:[32,9].contains c=true:=by
  unfold qag at hc;simpa using hc
 unfold qaL Go.Lib.trimS Go.Lib.trimLeftS Go.Lib.trimRightS;rw[List.reverse_cons]
 generalize hr:l.reverse=r
 have:∀r:List UInt8,(((r++[c]).dropWhile ([32,9].contains ·)).reverse).dropWhile ([32,9].contains ·)=((r.dropWhile ([32,9].contains ·)).reverse).dropWhile ([32,9].contains ·):=by
  intro r
  induction r with
  |nil=>rw[List.nil_append,List.dropWhile_cons_of_pos hcs]
  |cons d r ih=>
   rw[List.cons_append];by_cases hd:[32,9].contains d=true
   ·rw[List.dropWhile_cons_of_pos hd,List.dropWhile_cons_of_pos hd];exact ih
   ·rw[List.dropWhile_cons_of_neg hd,List.dropWhile_cons_of_neg hd,<-List.cons_append,List.reverse_append,List.reverse_singleton,List.singleton_append,List.dropWhile_cons_of_pos hcs]
 exact this r
end Go.Proofs.YtnnhdehmlkkfjaaGreatDoor
namespace Go.Proofs.YtnnhdehmlkkfjaaGreatDoor
structure Par where
 name:List UInt8
 value:List UInt8
 has:Bool
deriving DecidableEq
def run(p:UInt8->Bool)(l:List UInt8):Nat:=(l.takeWhile p).length
theorem qbQ(p:UInt8->Bool)(l:List UInt8):run p l<=l.length:=by
 unfold run
 induction l with
 |nil=>simp
 |cons a l ih=>rw[List.takeWhile_cons];split<;>simp<;>omega
theorem qqy(p:UInt8->Bool)(l x:List UInt8)(h:l.all p=true)(hx:∀c,x.head? =some c->p c=false):run p (l++x)=l.length:=by
 unfold run
 induction l with
 |nil=>
  cases x with
  |nil=>rfl
  |cons c x=>rw[List.nil_append,List.takeWhile_cons,hx c rfl];rfl
 |cons a l ih=>
  rw[List.all_cons,Bool.and_eq_true]at h;rw[List.cons_append,List.takeWhile_cons,h.1];simp[ih h.2]
theorem qdp(p:UInt8->Bool)(l:List UInt8)(n:Nat)(h:(l.take n).all p=true)(hn:n<=l.length)(hs:∀c,l[n]? =some c->p c=false):run p l=n:=by
 have:=qqy p (l.take n) (l.drop n) h (fun c hc=>hs c (by rw[List.head?_drop]at hc;exact hc));rw[List.take_append_drop]at this;rw[this,zqJ];omega
section
variable (sg:UInt8->Bool)
def tokP(l:List UInt8):Bool:=l.all sg&&!l.isEmpty
def pval(v:List UInt8):Option (List UInt8×Nat):=if 0<run sg v then some (v.take (run sg v),run sg v)else unquote v
def pars(s:List UInt8):Option (List Par×Nat):=match h:s.drop (run qag s)with
 |[]=>some ([],0)
 |c::q=>if c≠59 then some ([],0)else
   if run sg (q.drop (run qag q))=0 then(pars q).map fun p=>(p.1,p.2+(run qag s+1))else
   match(q.drop (run qag q)).drop (run sg (q.drop (run qag q)))with
   |[]=>some ([⟨(q.drop (run qag q)).take (run sg (q.drop (run qag q))),[],false⟩],run qag s+1+run qag q+run sg (q.drop (run qag q)))
   |d::v=>if d=61 then(match pval sg v with
     |none=>none
     |some x=>(pars (q.drop (run qag q+run sg (q.drop (run qag q))+1+x.2))).map fun p=>(⟨(q.drop (run qag q)).take (run sg (q.drop (run qag q))),x.1,true⟩::p.1,p.2+(run qag s+1+run qag q+run sg (q.drop (run qag q))+1+x.2)))
    else(pars (q.drop (run qag q+run sg (q.drop (run qag q))))).map fun p=>(⟨(q.drop (run qag q)).take (run sg (q.drop (run qag q))),[],false⟩::p.1,p.2+(run qag s+1+run qag q+run sg (q.drop (run qag q))))
termination_by s.length
decreasing_by all_goals (have hl:=congrArg List.length h;simp only[zqI,zqL]at hl⊢;omega)
theorem qe8(s:List UInt8)(h:s[run qag s]? ≠some 59):pars sg s=some ([],0):=by
 rw[pars];split
 ·rfl
 ·rename_i c q hq;have:s[run qag s]? =some c:=by rw[<-List.head?_drop,hq];rfl
  rw[if_pos (fun e=>h (by rw[this,e]))]
variable (s:List UInt8)(b m n:Nat)(hb:run qag s=b)(h0:s[b]? =some 59)(hm:run qag (s.drop (b+1))=m)(hn:run sg (s.drop (b+1+m))=n)
theorem drop59(h0:s[b]? =some 59):s.drop b=59::s.drop (b+1):=by
 have hlt:=(zqC.1 h0).1;rw[List.drop_eq_getElem_cons hlt,(zqC.1 h0).2]
include hb h0 hm hn in
theorem qhX(h:n=0):pars sg s=(pars sg (s.drop (b+1))).map fun p=>(p.1,p.2+(b+1)):=by
 subst hb hm;rw[pars];have h1:=drop59 s _ h0;split
 ·rename_i hq;rw[h1]at hq;cases hq
 ·rename_i c q hq;rw[h1]at hq;cases hq;rw[if_neg (by decide),List.drop_drop,hn,if_pos h]
include hb h0 hm hn in
theorem qgv(h:n≠0)(he:s[b+1+m+n]? ≠some 61):pars sg s=(pars sg (s.drop (b+1+m+n))).map fun p=>(⟨(s.drop (b+1+m)).take n,[],false⟩::p.1,p.2+(b+1+m+n)):=by
 subst hb hm;rw[pars];have h1:=drop59 s _ h0;split
 ·rename_i hq;rw[h1]at hq;cases hq
 ·rename_i c q hq;rw[h1]at hq;cases hq;rw[if_neg (by decide),List.drop_drop,hn,if_neg h,List.drop_drop];split
  ·rename_i hd;rw[hd,qe8 sg [] (by simp)];simp
  ·rename_i d v hd;have:s[run qag s+1+run qag (s.drop (run qag s+1))+n]? =some d:=by rw[<-List.head?_drop,hd];rfl
   rw[if_neg (fun e=>he (by rw[this,e]))];rw[List.drop_drop];congr 2;rw[Nat.add_assoc,Nat.add_assoc,Nat.add_assoc]
include hb h0 hm hn in
theorem qjU(h:n≠0)(he:s[b+1+m+n]? =some 61)(hv:pval sg (s.drop (b+1+m+n+1))=none):pars sg s=none:=by
 subst hb hm;rw[pars];have h1:=drop59 s _ h0;split
 ·rename_i hq;rw[h1]at hq;cases hq
 ·rename_i c q hq;rw[h1]at hq;cases hq;rw[if_neg (by decide),List.drop_drop,hn,if_neg h,List.drop_drop];split
  ·rename_i hd;rw[<-List.head?_drop,hd]at he;cases he
  ·rename_i d v hd;have hlt:=(zqC.1 he).1;rw[List.drop_eq_getElem_cons hlt,(zqC.1 he).2]at hd;cases hd;rw[if_pos rfl,hv]
include hb h0 hm hn in
theorem qgu(h:n≠0)(he:s[b+1+m+n]? =some 61){x:List UInt8}{k:Nat}(hv:pval sg (s.drop (b+1+m+n+1))=some (x,k)):
  pars sg s=(pars sg (s.drop (b+1+m+n+1+k))).map fun p=>(⟨(s.drop (b+1+m)).take n,x,true⟩::p.1,p.2+(b+1+m+n+1+k)):=by
 subst hb hm;rw[pars];have h1:=drop59 s _ h0;split
 ·rename_i hq;rw[h1]at hq;cases hq
 ·rename_i c q hq;rw[h1]at hq;cases hq;rw[if_neg (by decide),List.drop_drop,hn,if_neg h,List.drop_drop];split
  ·rename_i hd;rw[<-List.head?_drop,hd]at he;cases he
  ·rename_i d v hd;have hlt:=(zqC.1 he).1;rw[List.drop_eq_getElem_cons hlt,(zqC.1 he).2]at hd;cases hd;rw[if_pos rfl,hv];simp only;rw[List.drop_drop];congr 3;omega
end
section
variable (sg:UInt8->Bool)
def qd9(p:Par):Bool:=tokP sg p.name&&fldB p.value&&(p.has||p.value.isEmpty)
def prtV(v:List UInt8):List UInt8:=if tokP sg v=true then v else quoted v
def prt1(p:Par):List UInt8:=59::32::(p.name++if p.has then 61::prtV sg p.value else [])
def prt(l:List Par):List UInt8:=l.flatMap (prt1 sg)
end
end Go.Proofs.YtnnhdehmlkkfjaaGreatDoor
namespace Go.Proofs.YtnnhdehmlkkfjaaGreatDoor
open Go Go.RowKit Go.Proofs
section
variable {w:World}{β:Nat->Nat}{Rd:Nat->Nat->Prop}
theorem args1{x:AV}{cargs:Array Value}(hsz:cargs.size=1)(h:∀(t:Nat) y u,[x][t]? =some y->cargs[t]? =some u->Rel w β Rd y u):∃u,cargs= #[u]/\Rel w β Rd x u:=by
 match cargs,hsz with
 |⟨[u]⟩,_=>exact⟨u,rfl,h 0 x u rfl rfl⟩
theorem args2{x y:AV}{cargs:Array Value}(hsz:cargs.size=2)(h:∀(t:Nat) z u,[x,y][t]? =some z->cargs[t]? =some u->Rel w β Rd z u):∃u v,cargs= #[u,v]/\Rel w β Rd x u/\Rel w β Rd y v:=by
 match cargs,hsz with
 |⟨[u,v]⟩,_=>exact⟨u,v,rfl,h 0 x u rfl rfl,h 1 y v rfl rfl⟩
theorem qjQ{k1 k2:IntKind}{a b:Int}:Rel w β Rd (.tup [.int k1 a,.int k2 b]) (.tuple #[.int k1 a,.int k2 b]):=by
 refine .tup _ _ rfl (by simp[AV.free]) (fun j x u hx hu=>?_)
 match j with
 |0=>simp at hx hu;subst hx;subst hu;exact .int _ _
 |1=>simp at hx hu;subst hx;subst hu;exact .int _ _
 |j+2=>simp at hx
theorem qc5(l:List UInt8)(h:l.length<=maxLen):Rel w β Rd (.str l) (.string (tx l)):= .str _ _ rfl (by rw[qiI];exact h)
end
def SE(E:Env):Prop:=E.Fix 0/\qgn E.w0
theorem SE.signs{E:Env}(h:SE E){w:World}(hw:∀b,E.Fix b->w.heap[b]? =E.w0.heap[b]?):qgn w:=fun j z hj=>by
 rw[World.cell?_of_block (a:=⟨0,j,none⟩) (hw _ h.1)];exact h.2 j z hj
def cap:Nat:=140737488351232
theorem qga{n:Nat}(h:n<=cap):n<=maxLen:=by simp only[cap]at h;simp only[maxLen];omega
section
variable (E:Env)(H:Hp)(Q:AV->Hp->Prop)
theorem qia(hE:SE E)(b:UInt8)(hQ:Q (.bool (qaj b)) H):PC Tryz.prog E 62 [.int .u8 (b.toNat:Int)] H Q:=by
 refine qao (v:= .bool (qaj b)) (by kernel_rfl) qgn (fun w hw=>hE.signs hw) (fun w β Rd cargs hS hsz hargs=>?_) (.bool _) rfl hQ;obtain⟨u,rfl,hu⟩:=args1 hsz hargs;obtain rfl:=qas hu;refine(qib b w hS).mono ?_;rintro e w' ⟨rfl,rfl⟩;exact⟨_,rfl,Frm.refl _ _,.bool _⟩
theorem qbr(hE:SE E)(l:List UInt8)(hl:l.length<=cap)(hQ:Q (.bool (tokB l)) H):PC Tryz.prog E 41 [.str l] H Q:=by
 refine qao (v:= .bool (tokB l)) (by kernel_rfl) qgn (fun w hw=>hE.signs hw) (fun w β Rd cargs hS hsz hargs=>?_) (.bool _) rfl hQ;obtain⟨u,rfl,hu⟩:=args1 hsz hargs;obtain⟨s,rfl,rfl,hs⟩:=qaq hu;refine(qkX s (by rw[<-qad];exact hl) w hS).mono ?_;rintro e w' ⟨rfl,rfl⟩;exact⟨_,rfl,Frm.refl _ _,.bool _⟩
theorem qbn(l:List UInt8)(hl:l.length<=cap)(hQ:Q (.str (low l)) H):PC Tryz.prog E 110 [.str l] H Q:=by
 refine qao (v:= .str (low l)) (by kernel_rfl) (fun _=>True) (fun w hw=>trivial) (fun w β Rd cargs hS hsz hargs=>?_) (.str _) rfl hQ;obtain⟨u,rfl,hu⟩:=args1 hsz hargs;obtain⟨s,rfl,rfl,hs⟩:=qaq hu;refine(qg5 s (by rw[<-qad];exact hl) w).mono ?_;rintro e w' ⟨rfl,hf⟩;exact⟨_,rfl,hf,qc5 _ (qga (by rw[qaF];exact hl))⟩
theorem qcf(l:List UInt8)(hl:l.length<=cap)(hQ:Q (.str (low l)) H):PC Tryz.prog E 128 [.str l] H Q:=by
 refine qao (v:= .str (low l)) (by kernel_rfl) (fun _=>True) (fun w hw=>trivial) (fun w β Rd cargs hS hsz hargs=>?_) (.str _) rfl hQ;obtain⟨u,rfl,hu⟩:=args1 hsz hargs;obtain⟨s,rfl,rfl,hs⟩:=qaq hu;refine(qhR s (by rw[<-qad];exact hl) w).mono ?_;rintro e w' ⟨rfl,hf⟩;exact⟨_,rfl,hf,qc5 _ (qga (by rw[qaF];exact hl))⟩
end
abbrev Bld(B b:Nat)(bs:List Value)(w:World):Prop:=Lib.IsBuilderF 120 5 B b bs w
theorem qbU(B b:Nat)(bs:List Value)(c:Int)(w:World)(h:Bld B b bs w)(hlen:bs.length+1<=140737488355328)(hB:B<=w.heap.size):
  Calls Tryz.prog 179 #[.pointer (some ⟨b,0,none⟩),.int .u8 c] w fun e w'=>e= .returned .nilIface/\Bld B b (bs++[.int .u8 c]) w'/\Below B w w'/\B<=w'.heap.size:=by
 refine(Any.Builder_WriteByte_k lays167 lextra B b bs c w h hlen hB).mono ?_;rintro e w' ⟨rfl,h1,h2,h3⟩;exact⟨rfl,.inr h1,h2,Nat.le_trans hB h2.size⟩
theorem qkn(B b:Nat)(l:List UInt8)(w:World)(h:Bld B b (Lib.byteCells l) w)(hB:B<=w.heap.size):
  Calls Tryz.prog 75 #[.pointer (some ⟨b,0,none⟩)] w fun e w'=>e= .returned (.string (tx l))/\Below B w w':=by
 refine(Any.Builder_String_any_k lays169 lextra B b l w h hB).mono ?_;rintro e w' ⟨rfl,h1,h2,h3⟩;exact⟨rfl,h2⟩
theorem qbc{w w':World}(h:Below w.heap.size w w'):Frm (fun _=>False) w w':=⟨h.os,h.tape,h.output,h.size,fun k hk _=>h.block k hk⟩
theorem qfW(b:UInt8):fcB b=(decide (b.toNat=9)||(decide (32<=b.toNat)&&decide (b.toNat≠127))):=by
 have e1:(b==9)=decide (b.toNat=9):=by rw[Bool.eq_iff_iff];simp[<-UInt8.toNat_inj]
 have e2:(b !=127)=decide (b.toNat≠127):=by rw[Bool.eq_iff_iff];simp[<-UInt8.toNat_inj]
 rw[fcB,e1,e2]
theorem qbI(b:UInt8)(W:World):Calls Tryz.prog 153 #[.int .u8 b.toNat] W fun e w'=>e= .returned (.bool (fcB b))/\w'=W:=by
 have hb:=b.toNat_lt;by_cases h1:b.toNat=9
 ·have e:fcB b=true:=by rw[qfW];simp[h1]
  rw[e]
  go_enter Tryz.func153,Tryz.ntmps153
  go_wp2
  go_ret
  exact⟨rfl,rfl⟩
 ·by_cases h2:32<=b.toNat
  ·by_cases h3:b.toNat=127
   ·have e:fcB b=false:=by rw[qfW];simp[h3]
    rw[e]
    go_enter Tryz.func153,Tryz.ntmps153
    go_wp2
    go_ret
    exact⟨rfl,rfl⟩
   ·have e:fcB b=true:=by rw[qfW];simp[h2,h3]
    rw[e];have n9:((b.toNat:Int)==9)=false:=by simp;omega
    have n127:((b.toNat:Int) !=127)=true:=by simp;omega
    go_enter Tryz.func153,Tryz.ntmps153
    go_wp2
    go_ret
    exact⟨rfl,rfl⟩
  ·have e:fcB b=false:=by rw[qfW];simp[h1,h2]
   rw[e];have n9:((b.toNat:Int)==9)=false:=by simp;omega
   go_enter Tryz.func153,Tryz.ntmps153
   go_wp2
   go_ret
   exact⟨rfl,rfl⟩
theorem qgG(s:ByteArray)(hs:s.size<=140737488351232)(W:World):Calls Tryz.prog 134 #[.string s] W fun e w'=>e= .returned (.bool (fldB s.data.toList))/\w'=W:=by
 go_enter Tryz.func134,Tryz.ntmps134
 go_wp2
 go_loopw [6] (fun i wr=>wr=W/\∃k:Nat,k<=s.size/\i= .int .i64 k/\fldB (s.data.toList.take k)=true) (fun i _=>s.size-(intOf i).toNat)
 case atStart=>exact⟨rfl,0,Nat.zero_le _,rfl,rfl⟩
 case round=>
  obtain⟨rfl,k,hk,rfl,hall⟩:=hrel;have HA:=Lib.hid hall;clear hall;by_cases hlt:k<s.size
  ·obtain⟨x,hx⟩:∃x,s.data.toList[k]? =some x:=⟨_,zqD (by rw[qad];omega)⟩
   have hx':s[k]'hlt=x:=by
    have:s.data.toList[k]? =some (s[k]'hlt):=by simp[ByteArray.getElem_eq_getElem_data,hlt]
    rw[this]at hx;exact Option.some.inj hx
   cases hf:fcB x
   ·go_wp2_with (go_at_call 153;refine(qbI x _).mono ?_;rw[hf];rintro e w' ⟨rfl,rfl⟩)
    go_ret
    exact⟨by rw[show fldB s.data.toList=false from qdN fcB _ k x hx hf];rfl,rfl⟩
   ·go_wp2_with (go_at_call 153;refine(qbI x _).mono ?_;rw[hf];rintro e w' ⟨rfl,rfl⟩)
    go_roundw
    case rel=>exact⟨by trivial,k+1,by omega,by go_num,by unfold fldB;rw[qbJ fcB _ k x hx];have:=HA.out;unfold fldB at this;rw[this,hf];rfl⟩
    case measure=>simp[intOf];omega
  ·obtain rfl:k=s.size:=by omega
   have ha:=HA.out;rw[zqE (by rw[qad];omega)]at ha
   go_wp2
   go_ret
   exact⟨by rw[ha];rfl,rfl⟩
theorem qpd(l:List UInt8)(k:Nat)(x:UInt8)(h:l[k]? =some x):esc (l.take (k+1))=esc (l.take k)++escB x:=by
 rw[List.take_add_one,h];simp[esc]
theorem qpX(l:List UInt8):(esc l).length<=2*l.length:=by
 induction l with
 |nil=>simp[esc]
 |cons c l ih=>
  have e:esc (c::l)=escB c++esc l:=by simp[esc]
  rw[e,zqK];have:(escB c).length<=2:=by unfold escB;split<;>simp
  simp only[zqL];omega
theorem bcells(l:List UInt8)(c:UInt8):Lib.byteCells l++[.int .u8 (c.toNat:Int)]=Lib.byteCells (l++[c]):=by simp[Lib.byteCells]
def qbe(l:List UInt8):List UInt8×Int:=if fldB l=true then(quoted l,0)else([],13)
theorem qoB(s:ByteArray)(hs:s.size<=35184372088832)(W:World):Calls Tryz.prog 157 #[.string s] W fun e w'=>e= .returned (.tuple #[.string (tx (qbe s.data.toList).1),.int .i64 (qbe s.data.toList).2])/\Frm (fun _=>False) W w':=by
 have HI:Calls Tryz.prog 134 #[.string s] W fun e w'=>e= .returned (.bool (fldB s.data.toList))/\W=w':=(qgG s (by omega) W).mono fun e w' ⟨h1,h2⟩=>⟨h1,h2.symm⟩
 cases hF:fldB s.data.toList with
 |false=>
  rw[hF]at HI;have hq:qbe s.data.toList=([],13):=by rw[qbe,if_neg (by rw[hF];simp)]
  rw[hq]
  go_enter Tryz.func157,Tryz.ntmps157
  go_wp2_with (go_at_call 134;refine HI.mono ?_;rintro e w1 ⟨rfl,rfl⟩)
  go_ret2
  exact⟨rfl,Frm.refl _ _⟩
 |true=>
  rw[hF]at HI;have hq:qbe s.data.toList=(quoted s.data.toList,0):=by rw[qbe,if_pos hF]
  rw[hq];have HQ:=Lib.hid hq;clear hq hF;have f0:Bld W.heap.size W.heap.size [] (W.alloc (.cells #[.pointer none,.slice none 0 0] 120)):=Lib.IsBuilderF.of (Lib.fresh_isBuilder 120 5 W)
  go_enter Tryz.func157,Tryz.ntmps157
  go_wp2_with (go_at_call 134;refine HI.mono ?_;rintro e w1 ⟨rfl,rfl⟩)
  clear HI;refine(qbU W.heap.size W.heap.size [] 34 _ f0 (by simp) (by simp)).mono ?_;rintro e w1 ⟨rfl,h1,b1,s1⟩;have h1:Bld W.heap.size W.heap.size (Lib.byteCells (34::esc (s.data.toList.take 0))) w1:=h1;have b1:Below W.heap.size W w1:=(Below.alloc (Below.refl _ W) (Nat.le_refl _) _).trans b1;have G1:=Lib.hid h1;have G2:=Lib.hid b1;clear h1 b1 f0
  go_wp2
  go_loopw [12] (fun i wr=>∃k:Nat,k<=s.size/\i= .int .i64 k/\Bld W.heap.size W.heap.size (Lib.byteCells (34::esc (s.data.toList.take k))) wr/\Below W.heap.size W wr/\W.heap.size<=wr.heap.size) (fun i _=>s.size-(intOf i).toNat)
  case atStart=>exact⟨0,Nat.zero_le _,rfl,G1.out,G2.out,s1⟩
  case round=>
   clear G1 G2 s1;obtain⟨k,hk,rfl,hB,hb,hsz⟩:=hrel;have HB:=Lib.hid hB;have Hb:=Lib.hid hb;clear hB hb
   have hlen:(esc (s.data.toList.take k)).length<=2*k:=by
    have:=qpX (s.data.toList.take k);rw[zqJ]at this;omega
   by_cases hlt:k<s.size
   ·obtain⟨x,hx⟩:∃x,s.data.toList[k]? =some x:=⟨_,zqD (by rw[qad];omega)⟩
    have hxb:s[k]'hlt=x:=qlg s k x hx hlt;have hst:=qpd _ _ _ hx;have HX:=Lib.hid hst;clear hx hst;by_cases h34:x.toNat=34\/x.toNat=92
    ·have he:escB x=[92,x]:=by
      have:x=34\/x=92:=h34.imp (fun h=>UInt8.toNat_inj.1 h) (fun h=>UInt8.toNat_inj.1 h);rw[escB,if_pos this]
     have HE:=Lib.hid he;clear he;have hor:∃b:Bool,((x.toNat:Int)==34)=b/\(b=false->((x.toNat:Int)==92)=true):=⟨_,rfl,fun h=>by simp at h⊢;omega⟩
     clear h34;obtain⟨b,hb1,hb2⟩:=hor;cases b
     ·have hb2:=hb2 rfl
      go_wp2_with fail
      clear hb1 hb2;refine(qbU W.heap.size W.heap.size _ 92 _ HB.out (by rw[Lib.byteCells_length];simp;omega) hsz).mono ?_;rintro e w1 ⟨rfl,h1,b1,s1⟩;have K1:=Lib.hid h1;have K2:=Lib.hid (Hb.out.trans b1);clear h1 b1
      go_wp2_with fail
      refine(qbU W.heap.size W.heap.size _ _ _ K1.out (by rw[zqK,Lib.byteCells_length];simp;omega) s1).mono ?_;rintro e w2 ⟨rfl,h2,b2,s2⟩
      have h2':Bld W.heap.size W.heap.size (Lib.byteCells (34::esc (s.data.toList.take (k+1)))) w2:=by
       rw[HX.out,HE.out];have e1:=bcells (34::esc (s.data.toList.take k)) 92;have e2:=bcells (34::esc (s.data.toList.take k)++[92]) x;rw[<-e1]at e2;have e3:(34::(esc (s.data.toList.take k)++[92,x]):List UInt8)=34::esc (s.data.toList.take k)++[92]++[x]:=by simp
       rw[e3,<-e2];exact h2
      have L1:=Lib.hid h2';have L2:=Lib.hid (K2.out.trans b2);clear h2 h2' b2
      go_wp2
      go_roundw
      case rel=>exact⟨k+1,by omega,by go_num,L1.out,L2.out,s2⟩
      case measure=>simp[intOf];omega
     ·clear hb2
      go_wp2_with fail
      clear hb1;refine(qbU W.heap.size W.heap.size _ 92 _ HB.out (by rw[Lib.byteCells_length];simp;omega) hsz).mono ?_;rintro e w1 ⟨rfl,h1,b1,s1⟩;have K1:=Lib.hid h1;have K2:=Lib.hid (Hb.out.trans b1);clear h1 b1
      go_wp2_with fail
      refine(qbU W.heap.size W.heap.size _ _ _ K1.out (by rw[zqK,Lib.byteCells_length];simp;omega) s1).mono ?_;rintro e w2 ⟨rfl,h2,b2,s2⟩
      have h2':Bld W.heap.size W.heap.size (Lib.byteCells (34::esc (s.data.toList.take (k+1)))) w2:=by
       rw[HX.out,HE.out];have e1:=bcells (34::esc (s.data.toList.take k)) 92;have e2:=bcells (34::esc (s.data.toList.take k)++[92]) x;rw[<-e1]at e2;have e3:(34::(esc (s.data.toList.take k)++[92,x]):List UInt8)=34::esc (s.data.toList.take k)++[92]++[x]:=by simp
       rw[e3,<-e2];exact h2
      have L1:=Lib.hid h2';have L2:=Lib.hid (K2.out.trans b2);clear h2 h2' b2
      go_wp2
      go_roundw
      case rel=>exact⟨k+1,by omega,by go_num,L1.out,L2.out,s2⟩
      case measure=>simp[intOf];omega
    ·have he:escB x=[x]:=by
      rw[escB,if_neg];rintro(rfl|rfl)
      ·exact h34 (.inl rfl)
      ·exact h34 (.inr rfl)
     have HE:=Lib.hid he;clear he;have n1:((x.toNat:Int)==34)=false:=by simp;omega
     have n2:((x.toNat:Int)==92)=false:=by simp;omega
     clear h34
     go_wp2_with fail
     clear n1 n2;refine(qbU W.heap.size W.heap.size _ _ _ HB.out (by rw[Lib.byteCells_length];simp;omega) hsz).mono ?_;rintro e w2 ⟨rfl,h2,b2,s2⟩
     have h2':Bld W.heap.size W.heap.size (Lib.byteCells (34::esc (s.data.toList.take (k+1)))) w2:=by
      rw[HX.out,HE.out];have e2:=bcells (34::esc (s.data.toList.take k)) x;rw[List.cons_append]at e2;rw[<-e2];exact h2
     have L1:=Lib.hid h2';have L2:=Lib.hid (Hb.out.trans b2);clear h2 h2' b2
     go_wp2
     go_roundw
     case rel=>exact⟨k+1,by omega,by go_num,L1.out,L2.out,s2⟩
     case measure=>simp[intOf];omega
   ·obtain rfl:k=s.size:=by omega
    have hB:=HB.out;rw[zqE (by rw[qad];omega)]at hB hlen;have HB2:=Lib.hid hB;clear hB HB
    go_wp2_with fail
    refine(qbU W.heap.size W.heap.size _ 34 _ HB2.out (by rw[Lib.byteCells_length];simp;omega) hsz).mono ?_;rintro e w1 ⟨rfl,h1,b1,s1⟩
    have h1':Bld W.heap.size W.heap.size (Lib.byteCells (quoted s.data.toList)) w1:=by
     have e1:=bcells (34::esc s.data.toList) 34;have e2:quoted s.data.toList=34::esc s.data.toList++[34]:=by simp[quoted]
     rw[e2,<-e1];exact h1
    have K1:=Lib.hid h1';have K2:=Lib.hid (Hb.out.trans b1);clear h1 h1' b1
    go_wp2_with fail
    refine(qkn W.heap.size W.heap.size _ _ K1.out s1).mono ?_;rintro e w2 ⟨rfl,b2⟩;have K3:=Lib.hid (K2.out.trans b2);clear b2
    go_wp2
    go_ret2
    exact⟨rfl,qbc K3.out⟩
def qaS(l:List UInt8):List UInt8×Int×Int:=match unquote l with
 |some p=>(p.1,(p.2:Int),0)
 |none=>([],0,13)
def qdT(l acc:List UInt8)(k:Nat):Prop:=unq (l.drop 1)=(unq (l.drop k)).map fun p=>(acc++p.1,p.2+(k-1))
theorem qfk(l:List UInt8):qdT l [] 1:=by
 unfold qdT;cases unq (l.drop 1)<;>simp
theorem qay(l:List UInt8)(k:Nat)(x:UInt8)(h:l[k]? =some x):l.drop k=x::l.drop (k+1):=by
 have hlt:=(zqC.1 h).1;rw[List.drop_eq_getElem_cons hlt,(zqC.1 h).2]
theorem qfm{l acc:List UInt8}{k:Nat}(h:qdT l acc k)(hk:1<=k)(hx:l[k]? =some 34)(h0:l[0]? =some 34):qaS l=(acc,(k:Int)+1,0):=by
 unfold qdT at h
 have e:unquote l=some (acc,k+1):=by
  rw[show l=34::l.drop 1 from qay l 0 34 h0,unquote];rw[if_pos rfl];rw[qay l k 34 hx]at h;rw[show unq (34::l.drop (k+1))=some ([],1)by unfold unq;rw[if_pos rfl]]at h;rw[h];simp;omega
 unfold qaS;rw[e];simp
theorem qiH{l:List UInt8}(h:unq (l.drop 1)=none)(h0:l[0]? =some 34):qaS l=([],0,13):=by
 have e:unquote l=none:=by
  rw[show l=34::l.drop 1 from qay l 0 34 h0,unquote,if_pos rfl,h];rfl
 unfold qaS;rw[e]
theorem qbK{l acc:List UInt8}{k:Nat}(h:qdT l acc k)(hn:unq (l.drop k)=none)(h0:l[0]? =some 34):qaS l=([],0,13):=by
 unfold qdT at h;rw[hn]at h;exact qiH h h0
theorem qhD(x:UInt8)(r:List UInt8)(h1:x≠34)(h2:x≠92):unq (x::r)=if fcB x=true then(unq r).map (fun p=>(x::p.1,p.2+1))else none:=by
 conv=>lhs;unfold unq
 rw[if_neg h1,if_neg h2]
theorem qjG(x:UInt8)(r:List UInt8):unq (92::x::r)=if fcB x=true then(unq r).map (fun p=>(x::p.1,p.2+2))else none:=by
 conv=>lhs;unfold unq
 rw[if_neg (by decide),if_pos rfl]
theorem qfl{l acc:List UInt8}{k:Nat}{x:UInt8}(h:qdT l acc k)(hk:1<=k)(hx:l[k]? =some x)(h1:x≠34)(h2:x≠92)(hf:fcB x=true):qdT l (acc++[x]) (k+1):=by
 unfold qdT at h⊢;rw[h,qay l k x hx,qhD _ _ h1 h2,if_pos hf];cases unq (l.drop (k+1))with
 |none=>rfl
 |some p=>simp;omega
theorem qhE{l acc:List UInt8}{k:Nat}{x:UInt8}(h:qdT l acc k)(hk:1<=k)(hx:l[k]? =some 92)(hy:l[k+1]? =some x)(hf:fcB x=true):qdT l (acc++[x]) (k+2):=by
 unfold qdT at h⊢;rw[h,qay l k 92 hx,qay l (k+1) x hy,qjG,if_pos hf];rw[show k+1+1=k+2 from rfl];cases unq (l.drop (k+2))with
 |none=>rfl
 |some p=>simp;omega
theorem qdB{l:List UInt8}{k:Nat}{x:UInt8}(hx:l[k]? =some x)(h1:x≠34)(h2:x≠92)(hf:fcB x=false):unq (l.drop k)=none:=by
 rw[qay l k x hx,qhD _ _ h1 h2,if_neg (by rw[hf];simp)]
theorem qeP{l:List UInt8}{k:Nat}{x:UInt8}(hx:l[k]? =some 92)(hy:l[k+1]? =some x)(hf:fcB x=false):unq (l.drop k)=none:=by
 rw[qay l k 92 hx,qay l (k+1) x hy,qjG,if_neg (by rw[hf];simp)]
theorem qdS{l:List UInt8}{k:Nat}(hx:l[k]? =some 92)(hl:l.length=k+1):unq (l.drop k)=none:=by
 rw[qay l k 92 hx,List.drop_of_length_le (by omega)];rfl
theorem qeQ{l:List UInt8}{k:Nat}(hl:l.length<=k):unq (l.drop k)=none:=by
 rw[List.drop_of_length_le hl];rfl
theorem qkt(s:ByteArray)(hs:s.size<=35184372088832)(W:World):Calls Tryz.prog 155 #[.string s] W fun e w'=>e= .returned (.tuple #[.string (tx (qaS s.data.toList).1),.int .i64 (qaS s.data.toList).2.1,.int .i64 (qaS s.data.toList).2.2])/\Frm (fun _=>False) W w':=by
 by_cases he:s.data.toList=[]
 ·have hn:qaS s.data.toList=([],0,13):=by rw[he];rfl
  have he':s.toList.isEmpty=true:=by rw[qa2,he];rfl
  rw[hn]
  go_enter Tryz.func155,Tryz.ntmps155
  go_wp2
  go_ret3
  exact⟨rfl,Frm.refl _ _⟩
 ·have he':s.toList.isEmpty=false:=by rw[qa2];simpa using he
  have h0s:0<s.size:=by
   rw[<-qad];exact List.length_pos_iff.2 he
  obtain⟨c,hc⟩:∃x,s.data.toList[0]? =some x:=⟨_,zqD (by rw[qad];omega)⟩
  have hcb:s[0]'h0s=c:=qlg s 0 c hc h0s;clear he;by_cases h34:c.toNat=34
  ·have hc34:c=34:=UInt8.toNat_inj.1 h34;have t34:((c.toNat:Int) !=34)=false:=by simp;omega
   have H0:Hid (s.data.toList[0]? =some 34):=Lib.hid (by rw[hc,hc34]);have f0:Bld W.heap.size W.heap.size (Lib.byteCells []) (W.alloc (.cells #[.pointer none,.slice none 0 0] 120)):=Lib.IsBuilderF.of (Lib.fresh_isBuilder 120 5 W);have F0:=Lib.hid f0;have B0:=Lib.hid (Below.alloc (Below.refl _ W) (Nat.le_refl _) (.cells #[.pointer none,.slice none 0 0] 120));clear hc hc34 h34 f0
   go_enter Tryz.func155,Tryz.ntmps155
   go_wp2
   clear t34 hcb he'
   go_loopw [6] (fun i wr=>∃(k:Nat) (acc:List UInt8),1<=k/\k<=s.size/\i= .int .i64 k/\Bld W.heap.size W.heap.size (Lib.byteCells acc) wr/\Below W.heap.size W wr/\W.heap.size<=wr.heap.size/\qdT s.data.toList acc k/\acc.length<=k) (fun i _=>s.size-(intOf i).toNat)
   case atStart=>exact⟨1,[],by omega,by omega,rfl,F0.out,B0.out,by simp,qfk _,by simp⟩
   case round=>
    clear F0 B0;obtain⟨k,acc,hk1,hk,rfl,hB,hb,hsz,hu,hacc⟩:=hrel;have HB:=Lib.hid hB;have Hb:=Lib.hid hb;have HU:=Lib.hid hu;clear hB hb hu;by_cases hlt:k<s.size
    ·obtain⟨x,hx⟩:∃x,s.data.toList[k]? =some x:=⟨_,zqD (by rw[qad];omega)⟩
     have hxb:s[k]'hlt=x:=qlg s k x hx hlt;have HX:=Lib.hid hx;clear hx;by_cases h34:x.toNat=34
     ·have hx34:x=34:=UInt8.toNat_inj.1 h34;have t1:((x.toNat:Int)==34)=true:=by simp;omega
      have HN:=Lib.hid (qfm HU.out hk1 (by rw[HX.out,hx34]) H0.out);clear h34 hx34
      go_wp2_with fail
      clear t1;refine(qkn W.heap.size W.heap.size _ _ HB.out hsz).mono ?_;rintro e w2 ⟨rfl,b2⟩;have K3:=Lib.hid (Hb.out.trans b2);clear b2
      go_wp2
      go_ret3
      rw[HN.out];refine⟨?_,qbc K3.out⟩;rfl
     ·have t1:((x.toNat:Int)==34)=false:=by simp;omega
      by_cases h92:x.toNat=92
      ·have hx92:x=92:=UInt8.toNat_inj.1 h92;have t2:((x.toNat:Int)==92)=true:=by simp;omega
       have hx92':=Lib.hid (show s.data.toList[k]? =some 92 by rw[HX.out,hx92]);clear h34 h92 hx92;by_cases hl2:k+1=s.size
       ·have HN:=Lib.hid (qbK HU.out (qdS hx92'.out (by rw[qad];omega)) H0.out);have t3:((k:Int)+1==(s.size:Int))=true:=by simp;omega
        go_wp2
        go_ret3
        rw[HN.out];exact⟨rfl,qbc Hb.out⟩
       ·have hlt2:k+1<s.size:=by omega
        have t3:((k:Int)+1==(s.size:Int))=false:=by simp;omega
        obtain⟨y,hy⟩:∃x,s.data.toList[k+1]? =some x:=⟨_,zqD (by rw[qad];omega)⟩
        have hyb:s[k+1]'hlt2=y:=qlg s (k+1) y hy hlt2;have HY:=Lib.hid hy;clear hy;have hif:=qbI y wr;cases hf:fcB y
        ·rw[hf]at hif;have HN:=Lib.hid (qbK HU.out (qeP hx92'.out HY.out hf) H0.out);clear hf
         go_wp2_with fail
         clear t1 t2 t3;refine hif.mono ?_;rintro e w2 ⟨rfl,rfl⟩
         go_wp2
         go_ret3
         rw[HN.out];exact⟨rfl,qbc Hb.out⟩
        ·rw[hf]at hif;have HS:=Lib.hid (qhE HU.out hk1 hx92'.out HY.out hf);clear hf
         go_wp2_with fail
         clear t1 t2 t3;refine hif.mono ?_;rintro e w2 ⟨rfl,rfl⟩
         go_wp2_with fail
         refine(qbU W.heap.size W.heap.size _ _ _ HB.out (by rw[Lib.byteCells_length];omega) hsz).mono ?_;rintro e w3 ⟨rfl,h2,b2,s2⟩;rw[bcells]at h2;have L1:=Lib.hid h2;have L2:=Lib.hid (Hb.out.trans b2);clear h2 b2
         go_wp2
         go_roundw
         case rel=>exact⟨k+2,_,by omega,by omega,by go_num,L1.out,L2.out,s2,HS.out,by simp;omega⟩
         case measure=>simp[intOf];omega
      ·have t2:((x.toNat:Int)==92)=false:=by simp;omega
       have ne1:x≠34:=by rintro rfl;exact h34 rfl
       have ne2:x≠92:=by rintro rfl;exact h92 rfl
       clear h34 h92;have hif:=qbI x wr;cases hf:fcB x
       ·rw[hf]at hif;have HN:=Lib.hid (qbK HU.out (qdB HX.out ne1 ne2 hf) H0.out);clear hf ne1 ne2
        go_wp2_with fail
        clear t1 t2;refine hif.mono ?_;rintro e w2 ⟨rfl,rfl⟩
        go_wp2
        go_ret3
        rw[HN.out];exact⟨rfl,qbc Hb.out⟩
       ·rw[hf]at hif;have HS:=Lib.hid (qfl HU.out hk1 HX.out ne1 ne2 hf);clear hf ne1 ne2
        go_wp2_with fail
        clear t1 t2;refine hif.mono ?_;rintro e w2 ⟨rfl,rfl⟩
        go_wp2_with fail
        refine(qbU W.heap.size W.heap.size _ _ _ HB.out (by rw[Lib.byteCells_length];omega) hsz).mono ?_;rintro e w3 ⟨rfl,h2,b2,s2⟩;rw[bcells]at h2;have L1:=Lib.hid h2;have L2:=Lib.hid (Hb.out.trans b2);clear h2 b2
        go_wp2
        go_roundw
        case rel=>exact⟨k+1,_,by omega,by omega,by go_num,L1.out,L2.out,s2,HS.out,by simp;omega⟩
        case measure=>simp[intOf];omega
    ·have HN:=Lib.hid (qbK HU.out (qeQ (by rw[qad];omega)) H0.out)
     go_wp2
     go_ret3
     rw[HN.out];exact⟨rfl,qbc Hb.out⟩
  ·have hn:qaS s.data.toList=([],0,13):=by
    have:unquote s.data.toList=none:=by
     rw[show s.data.toList=c::s.data.toList.drop 1 from qay _ 0 c hc,unquote,if_neg];rintro rfl;exact h34 rfl
    unfold qaS;rw[this]
   have HN:=Lib.hid hn;have t34:((c.toNat:Int) !=34)=true:=by simp;omega
   clear hn hc h34
   go_enter Tryz.func155,Tryz.ntmps155
   go_wp2
   go_ret3
   rw[HN.out];exact⟨rfl,Frm.refl _ _⟩
def strs(l:List (List UInt8)):List (List AV):=l.map fun x=>[.str x]
theorem qjI(l:List (List UInt8)):(strs l).length=l.length:=by simp[strs]
section
variable {w:World}{β:Nat->Nat}{Rd:Nat->Nat->Prop}
theorem qkD{a:List UInt8}{k:IntKind}{n:Int}(h:a.length<=maxLen):Rel w β Rd (.tup [.str a,.int k n]) (.tuple #[.string (tx a),.int k n]):=by
 refine .tup _ _ rfl (by simp[AV.free]) (fun j x u hx hu=>?_)
 match j with
 |0=>simp at hx hu;subst hx;subst hu;exact qc5 a h
 |1=>simp at hx hu;subst hx;subst hu;exact .int _ _
 |j+2=>simp at hx
theorem qiS{a:List UInt8}{k k':IntKind}{n m:Int}(h:a.length<=maxLen):Rel w β Rd (.tup [.str a,.int k n,.int k' m]) (.tuple #[.string (tx a),.int k n,.int k' m]):=by
 refine .tup _ _ rfl (by simp[AV.free]) (fun j x u hx hu=>?_)
 match j with
 |0=>simp at hx hu;subst hx;subst hu;exact qc5 a h
 |1=>simp at hx hu;subst hx;subst hu;exact .int _ _
 |2=>simp at hx hu;subst hx;subst hu;exact .int _ _
 |j+3=>simp at hx
end
theorem qiJ(l:List UInt8):(qaL l).length<=l.length:=by
 have dw:∀(p:UInt8->Bool) (l:List UInt8),(l.dropWhile p).length<=l.length:=fun p l=>(List.dropWhile_sublist p).length_le;unfold qaL Go.Lib.trimS Go.Lib.trimLeftS Go.Lib.trimRightS;refine Nat.le_trans (dw _ _) ?_;rw[List.length_reverse];refine Nat.le_trans (dw _ _) ?_;rw[List.length_reverse];exact Nat.le_refl _
theorem qfE(l:List UInt8):(quoted l).length<=2*l.length+2:=by
 have:=qpX l;simp[quoted];omega
theorem qlI(l:List UInt8):(qaS l).1.length<=l.length:=by
 unfold qaS;cases h:unquote l with
 |none=>simp
 |some p=>have:=qby (l:=p.1) (k:=p.2) h;simp;omega
section
variable (E:Env)(H:Hp)(Q:AV->Hp->Prop)
theorem qoj(l:List UInt8)(hl:l.length<=cap)(hQ:Q (.str (qaL l)) H):PC Tryz.prog E 154 [.str l,.str [32,9]] H Q:=by
 refine qao (v:= .str (qaL l)) (by kernel_rfl) (fun _=>True) (fun w hw=>trivial) (fun w β Rd cargs hS hsz hargs=>?_) (.str _) rfl hQ;obtain⟨u,v,rfl,hu,hv⟩:=args2 hsz hargs;obtain⟨s,rfl,rfl,hs⟩:=qaq hu;obtain⟨t,rfl,ht,_⟩:=qaq hv;have h116:(Tryz.prog.info? (lren.t 116)).map (fun i=>(i.zero,i.size))=some (some (.agg (Array.replicate 256 (.bool false))),256):=by kernel_rfl
 have htl:t.size=2:=by rw[<-qad,ht];rfl
 refine(Any.strings_Trim_ascii lays160 (zero_of_info h116).1 (zero_of_info h116).2 s t w (by rw[<-qad];simp only[cap]at hl;omega) (by rw[htl];omega) (fun j b hb=>by
  rw[ht]at hb
  match j with
  |0=>simp at hb;subst hb;decide
  |1=>simp at hb;subst hb;decide
  |j+2=>simp at hb)).mono ?_
 rintro e w' ⟨rfl,hb⟩;rw[ht];exact⟨_,rfl,qbc hb,qc5 (qaL s.data.toList) (qga (Nat.le_trans (qiJ _) hl))⟩
theorem qfp(l:List UInt8)(hl:l.length<=cap)(hQ:Q (.str (qaL l)) H):PC Tryz.prog E 135 [.str l] H Q:=by
 refine qab Tryz.func135 rfl [] [] (by kernel_rfl) (fun hB=>?_);simp[Tryz.ntmps135,Tryz.results135,List.replicate_succ];refine qoj E H _ l hl ?_;simp[Tryz.results135];exact aQz hB (h6:=hQ)
theorem qdt(l:List UInt8)(hl:l.length<=cap)(hQ:Q (.bool (fldB l)) H):PC Tryz.prog E 134 [.str l] H Q:=by
 refine qao (v:= .bool (fldB l)) (by kernel_rfl) (fun _=>True) (fun w hw=>trivial) (fun w β Rd cargs hS hsz hargs=>?_) (.bool _) rfl hQ;obtain⟨u,rfl,hu⟩:=args1 hsz hargs;obtain⟨s,rfl,rfl,hs⟩:=qaq hu;refine(qgG s (by rw[<-qad];exact hl) w).mono ?_;rintro e w' ⟨rfl,rfl⟩;exact⟨_,rfl,Frm.refl _ _,.bool _⟩
theorem qoA(l:List UInt8)(hl:l.length<=35184372088832)(hQ:Q (.tup [.str (qbe l).1,.int .i64 (qbe l).2]) H):PC Tryz.prog E 157 [.str l] H Q:=by
 refine qao (v:= .tup [.str (qbe l).1,.int .i64 (qbe l).2]) (by kernel_rfl) (fun _=>True) (fun w hw=>trivial) (fun w β Rd cargs hS hsz hargs=>?_) (.tup _ (fun x hx=>by simp at hx;rcases hx with rfl|rfl;exact .str _;exact .int _ _)) rfl hQ;obtain⟨u,rfl,hu⟩:=args1 hsz hargs;obtain⟨s,rfl,rfl,hs⟩:=qaq hu;refine(qoB s (by rw[<-qad];exact hl) w).mono ?_;rintro e w' ⟨rfl,hf⟩;refine⟨_,rfl,hf,qkD ?_⟩;have:=qfE s.data.toList;simp only[maxLen];unfold qbe;split
 ·simp only;omega
 ·simp
theorem qgp(l:List UInt8)(hl:l.length<=35184372088832)(hQ:Q (.tup [.str (qaS l).1,.int .i64 (qaS l).2.1,.int .i64 (qaS l).2.2]) H):PC Tryz.prog E 155 [.str l] H Q:=by
 refine qao (v:= .tup [.str (qaS l).1,.int .i64 (qaS l).2.1,.int .i64 (qaS l).2.2]) (by kernel_rfl) (fun _=>True) (fun w hw=>trivial) (fun w β Rd cargs hS hsz hargs=>?_) (.tup _ (fun x hx=>by simp at hx;rcases hx with rfl|rfl|rfl;exact .str _;exact .int _ _;exact .int _ _)) rfl hQ;obtain⟨u,rfl,hu⟩:=args1 hsz hargs;obtain⟨s,rfl,rfl,hs⟩:=qaq hu;refine(qkt s (by rw[<-qad];exact hl) w).mono ?_;rintro e w' ⟨rfl,hf⟩;exact⟨_,rfl,hf,qiS (Nat.le_trans (qlI _) (by simp only[maxLen];omega))⟩
end
end Go.Proofs.YtnnhdehmlkkfjaaGreatDoor
namespace Go.Proofs.YtnnhdehmlkkfjaaGreatDoor
open Go Go.ChangeShapes Go.WideShapes Go.ChangeAt Go.RowKit Go.Deep
theorem Tryz.own:ownKnob Tryz.prog.godebug=none:=by kernel_rfl
theorem Tryz.laidOut:laidOutB Tryz.prog=true:=by kernel_rfl
section
variable {H:Type}{enc:TypeId×Value->H}
theorem Frm.trodAll{P:Program}(hl:laidOutB P=true){W W':World}(hF:Frm (fun _=>False) W W')(sp:Nat->Bool):∀{ts:List TypeId} {vs:List Value} {ds:List (DataW H)} {ps:List MemPlace},(∀t∈ts,P.readableRec t=true/\t<P.types.size)->DataW.TrodAll enc P W 0 (fun _=>true) true ts vs ds ps->(∀p∈ps,sp p.block=true)->(∀p∈ps,p.block<W.heap.size)->DataW.TrodAll enc P W' 0 sp true ts vs ds ps
 |[],[],[],_,_,h,_,_=>h
 |_::_,_::_,_::_,_,hT,⟨p,q,h1,h2,e⟩,hs,hlt=>
  ⟨p,q,WideElems.Trod_stays hl (hT _ (List.mem_cons.2 (Or.inl rfl))).1 (hT _ (List.mem_cons.2 (Or.inl rfl))).2 h1
   (fun x hx=>(hF.toBelow (Nat.le_refl _) (fun _ _=>id)).same (hlt x (by rw[e];exact List.mem_append_left _ hx))) (fun x hx=>hs x (by rw[e];exact List.mem_append_left _ hx)),
   Frm.trodAll hl hF sp (fun t ht=>hT t (List.mem_cons.2 (Or.inr ht))) h2 (fun x hx=>hs x (by rw[e];exact List.mem_append_right _ hx)) (fun x hx=>hlt x (by rw[e];exact List.mem_append_right _ hx)),e⟩
theorem qoY{P:Program}(hl:laidOutB P=true){f:Func}{s:ChangeSpec}{W W':World}{args:Array Value}{ds gs:List (DataW H)}{before:List MemPlace}{tb:TypeId}(hb:P.underlying tb=some .bool)
  (hr:f.resultTypes= #[tb]) (hs:s.vars=[]) (hT:f.params.all (fun t=>P.readableRec t&&decide (t<P.types.size))=true)
  (hspec:s.fn H ds={results:=[.lit (.bool true)],args:=ds})
  (hW:DataW.Whole enc P f.params.toList s.vars false W args.toList ds gs before) (hF:Frm (fun _=>False) W W'):
  s.post enc P f false true false false W args (.bool true) W':=by
 have hT':∀t∈f.params.toList,P.readableRec t=true/\t<P.types.size:=by
  intro t ht;have:=Array.all_eq_true_iff_forall_mem.1 hT t (by simpa using ht);simpa using this
 have hW':=hW;obtain⟨p,q,hA,hV,rfl,hfz,hnd⟩:=hW;rw[hs]at hV;obtain⟨rfl,rfl⟩:=trodVars_none hV;have hB:=hF.toBelow (Nat.le_refl _) (fun _ _=>id);simp only[List.append_nil]at hW' hfz;have hold:∀x∈p,decide (x.block<W.heap.size)=true:=fun x hx=>by simpa using hW'.lt x hx
 have hargs:∀sp:Nat->Bool,(∀x∈p,sp x.block=true)->DataW.TrodAll enc P W' 0 sp true f.params.toList args.toList ds p:=fun sp h=>hF.trodAll hl sp hT' hA h (fun x hx=>hW'.lt x hx)
 have hres:∀(b:Nat) (sp:Nat->Bool) (hd:Bool),DataW.TrodAll enc P W' b sp hd f.resultTypes.toList ((Value.bool true).resultList f.resultTypes.size) [.lit (.bool true)] []:=fun b sp hd=>by
  rw[hr];exact trodAll_mk1 (shut_bool hb true)
 have e1:(s.fn H (ds++[]))={results:=[.lit (.bool true)],args:=ds}:=by rw[List.append_nil];exact hspec
 refine⟨ds,[],p,[],p,[],hW',?_,?_,?_,World.keptBut_mono (fun x hx=>hx) (hB.frame _),fun h=>by cases h⟩
 ·rw[e1];exact hres _ _ _
 ·rw[e1];exact hargs _ hold
 ·rw[e1,hs];exact rfl
theorem qmo{α:Type}{n:Nat}{p:Nat->α->Prop}(h:∀i,i<n->∃x,p i x):∃l:List α,l.length=n/\∀i x,l[i]? =some x->p i x:=by
 induction n with
 |zero=>exact⟨[],rfl,fun i x hx=>by simp at hx⟩
 |succ n ih=>
  obtain⟨l,hl,hp⟩:=ih (fun i hi=>h i (by omega));obtain⟨y,hy⟩:=h n (by omega);refine⟨l++[y],by simp[hl],fun i x hx=>?_⟩;by_cases hi:i<l.length
  ·exact hp i x (by rwa[zqA hi]at hx)
  ·rw[zqB (by omega)]at hx
   have:i-l.length=0:=by
    have:=(zqC.1 hx).1;simp at this;omega
   rw[this]at hx;simp at hx;subst hx;rw[show i=n by omega];exact hy
theorem qmd{P:Program}{w:World}{base:Nat}{spare:Nat->Bool}{held:Bool}{t e:TypeId}{fuel:Nat}{cs:List Value}{x:DataW H×List MemPlace}{α:Type}(k:Nat)(hk:0<k)(q:Addr->α->Prop)
  (ht:P.underlying t=some (.slice e)) (hc:P.cellsOf e=k)
  (hq:∀a n cs' d pl,w.cells? base a k=some cs'->DataW.trod enc P w base spare held n e cs'=some (d,pl)->∃x,q ⟨a.block,a.off,none⟩ x)
  (h:DataW.trod enc P w base spare held fuel t cs=some x):
  ∃(bo:Option Addr) (len cap:Nat) (l:List α),cs=[.slice bo len cap]/\l.length=len/\len<=cap/\cap<=maxLen/\(∀el sp,x.1= .slice el sp->len<=el.length)/\(x.1= .nil->len=0)/\(x.1= .nil\/∃el sp,x.1= .slice el sp)/\
   ∀i x,l[i]? =some x->∃g o,bo=some ⟨g,o,none⟩/\q ⟨g,o+i*k,none⟩ x:=by
 rcases open_slice ht h with⟨rfl,rfl⟩|⟨a,len,cap,m,n,D,Pl,rfl,hb,hl,hm,hmm,rfl,hi⟩
 ·exact⟨none,0,0,[],rfl,rfl,Nat.le_refl _,Nat.zero_le _,(fun _ _ h=>by cases h),(fun _=>rfl),.inl rfl,fun i x hx=>by simp at hx⟩
 ·have hlm:len<=m:=by rw[hmm];split<;>omega
  obtain⟨l,hll,hlx⟩:=qmo (n:=len) (p:=fun i x=>∃g o,some a=some ⟨g,o,none⟩/\q ⟨g,o+i*k,none⟩ x) (fun i hi'=>by
   obtain⟨cs',hcs,htr⟩:=hi i (by omega);rw[hc]at hcs;have h0:=hi 0 (by omega);obtain⟨cs0,hcs0,_⟩:=h0;rw[hc]at hcs0;have hspot:=World.cell?_spot (((World.cells?_some hcs0).2.2 0 hk).trans (zqD (by have:=(World.cells?_some hcs0).2.1;omega)));obtain⟨b,off,spot⟩:=a;obtain rfl:spot=none:=by simpa[Addr.add]using hspot
   obtain⟨y,hy⟩:=hq _ n cs' _ _ hcs htr;refine⟨y,b,off,rfl,?_⟩;rw[add_plain]at hy
   exact hy)
  exact⟨some a,len,cap,l,rfl,hll,hl,hm,(fun el sp h=>by
   simp only[DataW.slice.injEq]at h
   rw[<-h.1];simp),(fun h=>by cases h),.inr ⟨_,_,rfl⟩,hlx⟩
theorem qnr{w:World}{base:Nat}{a:Addr}{cs:List Value}(h:w.cells? base a 1=some cs):∃v,cs=[v]/\w.cell? ⟨a.block,a.off,none⟩=some v:=by
 obtain⟨_,hl,hc⟩:=World.cells?_some h
 match cs,hl with
 |[v],_=>
  have h0:=hc 0 (by omega);have hs:=World.cell?_spot h0;obtain⟨b,o,s⟩:=a;obtain rfl:s=none:=by simpa[Addr.add]using hs
  exact⟨v,rfl,by simpa[Addr.add]using h0⟩
theorem qqz{P:Program}{w:World}{base:Nat}{spare:Nat->Bool}{held:Bool}{e:TypeId}{k:IntKind}(he:P.underlying e=some (.int k))(a:Addr)(n:Nat)(cs:List Value)(d:DataW H)(pl:List MemPlace)
  (hc:w.cells? base a 1=some cs) (h:DataW.trod enc P w base spare held n e cs=some (d,pl)):∃z:Int,w.cell? ⟨a.block,a.off,none⟩=some (.int k z)/\(Lit.int k z).wf=true:=by
 obtain⟨v,rfl,hv⟩:=qnr hc;obtain⟨m,hvv,_,hw⟩:=DataW.trod_int he h;simp only[List.cons.injEq,and_true]at hvv;exact⟨m,hvv▸hv,hw⟩
theorem row_u8{P:Program}{w:World}{base:Nat}{spare:Nat->Bool}{held:Bool}{e:TypeId}(he:P.underlying e=some (.int .u8))(a:Addr)(n:Nat)(cs:List Value)(d:DataW H)(pl:List MemPlace)
  (hc:w.cells? base a 1=some cs) (h:DataW.trod enc P w base spare held n e cs=some (d,pl)):∃z:UInt8,w.cell? ⟨a.block,a.off,none⟩=some (.int .u8 (z.toNat:Int)):=by
 obtain⟨z,hz,hw⟩:=qqz he a n cs d pl hc h;have hr:0<=z/\z<=255:=by simpa[Lit.wf,IntKind.min,IntKind.max,IntKind.signed,IntKind.bits]using hw
 refine⟨UInt8.ofNat z.toNat,?_⟩;rw[UInt8.toNat_ofNat',Nat.mod_eq_of_lt (by omega),Int.toNat_of_nonneg hr.1];exact hz
theorem qow{w:World}{bo:Option Addr}{len cap:Nat}{l:List UInt8}(hl:l.length=len)(h1:len<=cap)(h2:cap<=maxLen)(hc:∀i x,l[i]? =some x->∃g o,bo=some ⟨g,o,none⟩/\w.cell? ⟨g,o+i*1,none⟩=some (.int .u8 (x.toNat:Int))):
  RSl w 1 (.slice bo len cap) len (u8s l):=by
 refine⟨by rw[qb0];omega,bo,cap,rfl,h1,h2,fun hp=>?_⟩;obtain⟨g,o,rfl,_⟩:=hc 0 (l[0]'(by omega)) (zqD (by omega));refine⟨g,o,rfl,fun j hj=>?_⟩;have hj':j<l.length:=by omega
 obtain⟨g',o',he,hcell⟩:=hc j (l[j]'hj') (zqD hj');cases he;rw[Nat.mul_one]at hcell;rw[hcell,qdU,zqD hj'];rfl
end
inductive CK where
 |int (k:IntKind)
 |bool
 |str
 |u8s
def qgS:CK->AV->Prop
 | .int k,.int k' z=>k=k'/\(Lit.int k z).wf=true
 | .bool,.bool _=>True
 | .str,.str _=>True
 | .u8s,.sl false 1 rows=>∃l,rows=bts l
 |_,_=>False
def wtA:List AV->Nat
 |[]=>0
 | .str s::l=>s.length+wtA l
 | .sl _ _ r::l=>r.length+wtA l
 |_::l=>wtA l
theorem qiG(l m:List AV):wtA (l++m)=wtA l+wtA m:=by
 induction l with
 |nil=>simp[wtA]
 |cons x l ih=>cases x<;>simp only[List.cons_append,wtA,ih]<;>omega
def qhO(g:TypeId->Option (List CK)):Nat->List Field->Option (List CK)
 |_,[]=>some []
 |off,f::r=>if f.offset=off then match g f.type with
  |some a=>(qhO g (off+a.length) r).map (a++·)
  |none=>none else none
def shape(P:Program):Nat->TypeId->Option (List CK)
 |0,_=>none
 |n+1,t=>match P.underlying t with
  |some (.int k)=>some [.int k]
  |some .bool=>some [.bool]
  |some .string=>some [.str]
  |some (.slice e)=>match P.underlying e with
   |some (.int .u8)=>if P.cellsOf e=1 then some [.u8s]else none
   |_=>none
  |some (.struct fs)=>match qhO (shape P n) 0 fs.toList with
   |some ks=>if ks.length=P.cellsOf t then some ks else none
   |none=>none
  |_=>none
structure Opened (W:World) (ks:List CK) (cs:List Value) (avs:List AV):Prop where
 len:avs.length=ks.length
 clen:cs.length=ks.length
 kind:∀(j:Nat) k x,ks[j]? =some k->avs[j]? =some x->qgS k x
 rel:∀(j:Nat) x u,avs[j]? =some x->cs[j]? =some u->x.free=true/\x.one=true/\Rel W (fun _=>0) (old W) x u/\Bnd 0 x
theorem Opened.one{W:World}{k:CK}{v:Value}{x:AV}(h1:qgS k x)(h2:x.free=true/\x.one=true/\Rel W (fun _=>0) (old W) x v/\Bnd 0 x):Opened W [k] [v] [x]:=by
 refine⟨rfl,rfl,fun j k' x' hk hx=>?_,fun j x' u hx hu=>?_⟩
 ·cases j with
  |zero=>simp at hk hx;subst hk;subst hx;exact h1
  |succ j=>simp at hk
 ·cases j with
  |zero=>simp at hu hx;subst hu;subst hx;exact h2
  |succ j=>simp at hu
theorem Opened.app{W:World}{ks ms:List CK}{cs ds:List Value}{av1 bs:List AV}(h:Opened W ks cs av1)(k:Opened W ms ds bs):Opened W (ks++ms) (cs++ds) (av1++bs):=by
 refine⟨by simp[h.len,k.len],by simp[h.clen,k.clen],fun j k' x' hk hx=>?_,fun j x' u hx hu=>?_⟩
 ·by_cases hj:j<ks.length
  ·rw[zqA hj]at hk;rw[zqA (by rw[h.len];exact hj)]at hx;exact h.kind j k' x' hk hx
  ·rw[zqB (by omega)]at hk;rw[zqB (by rw[h.len];omega),h.len]at hx;exact k.kind _ k' x' hk hx
 ·by_cases hj:j<av1.length
  ·rw[zqA hj]at hx;rw[zqA (by rw[h.clen,<-h.len];exact hj)]at hu;exact h.rel j x' u hx hu
  ·rw[zqB (by omega)]at hx;rw[zqB (by rw[h.clen,<-h.len];omega),h.clen,<-h.len]at hu;exact k.rel _ x' u hx hu
section
variable {H:Type}{enc:TypeId×Value->H}
theorem qpn(d:DataW H):1<=Rows.uptoBulk d:=by
 cases d with
 |lit l=>cases l<;>simp[Rows.uptoBulk]
 |nil=>simp[Rows.uptoBulk]
 |ptr d=>simp[Rows.uptoBulk]
 |slice elems spare=>simp[Rows.uptoBulk]
 |agg parts=>simp[Rows.uptoBulk]
 |iface t d=>simp[Rows.uptoBulk]
 |map entries=>simp[Rows.uptoBulk]
 |held h=>simp[Rows.uptoBulk]
theorem qkm:∀(l:List (DataW H)),l.length<=Rows.uptoBulkAll l
 |[]=>by simp[Rows.uptoBulkAll]
 |x::l=>by have:=qpn x;have:=qkm l;simp only[Rows.uptoBulkAll,zqL];omega
theorem qkE{w:World}{β:Nat->Nat}{Rd:Nat->Nat->Prop}{v:Value}{l:List UInt8}(h:RSl w 1 v l.length (u8s l))(hd:∀g o n c,v= .slice (some ⟨g,o,none⟩) n c->∀j,j<l.length->Rd g (o+j)):Rel w β Rd (.sl false 1 (bts l)) v:=by
 refine .sl false 1 (bts l) v (u8s l) (fun r hr=>by obtain⟨b,_,rfl⟩:=List.mem_map.1 hr;rfl) (by rw[qc2];exact h) (fun g o n c hv j hj=>hd g o n c hv j (by simpa[qc2]using hj)) (fun h=>by cases h) (fun r hr x hx=>?_) (fun j x u hx hu=>?_)
 ·obtain⟨b,_,rfl⟩:=List.mem_map.1 hr;simp at hx;subst hx;exact⟨rfl,rfl⟩
 ·rw[qff]at hx;rw[qdU]at hu;cases hb:l[j]? with
  |none=>rw[hb]at hx;cases hx
  |some b=>rw[hb]at hx hu;simp at hx hu;subst hx;subst hu;exact .int _ _
theorem qg0{P:Program}{W:World}{base:Nat}{spare:Nat->Bool}{held:Bool}{n':Nat}{cs:List Value}(g:TypeId->Option (List CK))
  (ih:∀{t:TypeId} {ks:List CK} {cs:List Value} {x:DataW H×List MemPlace},g t=some ks->DataW.trod enc P W base spare held n' t cs=some x->∃avs,Opened W ks cs avs/\wtA avs+1<=Rows.uptoBulk x.1):
  ∀(l:List Field) (xs:List (DataW H×List MemPlace)) (off:Nat) (ks:List CK),l.length=xs.length->(∀(j:Nat) f,l[j]? =some f->DataW.trod enc P W base spare held n' f.type ((cs.drop f.offset).take (P.cellsOf f.type))=xs[j]?)->
   qhO g off l=some ks->∃avs,Opened W ks ((cs.drop off).take ks.length) avs/\wtA avs<=Rows.uptoBulkAll (xs.map (·.1)):=by
 intro l
 induction l with
 |nil=>
  intro xs off ks hl hx hs;simp[qhO]at hs;subst hs;exact⟨[],⟨rfl,by simp,fun j k x hk=>by simp at hk,fun j x u hx=>by simp at hx⟩,by simp[wtA]⟩
 |cons f l ihl=>
  intro xs off ks hl hx hs;cases xs with
  |nil=>simp at hl
  |cons y xs=>
   unfold qhO at hs;split at hs
   ·rename_i ho;cases hg:g f.type with
    |none=>rw[hg]at hs;cases hs
    |some a=>
     rw[hg]at hs;simp only[Option.map_eq_some_iff]at hs;obtain⟨b,hb,rfl⟩:=hs;have h0:=hx 0 f rfl;rw[ho]at h0;obtain⟨av1,ha,hwa⟩:=ih hg h0;obtain⟨bs,hbs,hwb⟩:=ihl xs (off+a.length) b (by simpa using hl) (fun j f' hf=>by simpa using hx (j+1) f' (by simpa using hf)) hb
     have e:(cs.drop off).take (P.cellsOf f.type)=(cs.drop off).take a.length:=by
      have hlen:=ha.clen;rw[zqJ]at hlen;rw[<-hlen];by_cases hc:P.cellsOf f.type<=(cs.drop off).length
      ·rw[Nat.min_eq_left hc]
      ·rw[Nat.min_eq_right (by omega),zqE (by omega),zqE (Nat.le_refl _)]
     refine⟨av1++bs,?_,?_⟩
     ·rw[e]at ha;have:=ha.app hbs;rw[zqK,List.take_add,List.drop_drop];exact this
     ·rw[qiG];simp only[List.map_cons,Rows.uptoBulkAll];omega
   ·cases hs
theorem opened{P:Program}{W:World}{base:Nat}{spare:Nat->Bool}{held:Bool}(n:Nat):∀{fuel:Nat} {t:TypeId} {ks:List CK} {cs:List Value} {x:DataW H×List MemPlace},shape P n t=some ks->DataW.trod enc P W base spare held fuel t cs=some x->
  ∃avs,Opened W ks cs avs/\wtA avs+1<=Rows.uptoBulk x.1:=by
 induction n with
 |zero=>intro fuel t ks cs x hs;cases hs
 |succ n ih=>
  intro fuel t ks cs x hs h;unfold shape at hs;split at hs
  ·rename_i k hu;cases hs;obtain⟨z,rfl,rfl,hw⟩:=DataW.trod_int hu h;exact⟨[.int k z],.one ⟨rfl,hw⟩ ⟨rfl,rfl,.int _ _,.int _ _⟩,by simp[wtA,Rows.uptoBulk]⟩
  ·rename_i hu;cases hs;obtain⟨z,rfl,rfl⟩:=DataW.trod_bool hu h;exact⟨[.bool z],.one trivial ⟨rfl,rfl,.bool _,.bool _⟩,by simp[wtA,Rows.uptoBulk]⟩
  ·rename_i hu;cases hs;obtain⟨z,rfl,rfl,hm⟩:=DataW.trod_string hu h;exact⟨[.str z.data.toList],.one trivial ⟨rfl,rfl,.str _ _ rfl hm,.str _⟩,by simp[wtA,Rows.uptoBulk]⟩
  ·rename_i e hu;split at hs
   ·rename_i he;split at hs
    ·rename_i hce;cases hs;obtain⟨bo,len,cap,l,rfl,hl,h1,h2,hx1,hx2,hx3,hq⟩:=qmd (α:=UInt8) 1 (by decide) (fun a x=>W.cell? a=some (.int .u8 ((x:UInt8).toNat:Int))) hu hce (fun a n cs' d pl hc h=>row_u8 he a n cs' d pl hc h) h;have hr:=qow hl h1 h2 hq;subst hl;refine⟨[.sl false 1 (bts l)],.one ⟨l,rfl⟩ ⟨rfl,rfl,qkE hr (fun g o n c hv j hj=>?_),qlf _ _ _⟩,?_⟩
     ·obtain⟨g',o',hb,hc⟩:=hq j l[j] (zqD hj);cases hv;cases hb;rw[Nat.mul_one]at hc;exact qjX hc
     ·simp only[wtA,qc2];rcases hx3 with hn|⟨el,sp,hs⟩
      ·rw[hn,hx2 hn];simp[Rows.uptoBulk]
      ·have:=hx1 el sp hs;have:=qkm el;rw[hs];simp only[Rows.uptoBulk];omega
    ·cases hs
   ·cases hs
  ·rename_i fs hu;split at hs
   ·rename_i ks' hks;split at hs
    ·rename_i hlen;cases hs;obtain⟨xs,n',_,rfl,hcl,hxl,hf⟩:=DataW.trod_struct hu h;obtain⟨avs,ho,hw⟩:=qg0 (enc:=enc) (P:=P) (W:=W) (base:=base) (spare:=spare) (held:=held) (n':=n') (cs:=cs) (shape P n) (fun hg hx=>ih hg hx) fs.toList xs 0 _ (by simp[hxl]) (fun j f hj=>hf j f (by simpa using hj)) hks;refine⟨avs,?_,?_⟩
     ·rw[List.drop_zero,zqE (by rw[hcl,hlen];exact Nat.le_refl _)]at ho;exact ho
     ·simp only[Rows.uptoBulk];omega
    ·cases hs
   ·cases hs
  ·cases hs
theorem qhu{n:Nat}(D:Nat->DataW H):∀(rows:List (List AV)),rows.length=n->(∀(i:Nat) r,rows[i]? =some r->wtA r+1<=Rows.uptoBulk (D i))->wtA rows.flatten+n<=Rows.uptoBulkAll ((List.range n).map D):=by
 induction n with
 |zero=>
  intro rows h hr;have:rows=[]:=List.length_eq_zero_iff.1 h;subst this;simp[wtA]
 |succ n ih=>
  intro rows hl hr;obtain⟨init,r,rfl⟩:∃init r,rows=init++[r]:=⟨rows.dropLast,rows.getLast (by intro h;rw[h]at hl;cases hl),(List.dropLast_concat_getLast _).symm⟩
  simp at hl;have h1:=ih init hl (fun i q hq=>hr i q (by rw[zqA (zqC.1 hq).1];exact hq));have h2:=hr n r (by rw[<-hl];simp)
  have happ:∀(a b:List (DataW H)),Rows.uptoBulkAll (a++b)=Rows.uptoBulkAll a+Rows.uptoBulkAll b:=by
   intro a b
   induction a with
   |nil=>simp[Rows.uptoBulkAll]
   |cons x a iha=>simp only[List.cons_append,Rows.uptoBulkAll,iha];omega
  rw[List.range_succ,List.map_append,happ,List.flatten_append,qiG];simp only[List.map_cons,List.map_nil,Rows.uptoBulkAll,List.flatten_cons,List.flatten_nil,List.append_nil];omega
theorem qgy{P:Program}{W:World}{spare:Nat->Bool}{held:Bool}{t e:TypeId}{fuel:Nat}{cs:List Value}{x:DataW H×List MemPlace}{ks:List CK}(n:Nat)(ht:P.underlying t=some (.slice e))(hs:shape P n e=some ks)(hk:ks.length=P.cellsOf e)(hk0:0<ks.length)
  (h:DataW.trod enc P W 0 spare held fuel t cs=some x):
  ∃(bo:Option Addr) (len cap:Nat) (rows:List (List AV)),cs=[.slice bo len cap]/\rows.length=len/\len<=cap/\cap<=maxLen/\Rel W (fun _=>0) (old W) (.sl false ks.length rows) (.slice bo len cap)/\Bnd 0 (.sl false ks.length rows)/\
   (∀r∈rows,r.length=ks.length/\∀(j:Nat) k y,ks[j]? =some k->r[j]? =some y->qgS k y)/\wtA rows.flatten+len+1<=Rows.uptoBulk x.1:=by
 rcases open_slice ht h with⟨rfl,rfl⟩|⟨a,len,cap,m,n',D,Pl,rfl,hb,hl,hm,hmm,rfl,hi⟩
 ·refine⟨none,0,0,[],rfl,rfl,Nat.le_refl _,Nat.zero_le _,?_,.sl _ _ _ (fun r hr=>by cases hr),fun r hr=>(by cases hr),by simp[wtA,Rows.uptoBulk]⟩;exact qjR _ [] none 0 0 (fun r hr=>by cases hr) hk0 rfl (Nat.le_refl _) (Nat.zero_le _) (fun i r hr=>by simp at hr)
 ·have hlm:len<=m:=by rw[hmm];split<;>omega
  obtain⟨rows,hrl,hrx⟩:=qmo (n:=len) (p:=fun i (r:List AV)=>∃g o cs',some a=some ⟨g,o,none⟩/\(∀(j:Nat) v,cs'[j]? =some v->W.cell? ⟨g,o+i*ks.length+j,none⟩=some v)/\Opened W ks cs' r/\wtA r+1<=Rows.uptoBulk (D i)) (fun i hi'=>by
   obtain⟨cs',hcs,htr⟩:=hi i (by omega);obtain⟨avs,ho,hw⟩:=opened n hs htr;obtain⟨_,hcl,hat⟩:=World.cells?_some hcs;obtain⟨cs0,hcs0,_⟩:=hi 0 (by omega);have h00:=World.cells?_some hcs0;have hspot:=World.cell?_spot ((h00.2.2 0 (by omega)).trans (zqD (by have:=h00.2.1;omega)));obtain⟨b,off,spot⟩:=a;obtain rfl:spot=none:=by simpa[Addr.add]using hspot
   refine⟨avs,b,off,cs',rfl,fun j v hj=>?_,ho,hw⟩;have hjl:j<P.cellsOf e:=by have:=(zqC.1 hj).1;omega
   rw[hk,<-add_plain,<-add_plain,hat j hjl];exact hj)
  refine⟨some a,len,cap,rows,rfl,hrl,hl,hm,?_,?_,?_,?_⟩
  ·refine qjR _ rows _ len cap (fun r hr=>?_) hk0 hrl hl hm (fun i r hr=>?_)
   ·obtain⟨i,hi'⟩:=List.getElem?_of_mem hr;obtain⟨g,o,cs',_,_,ho,_⟩:=hrx i r hi';exact ho.len
   ·obtain⟨g,o,cs',hb',hc,ho,_⟩:=hrx i r hr;refine⟨g,o,hb',fun j y hy=>?_⟩;have hjl:j<cs'.length:=by have:=(zqC.1 hy).1;have:=ho.len;have:=ho.clen;omega
    obtain⟨h1,h2,h3,h4⟩:=ho.rel j y cs'[j] hy (zqD hjl);exact⟨h1,h2,_,hc j _ (zqD hjl),h3⟩
  ·refine .sl _ _ _ (fun r hr y hy=>?_);obtain⟨i,hi'⟩:=List.getElem?_of_mem hr;obtain⟨j,hj⟩:=List.getElem?_of_mem hy;obtain⟨g,o,cs',_,_,ho,_⟩:=hrx i r hi';have hjl:j<cs'.length:=by have:=(zqC.1 hj).1;have:=ho.len;have:=ho.clen;omega
   exact(ho.rel j y cs'[j] hj (zqD hjl)).2.2.2
  ·intro r hr;obtain⟨i,hi'⟩:=List.getElem?_of_mem hr;obtain⟨g,o,cs',_,_,ho,_⟩:=hrx i r hi';exact⟨ho.len,ho.kind⟩
  ·have:=qhu D rows hrl (fun i r hr=>by obtain⟨_,_,_,_,_,_,hw⟩:=hrx i r hr;exact hw);simp only[Rows.uptoBulk];omega
end
end Go.Proofs.YtnnhdehmlkkfjaaGreatDoor
namespace Go.Proofs.YtnnhdehmlkkfjaaGreatDoor
open Go Go.RowKit Go.Proofs
theorem qcJ(b:UInt8):qag b=(decide (b.toNat=32)||decide (b.toNat=9)):=by
 have e1:(b==9)=decide (b.toNat=9):=by rw[Bool.eq_iff_iff];simp[<-UInt8.toNat_inj]
 have e2:(b==32)=decide (b.toNat=32):=by rw[Bool.eq_iff_iff];simp[<-UInt8.toNat_inj]
 rw[qag,e1,e2]
theorem qfN(l:List UInt8)(n:Nat):(l !=[])=!l.isEmpty:=by cases l<;>rfl
section
variable (E:Env)(H:Hp)(Q:AV->Hp->Prop)
end
section
variable (E:Env)(H:Hp)(Q:AV->Hp->Prop)
end
theorem qjL:(fun b:UInt8=>[32,9].contains b)=qag:=by
 funext b;rw[Bool.eq_iff_iff];simp[qag]
theorem qm8(p:UInt8->Bool)(c:UInt8)(hc:p c=false):∀r:List UInt8,(r++[c]).dropWhile p=r.dropWhile p++[c]
 |[]=>by simp[List.dropWhile,hc]
 |d::r=>by
  rw[List.cons_append];cases hd:p d
  ·rw[List.dropWhile_cons_of_neg (by rw[hd];simp),List.dropWhile_cons_of_neg (by rw[hd];simp)];rfl
  ·rw[List.dropWhile_cons_of_pos hd,List.dropWhile_cons_of_pos hd];exact qm8 p c hc r
def lt(l:List UInt8):List UInt8:=l.dropWhile qag
def rt(l:List UInt8):List UInt8:=(l.reverse.dropWhile qag).reverse
theorem qqp(l:List UInt8):qaL l=lt (rt l):=by
 unfold qaL Go.Lib.trimS Go.Lib.trimLeftS Go.Lib.trimRightS lt rt;rw[<-qjL]
theorem qfq:∀l:List UInt8,qaL l=rt (lt l)
 |[]=>rfl
 |c::r=>by
  cases hc:qag c
  ·have h1:lt (c::r)=c::r:=by unfold lt;rw[List.dropWhile_cons_of_neg (by rw[hc];simp)]
   rw[h1,qqp];unfold rt;rw[List.reverse_cons,qm8 qag c hc,List.reverse_append,List.reverse_singleton,List.singleton_append];unfold lt;rw[List.dropWhile_cons_of_neg (by rw[hc];simp)]
  ·rw[qiL c hc,qfq r];have:lt (c::r)=lt r:=by unfold lt;rw[List.dropWhile_cons_of_pos hc]
   rw[this]
theorem qlT(l:List UInt8)(f i k:Nat)(h:f<=i):(l.drop f).take (i-f)++(l.drop i).take k=(l.drop f).take (i+k-f):=by
 rw[show i+k-f=(i-f)+k by omega,List.take_add,List.drop_drop,show f+(i-f)=i by omega]
theorem qqv(l:List UInt8)(f i:Nat)(c:UInt8)(h:f<=i)(hc:l[i]? =some c):(l.drop f).take (i-f)++[c]=(l.drop f).take (i+1-f):=by
 rw[<-qlT l f i 1 h,qay l i c hc];rfl
theorem qqw(l:List UInt8)(i:Nat):(l.drop i).take (i-i)=[]:=by simp
theorem qft(l:List (List UInt8))(x:List UInt8):strs l++[[AV.str x]]=strs (l++[x]):=by simp[strs]
theorem qcN{l:List (List UInt8)}{i:Nat}{x:List UInt8}(h:l[i]? =some x):lat (strs l) i=some [AV.str x]:=by simp[lat,strs,h]
theorem qkV(l:List (List UInt8))(i:Nat)(x:List UInt8)(h:l[i]? =some x):qbA (l.take (i+1))=qbA (l.take i)++(if(qaL x).isEmpty then []else [qaL x]):=by
 rw[List.take_add_one,h,qmD];congr 1;simp[qbA];cases (qaL x)<;>simp
theorem qhb(l:List (List UInt8)):(qbA l).length<=l.length:=by
 unfold qbA;refine Nat.le_trans (List.length_filter_le _ _) ?_;rw[List.length_map];exact Nat.le_refl _
theorem qhr:∀(n:Nat) (acc s:List UInt8) (x:List (List UInt8)),s.length<=n->cut acc s=some x->x.length<=s.length+1
 |n,acc,[],x,_,h=>by rw[qjm]at h;cases h;simp
 |0,acc,c::r,x,hn,h=>by simp at hn
 |n+1,acc,c::r,x,hn,h=>by
  simp only[zqL]at hn⊢;by_cases h1:c=44
  ·subst h1;rw[qf2]at h;cases hc:cut [] r with
   |none=>simp[hc]at h
   |some y=>
    simp[hc]at h;subst h;have:=qhr n [] r y (by omega) hc;simp only[zqL];omega
  ·by_cases h2:c=34
   ·subst h2;cases hu:unquote (34::r)with
    |none=>rw[qjn _ _ hu]at h;cases h
    |some p=>
     have hl:=qby (l:=p.1) (k:=p.2) hu;simp only[zqL]at hl;rw[qfZ acc r p.1 p.2 hu]at h;have:=qhr n _ _ x (by simp;omega) h;simp at this;omega
   ·rw[qf0 _ _ _ h1 h2]at h;have:=qhr n _ _ x (by omega) h;omega
theorem qf1:∀(n:Nat) (acc s:List UInt8) (x:List (List UInt8)),s.length<=n->cut acc s=some x->∀p∈x,p.length<=acc.length+s.length
 |n,acc,[],x,_,h,p,hp=>by rw[qjm]at h;cases h;simp at hp;subst hp;simp
 |0,acc,c::r,x,hn,h,p,hp=>by simp at hn
 |n+1,acc,c::r,x,hn,h,p,hp=>by
  simp only[zqL]at hn⊢;by_cases h1:c=44
  ·subst h1;rw[qf2]at h;cases hc:cut [] r with
   |none=>simp[hc]at h
   |some y=>
    simp[hc]at h;subst h;rcases List.mem_cons.1 hp with rfl|hp
    ·omega
    ·have:=qf1 n [] r y (by omega) hc p hp;simp at this;omega
  ·by_cases h2:c=34
   ·subst h2;cases hu:unquote (34::r)with
    |none=>rw[qjn _ _ hu]at h;cases h
    |some q=>
     have hl:=qby (l:=q.1) (k:=q.2) hu;simp only[zqL]at hl;rw[qfZ acc r q.1 q.2 hu]at h;have:=qf1 n _ _ x (by simp;omega) h p hp;simp at this;omega
   ·rw[qf0 _ _ _ h1 h2]at h;have:=qf1 n _ _ x (by omega) h p hp;simp at this;omega
theorem qfM{s:List UInt8}{x:List (List UInt8)}(h:qc8 s=some x):x.length<=s.length+1:=by
 unfold qc8 at h;cases hc:cut [] s with
 |none=>simp[hc]at h
 |some y=>
  simp[hc]at h;subst h;exact Nat.le_trans (qhb y) (qhr _ [] s y (Nat.le_refl _) hc)
def qeK(s:List UInt8)(out:List (List UInt8))(f i:Nat):Prop:=cut [] s=(cut ((s.drop f).take (i-f)) (s.drop i)).map (out++·)
theorem qf3(s:List UInt8):qeK s [] 0 0:=by unfold qeK;simp
section
variable {s:List UInt8}{out:List (List UInt8)}{f i:Nat}(h:qeK s out f i)(hf:f<=i)
include h hf
theorem qf6(hc:s[i]? =some 44):qeK s (out++[(s.drop f).take (i-f)]) (i+1) (i+1):=by
 unfold qeK at h⊢;rw[h,qay s i 44 hc,qf2,qqw];cases cut [] (s.drop (i+1))<;>simp
theorem qf5{c:UInt8}(hc:s[i]? =some c)(h1:c≠44)(h2:c≠34):qeK s out f (i+1):=by
 unfold qeK at h⊢;rw[h,qay s i c hc,qf0 _ _ _ h1 h2,qqv s f i c hf hc]
theorem qit(hc:s[i]? =some 34)(hu:unquote (s.drop i)=none):cut [] s=none:=by
 unfold qeK at h;rw[qay s i 34 hc]at hu h;rw[h,qjn _ _ hu];rfl
theorem qf4(hc:s[i]? =some 34){x:List UInt8}{k:Nat}(hu:unquote (s.drop i)=some (x,k)):qeK s out f (i+k):=by
 unfold qeK at h⊢;have e:=qay s i 34 hc;rw[e]at hu;rw[h,e,qfZ _ _ x k hu,<-e,qlT s f i k hf,List.drop_drop]
theorem qis(hi:s.length<=i):cut [] s=some (out++[(s.drop f).take (i-f)]):=by
 unfold qeK at h;rw[h,List.drop_of_length_le hi,qjm];rfl
end
section
variable (E:Env)(H:Hp)(Q:AV->Hp->Prop)
theorem qdc(b:UInt8)(hQ:Q (.bool (qag b)) H):PC Tryz.prog E 98 [.int .u8 (b.toNat:Int)] H Q:=by
 refine qab Tryz.func98 rfl [] [] (by kernel_rfl) (fun hB=>?_);have fin:∀c:Bool,qag b=c->Q (.bool c) H:=fun c hc=>hc▸hQ;by_cases h1:b.toNat=32
 ·have t1:((b.toNat:Int)==32)=true:=by simp;omega
  simp[Tryz.ntmps98,Tryz.results98,List.replicate_succ,t1];exact aQz hB (h6:=(fin _ (by rw[qcJ];simp[h1])))
 ·have t1:((b.toNat:Int)==32)=false:=by simp;omega
  by_cases h2:b.toNat=9
  ·have t2:((b.toNat:Int)==9)=true:=by simp;omega
   simp[Tryz.ntmps98,Tryz.results98,List.replicate_succ,t1,t2];exact aQz hB (h6:=(fin _ (by rw[qcJ];simp[h2])))
  ·have t2:((b.toNat:Int)==9)=false:=by simp;omega
   simp[Tryz.ntmps98,Tryz.results98,List.replicate_succ,t1,t2];exact aQz hB (h6:=(fin _ (by rw[qcJ];simp[h1,h2])))
def qiX(l:List UInt8)(H:Hp)(fr:List AV)(H':Hp):Prop:=H'=H/\∃c:List UInt8,c.length<=l.length/\lt c=lt l/\∃x:Nat->AV,fr=[.str c,x 1,x 2,x 3,x 4,x 5,x 6,x 7,x 8,x 9,x 10,x 11,x 12,x 13,x 14,x 15,x 16,x 17,x 18,x 19,x 20,x 21,x 22,x 23,x 24,x 25,x 26,x 27,x 28,x 29]
def qiW(l:List UInt8)(H:Hp)(fr:List AV)(H':Hp):Prop:=H'=H/\∃c:List UInt8,c.length<=l.length/\rt c=rt (lt l)/\∃x:Nat->AV,fr=[.str c,x 1,x 2,x 3,x 4,x 5,x 6,x 7,x 8,x 9,x 10,x 11,x 12,x 13,x 14,x 15,x 16,x 17,x 18,x 19,x 20,x 21,x 22,x 23,x 24,x 25,x 26,x 27,x 28,x 29]
def asz:AV->Nat
 | .str l=>l.length
 |_=>0
@[simp] theorem asz_str (l):asz (.str l)=l.length:=rfl
theorem qdH(l:List UInt8)(hl:l.length<=cap)(hQ:Q (.str (qaL l)) H):PC Tryz.prog E 102 [.str l] H Q:=by
 simp only[cap]at hl;refine qab Tryz.func102 rfl [] [] (by kernel_rfl) (fun hB=>?_);simp[Tryz.ntmps102,Tryz.results102,List.replicate_succ];refine qaG (qiX l H) (fun fr _=>asz (aget fr 0)) ⟨rfl,l,Nat.le_refl _,rfl,friz⟩ ?_;rintro fr H' ⟨rfl,c,hcl,hc,x,rfl⟩
 have hcase:c=[]\/(∃a r,c=a::r/\qag a=false)\/(∃a r,c=a::r/\qag a=true):=by
  cases c with
  |nil=>exact .inl rfl
  |cons a r=>
   cases hb:qag a
   ·exact .inr (.inl ⟨a,r,rfl,hb⟩)
   ·exact .inr (.inr ⟨a,r,rfl,hb⟩)
 rcases hcase with rfl|⟨a,r,rfl,hb⟩|⟨a,r,rfl,hb⟩
 rotate_left 2
 ·have hne:(0:Int)<r.length+1:=by omega
  simp[hne];refine qdc E _ _ a ?_;simp[hb];refine qaC ⟨rfl,r,by simp at hcl;omega,?_,friz⟩ (by simp);rw[<-hc];unfold lt;rw[List.dropWhile_cons_of_pos hb]
 case' inl=>
  have e:([]:List UInt8)=lt l:=by rw[<-hc];rfl
  simp
 case' inr.inl=>
  have e:a::r=lt l:=by rw[<-hc];unfold lt;rw[List.dropWhile_cons_of_neg (by rw[hb];simp)]
  have hne:(0:Int)<r.length+1:=by omega
  simp[hne];refine qdc E _ _ a ?_;simp[hb]
 all_goals
  refine qaG (qiW l H') (fun fr _=>asz (aget fr 0)) ⟨rfl,_,hcl,by rw[e],friz⟩ ?_;rintro fr H'' ⟨rfl,d,hdl,hd,z,rfl⟩;rcases d.eq_nil_or_concat with rfl|⟨y,b,rfl⟩
  ·have ed:([]:List UInt8)=qaL l:=by rw[qfq,<-hd];rfl
   simp;refine aQz hB (h6:=?_);show Q (.str []) _;rw[ed];exact hQ
  ·rw[List.concat_eq_append]at hd;simp at hdl;have hat:lat (y++[b]) y.length=some b:=qaP (by simp);have hw:IntKind.i64.wrap (y.length:Int)=y.length:=wiz;have hne:(0:Int)<y.length+1:=by omega
   simp[hne,hw,hat];refine qdc E _ _ b ?_;cases hb2:qag b
   ·have ed:y++[b]=qaL l:=by
     rw[qfq,<-hd];unfold rt;rw[List.reverse_append,List.reverse_singleton,List.singleton_append,List.dropWhile_cons_of_neg (by rw[hb2];simp)];simp
    simp;refine aQz hB (h6:=?_);show Q (.str (y++[b])) _;rw[ed];exact hQ
   ·simp[hw];refine qaC ⟨rfl,y,by omega,?_,friz⟩ (by simp);rw[<-hd];unfold rt;rw[List.reverse_append,List.reverse_singleton,List.singleton_append,List.dropWhile_cons_of_pos hb2]
end
theorem qbZ{N:Nat}(o k)(l:List (List UInt8)):Bnd N (.sl o k (strs l)):= .sl _ _ _ fun r hr x hx=>by
 obtain⟨c,_,rfl⟩:=List.mem_map.1 hr;simp at hx;subst hx;exact .str _
@[simp high] theorem bnd_strs' {N:Nat} (o k) (l:List (List UInt8)):Bnd N (.sl o k (strs l)):=qbZ o k l
@[simp] theorem qqq (l:List (List UInt8)):(strs l).length=l.length:=qjI l
theorem qbu(k:Nat)(y:AV)(h:y.free=true):nilV (.tup [.nil,y]) (.tup [.sl false k [],y]):=
 .inr ⟨_,_,rfl,rfl,⟨.inr ⟨rfl,false,k,rfl⟩,.inl rfl,trivial⟩,by simp[h]⟩
def qcm(l:List UInt8):List (List UInt8)×Int:=match qc8 l with
 |some x=>(x,0)
 |none=>([],14)
theorem qjb{l:List UInt8}(h:cut [] l=none):qcm l=([],14):=by unfold qcm qc8;rw[h];rfl
theorem qkQ{l:List UInt8}{x:List (List UInt8)}(h:cut [] l=some x):qcm l=(qbA x,0):=by unfold qcm qc8;rw[h];rfl
section
variable (E:Env)(H:Hp)(Q:AV->Hp->Prop)
end
def qcE(b:UInt8):Bool:=(decide (65<=b.toNat)&&decide (b.toNat<=90))||(decide (97<=b.toNat)&&decide (b.toNat<=122))
def sgs:List UInt8:=[33,35,36,37,38,39,42,43,45,46,94,95,96,124,126]
theorem qor:∀n,n<256->(qdg (UInt8.ofNat n)||qcE (UInt8.ofNat n)||sgs.contains (UInt8.ofNat n))=qaj (UInt8.ofNat n):=by decide
theorem qaW(b:UInt8):(qdg b||qcE b||sgs.contains b)=qaj b:=by
 have:=qor b.toNat b.toNat_lt;rwa[qgU]at this
section
variable (E:Env)(H:Hp)(Q:AV->Hp->Prop)
theorem qbv{α:Type}(p:α->Bool)(l:List α)(k:Nat)(x:α)(h:l[k]? =some x):(l.take (k+1)).all p=((l.take k).all p&&p x):=by
 rw[List.take_add_one,h,List.all_append];simp
theorem qcl{α:Type}(p:α->Bool)(l:List α)(k:Nat)(x:α)(h:l[k]? =some x)(hp:p x=false):l.all p=false:=by
 rw[List.all_eq_false];exact⟨x,zqH h,by rw[hp];simp⟩
theorem qmp{l:List UInt8}{ps:List (List UInt8)}(h:qc8 l=some ps):∀p∈ps,p.length<=l.length:=by
 unfold qc8 at h;cases hc:cut [] l with
 |none=>simp[hc]at h
 |some y=>
  simp[hc]at h;subst h;intro p hp;unfold qbA at hp;obtain⟨q,hq,rfl⟩:=List.mem_map.1 (List.mem_filter.1 hp).1;have:=qf1 _ [] l y (Nat.le_refl _) hc q hq;have:=qiJ q;simp at*;omega
end
section
variable (E:Env)(H:Hp)(Q:AV->Hp->Prop)
end
theorem qqS(W:World)(hS:qgn W):∀b,b=0->b<W.heap.size:=fun b hb=>hb▸World.block_lt_of_cell? _ _ (hS 0 _ rfl)
def qgw(p:Par):List AV:=[.str p.name,.str p.value,.bool p.has]
def prs(l:List Par):List (List AV):=l.map qgw
@[simp] theorem prs_length (l:List Par):(prs l).length=l.length:=by simp[prs]
theorem prs_at{l:List Par}{i:Nat}{p:Par}(h:l[i]? =some p):lat (prs l) i=some [.str p.name,.str p.value,.bool p.has]:=by simp[lat,prs,h,qgw]
theorem qnv{N:Nat}(o k)(l:List Par):Bnd N (.sl o k (prs l)):= .sl _ _ _ fun r hr x hx=>by
 obtain⟨c,_,rfl⟩:=List.mem_map.1 hr;simp[qgw]at hx;rcases hx with rfl|rfl|rfl
 ·exact .str _
 ·exact .str _
 ·exact .bool _
@[simp high] theorem bnd_prs' {N:Nat} (o k) (l:List Par):Bnd N (.sl o k (prs l)):=qnv o k l
def qbt(l:List UInt8):List Par×Int×Int:=match pars qaj l with
 |some p=>(p.1,(p.2:Int),0)
 |none=>([],0,15)
def qcs(l:List UInt8):List UInt8×Int×Bool:=match pval qaj l with
 |some p=>(p.1,(p.2:Int),true)
 |none=>([],0,false)
theorem qde(k:Nat)(y z:AV)(h:y.free=true)(h2:z.free=true):nilV (.tup [.nil,y,z]) (.tup [.sl false k [],y,z]):=
 .inr ⟨_,_,rfl,rfl,⟨.inr ⟨rfl,false,k,rfl⟩,.inl rfl,.inl rfl,trivial⟩,by simp[h,h2]⟩
theorem ql3{l x:List UInt8}{k:Nat}(h:pval qaj l=some (x,k)):1<=k/\k<=l.length/\x.length<=k:=by
 unfold pval at h;split at h
 ·cases h;have:=qbQ qaj l;rw[zqJ];omega
 ·have:=qby h;omega
def qc6(l:List UInt8)(out:List Par)(e:Nat):Prop:=pars qaj l=(pars qaj (l.drop e)).map fun p=>(out++p.1,p.2+e)
theorem qhZ(l:List UInt8):qc6 l [] 0:=by unfold qc6;cases h:pars qaj l<;>simp[h]
section
variable {l:List UInt8}{out:List Par}{e b m n:Nat}(h:qc6 l out e)(hb:run qag (l.drop e)=b)
include h hb
theorem qkM(h0:l[e+b]? ≠some 59):qbt l=(out,(e:Int),0):=by
 unfold qc6 at h;rw[qe8 qaj (l.drop e) (by rw[hb,zqN];exact h0)]at h;unfold qbt;rw[h];simp
variable (h0:l[e+b]? =some 59)(hm:run qag (l.drop (e+b+1))=m)(hn:run qaj (l.drop (e+b+1+m))=n)
include h0 hm hn
theorem qe7:(l.drop e)[b]? =some 59/\run qag ((l.drop e).drop (b+1))=m/\run qaj ((l.drop e).drop (b+1+m))=n:=by
 refine⟨by rw[zqN];exact h0,by rw[List.drop_drop,<-Nat.add_assoc];exact hm,by rw[List.drop_drop,<-Nat.add_assoc,<-Nat.add_assoc];exact hn⟩
theorem qi3(hz:n=0):qc6 l out (e+b+1):=by
 obtain⟨f1,f2,f3⟩:=qe7 h hb h0 hm hn;unfold qc6 at h⊢;rw[h,qhX qaj (l.drop e) b m n hb f1 f2 f3 hz,List.drop_drop,<-Nat.add_assoc];cases pars qaj (l.drop (e+b+1))with
 |none=>rfl
 |some p=>simp;omega
theorem qh0(hz:n≠0)(he:l[e+b+1+m+n]? ≠some 61):qc6 l (out++[⟨(l.drop (e+b+1+m)).take n,[],false⟩]) (e+b+1+m+n):=by
 obtain⟨f1,f2,f3⟩:=qe7 h hb h0 hm hn;unfold qc6 at h⊢;have e1:e+(b+1+m+n)=e+b+1+m+n:=by omega
 have e2:e+(b+1+m)=e+b+1+m:=by omega
 rw[h,qgv qaj (l.drop e) b m n hb f1 f2 f3 hz (by rw[zqN,e1];exact he),List.drop_drop,List.drop_drop,e1,e2];cases pars qaj (l.drop (e+b+1+m+n))with
 |none=>rfl
 |some p=>simp;omega
theorem qkN(hz:n≠0)(he:l[e+b+1+m+n]? =some 61)(hv:pval qaj (l.drop (e+b+1+m+n+1))=none):qbt l=([],0,15):=by
 obtain⟨f1,f2,f3⟩:=qe7 h hb h0 hm hn;unfold qc6 at h;have e1:e+(b+1+m+n)=e+b+1+m+n:=by omega
 rw[qjU qaj (l.drop e) b m n hb f1 f2 f3 hz (by rw[zqN,e1];exact he) (by rw[List.drop_drop,show e+(b+1+m+n+1)=e+b+1+m+n+1 by omega];exact hv)]at h;unfold qbt;rw[h];rfl
theorem qhY(hz:n≠0)(he:l[e+b+1+m+n]? =some 61){x:List UInt8}{k:Nat}(hv:pval qaj (l.drop (e+b+1+m+n+1))=some (x,k)):qc6 l (out++[⟨(l.drop (e+b+1+m)).take n,x,true⟩]) (e+b+1+m+n+1+k):=by
 obtain⟨f1,f2,f3⟩:=qe7 h hb h0 hm hn;unfold qc6 at h⊢;have e1:e+(b+1+m+n)=e+b+1+m+n:=by omega
 have e2:e+(b+1+m)=e+b+1+m:=by omega
 have e3:e+(b+1+m+n+1+k)=e+b+1+m+n+1+k:=by omega
 rw[h,qgu qaj (l.drop e) b m n hb f1 f2 f3 hz (by rw[zqN,e1];exact he) (by rw[List.drop_drop,show e+(b+1+m+n+1)=e+b+1+m+n+1 by omega];exact hv),List.drop_drop,List.drop_drop,e2,e3];cases pars qaj (l.drop (e+b+1+m+n+1+k))with
 |none=>rfl
 |some p=>simp;omega
end
section
variable (E:Env)(H:Hp)(Q:AV->Hp->Prop)
theorem qgH(b:UInt8)(hQ:Q (.bool (qag b)) H):PC Tryz.prog E 244 [.int .u8 (b.toNat:Int)] H Q:=by
 refine qab Tryz.func244 rfl [] [] (by kernel_rfl) (fun hB=>?_);have fin:∀c:Bool,qag b=c->Q (.bool c) H:=fun c hc=>hc▸hQ;by_cases h1:b.toNat=32
 ·have t1:((b.toNat:Int)==32)=true:=by simp;omega
  simp[Tryz.ntmps244,Tryz.results244,List.replicate_succ,t1];exact aQz hB (h6:=(fin _ (by rw[qcJ];simp[h1])))
 ·have t1:((b.toNat:Int)==32)=false:=by simp;omega
  by_cases h2:b.toNat=9
  ·have t2:((b.toNat:Int)==9)=true:=by simp;omega
   simp[Tryz.ntmps244,Tryz.results244,List.replicate_succ,t1,t2];exact aQz hB (h6:=(fin _ (by rw[qcJ];simp[h2])))
  ·have t2:((b.toNat:Int)==9)=false:=by simp;omega
   simp[Tryz.ntmps244,Tryz.results244,List.replicate_succ,t1,t2];exact aQz hB (h6:=(fin _ (by rw[qcJ];simp[h1,h2])))
def runInv(p:UInt8->Bool)(l:List UInt8)(a:Nat)(fid:Nat)(H:Hp)(fr:List AV)(H':Hp):Prop:=H'=H/\∃n:Nat,a+n<=l.length/\((l.drop a).take n).all p=true/\∃x:Nat->AV,fr=[.str l,.int .i64 a,.fn fid [],x 3,x 4,x 5,x 6,.int .i64 n,x 8,x 9,x 10,x 11,x 12,x 13,x 14,x 15,x 16,x 17,x 18,x 19,x 20,x 21,x 22,x 23,x 24,x 25]
theorem qjM(p:UInt8->Bool)(fid:FuncId)(hp:∀(b:UInt8) (Q:AV->Hp->Prop),Q (.bool (p b)) H->PC Tryz.prog E fid [.int .u8 (b.toNat:Int)] H Q)(l:List UInt8)(a:Nat)(hl:l.length<=cap)(ha:a<=l.length)
  (hQ:Q (.int .i64 (run p (l.drop a):Nat)) H):PC Tryz.prog E 243 [.str l,.int .i64 a,.fn fid []] H Q:=by
 simp only[cap]at hl;refine qab Tryz.func243 rfl [] [] (by kernel_rfl) (fun hB=>?_);have fin:∀n:Nat,run p (l.drop a)=n->Q (.int .i64 n) H:=fun n hn=>hn▸hQ;simp[Tryz.ntmps243,Tryz.results243,List.replicate_succ];refine qaG (runInv p l a fid H) (fun fr _=>l.length-(ai (aget fr 7)).toNat) ⟨rfl,0,by omega,rfl,friz⟩ ?_;rintro fr H' ⟨rfl,n,hn,hall,x,rfl⟩;obtain⟨i,hi⟩:∃i,i=a+n:=⟨_,rfl⟩
 have hw0:IntKind.i64.wrap ((a:Int)+n)=(i:Int):=by rw[qax (by omega) (by omega)];omega
 have hw:IntKind.i64.wrap ((n:Int)+1)=n+1:=wiz;by_cases h:i<l.length
 ·obtain⟨b,hb⟩:∃b,l[i]? =some b:=⟨_,zqD h⟩
  have hb2:(l.drop a)[n]? =some b:=by rw[zqN,<-hi];exact hb
  have hat:=qaP hb;simp[hw0,h,hat];refine hp b _ ?_;cases hf:p b
  ·simp[hf];refine aQz hB (h6:=(fin n (qdp p _ n hall (by rw[zqI];omega) (fun c hc=>?_))));rw[hb2]at hc;cases hc;exact hf
  ·simp[hf,hw];exact Klz ⟨rfl,n+1,by omega,by rw[qbv p (l.drop a) n b hb2,hall,hf];rfl,friz⟩
 ·simp[hw0,h];refine aQz hB (h6:=(fin n (qdp p _ n hall (by rw[zqI];omega) (fun c hc=>?_))));rw[zqN]at hc;have:=(zqC.1 hc).1;omega
theorem qoe(hE:SE E)(l:List UInt8)(hl:l.length<=8388608)(hQ:Q (.tup [.str (qcs l).1,.int .i64 (qcs l).2.1,.bool (qcs l).2.2]) H):PC Tryz.prog E 245 [.str l] H Q:=by
 refine qab Tryz.func245 rfl [] [] (by kernel_rfl) (fun hB=>?_);simp[Tryz.ntmps245,Tryz.results245,List.replicate_succ];refine qjM E _ _ qaj _ (fun b Q hQ=>qia E _ Q hE b hQ) l 0 (by simp only[cap];omega) (by omega) ?_;rw[List.drop_zero];obtain⟨n,hn⟩:=exz (run qaj l);have hnl:=qbQ qaj l;rw[hn]at hnl⊢;by_cases h0:0<n
 ·have hv:qcs l=(l.take n,(n:Int),true):=by unfold qcs pval;rw[hn,if_pos h0]
  rw[hv]at hQ;simp[h0,hnl];exact aQz hB (h6:=hQ)
 ·simp[h0];refine qgp E _ _ l (by omega) ?_;cases hu:unquote l with
  |none=>
   have ha:qaS l=([],0,13):=by unfold qaS;rw[hu]
   have hv:qcs l=([],0,false):=by unfold qcs pval;rw[hn,if_neg h0,hu]
   rw[hv]at hQ;simp[ha];exact aQz hB (h6:=hQ)
  |some p=>
   have ha:qaS l=(p.1,(p.2:Int),0):=by unfold qaS;rw[hu]
   have hv:qcs l=(p.1,(p.2:Int),true):=by unfold qcs pval;rw[hn,if_neg h0,hu]
   rw[hv]at hQ;simp[ha];exact aQz hB (h6:=hQ)
def qqJ(l:List UInt8)(H:Hp)(fr:List AV)(H':Hp):Prop:=∃(J:Hp) (e:Nat) (out:List Par),H'=H++J/\e<=l.length/\out.length<=e/\qc6 l out e/\∃x:Nat->AV,fr=[.str l,x 1,x 2,x 3,x 4,.sl true 3 (prs out),.int .i64 e,x 7,x 8,x 9,x 10,x 11,x 12,x 13,x 14,x 15,x 16,x 17,x 18,x 19,x 20,x 21,x 22,x 23,x 24,x 25,x 26,x 27,x 28,x 29,x 30,x 31,x 32,x 33,x 34,x 35,x 36,x 37,x 38,x 39,x 40,x 41,x 42,x 43,x 44,x 45,x 46,x 47,x 48,x 49,x 50,x 51,x 52,x 53,x 54,x 55,x 56,x 57,x 58,x 59,x 60,x 61,x 62,x 63,x 64,x 65,x 66,x 67,x 68,x 69,x 70,x 71,x 72,x 73,x 74,x 75,x 76,x 77,x 78,x 79,x 80,x 81,x 82,x 83]
theorem qmb(hE:SE E)(l:List UInt8)(hl:l.length<=8388608)(hQ:Q (.tup [.sl false 3 (prs (qbt l).1),.int .i64 (qbt l).2.1,.int .i64 (qbt l).2.2]) H):PC Tryz.prog E 238 [.str l] H Q:=by
 refine qab Tryz.func238 rfl [80] [] (by kernel_rfl) (fun hB=>?_);simp[Tryz.ntmps238,Tryz.results238,List.replicate_succ];refine qes 5 3 (by rfl) ?_;simp only[List.set_cons_succ,List.set_cons_zero];refine qaG (qqJ l H) (fun fr _=>l.length-(ai (aget fr 6)).toNat) ⟨[],0,[],by simp,by omega,by simp,qhZ l,qal (by simp[prs])⟩ ?_;rintro fr H' ⟨J,e,out,rfl,he,hout,hp,x,rfl⟩;have hcap:l.length<=cap:=by simp only[cap];omega
 have hm:out.length+1<=maxLen/\(out.length+1)*40<=140737488355328:=by unfold maxLen;omega
 obtain⟨H1,hH1⟩:=exz (H++J);simp;refine qjM E _ _ qag _ (fun b Q hQ=>qgH E _ Q b hQ) l e hcap he ?_;obtain⟨b,hb⟩:=exz (run qag (l.drop e));have hbl:=qbQ qag (l.drop e);rw[zqI]at hbl;rw[hb]at hbl⊢;obtain⟨a,ha⟩:∃a,a=e+b:=⟨_,rfl⟩
 have hw1:IntKind.i64.wrap ((e:Int)+b)=(a:Int):=by rw[qax (by omega) (by omega)];omega
 have hcase:l[a]? =some 59\/l[a]? ≠some 59:=by
  by_cases h:l[a]? =some 59
  ·exact .inl h
  ·exact .inr h
 rcases hcase with h59|h59
 ·have halt:=(zqC.1 h59).1;have t1:((a:Int)==(l.length:Int))=false:=by simp;omega
  have hat:=qaP h59;obtain⟨a1,ha1⟩:∃a1,a1=a+1:=⟨_,rfl⟩
  have hw2:IntKind.i64.wrap ((a:Int)+1)=(a1:Int):=by rw[qax (by omega) (by omega)];omega
  simp[hw1,t1,hat,hw2];refine qjM E _ _ qag _ (fun b Q hQ=>qgH E _ Q b hQ) l a1 hcap (by omega) ?_;obtain⟨m,hmm⟩:=exz (run qag (l.drop a1));have hml:=qbQ qag (l.drop a1);rw[zqI]at hml;rw[hmm]at hml⊢;obtain⟨a2,ha2⟩:∃a2,a2=a1+m:=⟨_,rfl⟩
  have hw3:IntKind.i64.wrap ((a1:Int)+m)=(a2:Int):=by rw[qax (by omega) (by omega)];omega
  simp[hw3];refine qjM E _ _ qaj _ (fun b Q hQ=>qia E _ Q hE b hQ) l a2 hcap (by omega) ?_;obtain⟨n,hn⟩:=exz (run qaj (l.drop a2));have hnl:=qbQ qaj (l.drop a2);rw[zqI]at hnl;rw[hn]at hnl⊢;obtain⟨a3,ha3⟩:∃a3,a3=a2+n:=⟨_,rfl⟩
  have hw4:IntKind.i64.wrap ((a2:Int)+n)=(a3:Int):=by rw[qax (by omega) (by omega)];omega
  have x0:l[e+b]? =some 59:=by rw[<-ha];exact h59
  have x1:run qag (l.drop (e+b+1))=m:=by rw[<-ha,<-ha1];exact hmm
  have x2:run qaj (l.drop (e+b+1+m))=n:=by rw[<-ha,<-ha1,<-ha2];exact hn
  have ee:e+b+1+m+n=a3:=by omega
  by_cases hz:n=0
  ·have hsk:=qi3 hp hb x0 x1 x2 hz;rw[show e+b+1=a1 by omega]at hsk;have t2:((n:Int)==0)=true:=by simp[hz]
   simp[hz];exact Klz ⟨J,a1,out,rfl,by omega,by omega,hsk,friz⟩
  ·have t0:((n:Int)==0)=false:=by simp;omega
   have hnm:(l.drop a2).take (a3-a2)=(l.drop a2).take n:=by rw[show a3-a2=n by omega]
   have hle1:a2<=a3:=by omega
   have hle2:a3<=l.length:=by omega
   by_cases h61:l[a3]? =some 61
   ·have h3:=(zqC.1 h61).1;have hat2:=qaP h61;obtain⟨a4,ha4⟩:∃a4,a4=a3+1:=⟨_,rfl⟩
    have hw5:IntKind.i64.wrap ((a3:Int)+1)=(a4:Int):=by rw[qax (by omega) (by omega)];omega
    have hd:(l.drop a4).take (l.length-a4)=l.drop a4:=zqE (by rw[zqI];omega);have ha4l:a4<=l.length:=by omega
    simp[t0,hw4,hle1,hle2,hnm,h3,hat2,hw5,ha4l,hd];refine qoe E _ _ hE (l.drop a4) (by rw[zqI];omega) ?_;cases hv:pval qaj (l.drop a4)with
    |none=>
     have hva:qcs (l.drop a4)=([],0,false):=by unfold qcs;rw[hv]
     have hbad:=qkN hp hb x0 x1 x2 hz (by rw[ee];exact h61) (by rw[ee,<-ha4];exact hv);rw[hbad]at hQ;simp[hva];exact qac hB rfl (qde 3 _ _ rfl rfl) (by simp) hQ
    |some q=>
     obtain⟨y,k⟩:=q;have hva:qcs (l.drop a4)=(y,(k:Int),true):=by unfold qcs;rw[hv]
     have hk:=ql3 hv;rw[zqI]at hk;have hvv:=qhY hp hb x0 x1 x2 hz (by rw[ee];exact h61) (x:=y) (k:=k) (by rw[ee,<-ha4];exact hv);obtain⟨a5,ha5⟩:∃a5,a5=a3+1+k:=⟨_,rfl⟩
     have hw6:IntKind.i64.wrap (1+(k:Int))=1+k:=wiz;have hw7:IntKind.i64.wrap ((a3:Int)+(1+k))=(a5:Int):=by rw[qax (by omega) (by omega)];omega
     rw[show e+b+1+m=a2 by omega,show a2+n+1+k=a5 by omega]at hvv;simp[hva,hw6,hw7,hm];exact Klz ⟨J++[[.str ((l.drop a2).take n),.str y,.bool true]],a5,_,by simp,by omega,by simp;omega,hvv,qal (by simp[prs,qgw])⟩
   ·have hpl:=qh0 hp hb x0 x1 x2 hz (by rw[ee];exact h61);rw[show e+b+1+m=a2 by omega,show a2+n=a3 by omega]at hpl
    have hcase:a3=l.length\/(a3<l.length/\∃c,l[a3]? =some c/\c.toNat≠61):=by
     by_cases h:a3<l.length
     ·obtain⟨c,hc⟩:∃b,l[a3]? =some b:=⟨_,zqD h⟩
      exact .inr ⟨h,c,hc,fun hh=>h61 (by rw[hc,UInt8.toNat_inj.1 (show c.toNat=(61:UInt8).toNat from hh)])⟩
     ·exact .inl (by omega)
    rcases hcase with hE3|⟨h,c,hc,hcn⟩
    ·have hnl3:¬a3<l.length:=by omega
     simp[t0,hw4,hle1,hle2,hnm,hnl3,hm];exact Klz ⟨J++[[.str ((l.drop a2).take n),.str [],.bool false]],a3,_,by simp,by omega,by simp;omega,hpl,qal (by simp[prs,qgw])⟩
    ·have t2:((c.toNat:Int)==61)=false:=by simp;omega
     have hat2:=qaP hc;simp[t0,hw4,hle1,hle2,hnm,h,hat2,t2,hm];exact Klz ⟨J++[[.str ((l.drop a2).take n),.str [],.bool false]],a3,_,by simp,by omega,by simp;omega,hpl,qal (by simp[prs,qgw])⟩
 ·have hans:=qkM hp hb (by rw[<-ha];exact h59);rw[hans]at hQ
  have hcase:a=l.length\/(a<l.length/\∃c,l[a]? =some c/\c.toNat≠59):=by
   by_cases h:a<l.length
   ·obtain⟨c,hc⟩:∃b,l[a]? =some b:=⟨_,zqD h⟩
    exact .inr ⟨h,c,hc,fun hh=>h59 (by rw[hc,UInt8.toNat_inj.1 (show c.toNat=(59:UInt8).toNat from hh)])⟩
   ·exact .inl (by omega)
  rcases hcase with rfl|⟨h,c,hc,hcn⟩
  ·have t1:((l.length:Int)==(l.length:Int))=true:=by simp
   simp[hw1];exact qac hB rfl (qaa _) (by simp) hQ
  ·have t1:((a:Int)==(l.length:Int))=false:=by simp;omega
   have t2:((c.toNat:Int) !=59)=true:=by simp;omega
   have hat:=qaP hc;simp[hw1,t1,hat,t2];exact qac hB rfl (qaa _) (by simp) hQ
end
end Go.Proofs.YtnnhdehmlkkfjaaGreatDoor
