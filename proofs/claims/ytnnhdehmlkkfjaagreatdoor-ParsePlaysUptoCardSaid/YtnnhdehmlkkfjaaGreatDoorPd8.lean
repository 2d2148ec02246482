/- Part 8 of the texts below the law. -/
import Derived.Test.YtnnhdehmlkkfjaaGreatDoorPd7
import Derived.Lib.ItoaLen
import Derived.Shelf.Strings.Cut
import Derived.Shelf.Strings.IndexAnyAll
import Derived.Shelf.Strings.Prefix
import Derived.Shelf.Strings.Search3
import Derived.Shelf.Strings.Split
import Derived.Test.YtnnhdehmlkkfjaaGreatDoorProg
import Derived.KernelRfl
set_option maxRecDepth 100000
set_option maxHeartbeats 16000000
set_option linter.unusedVariables false
set_option linter.unusedSimpArgs false
set_option linter.unusedSectionVars false
namespace Go.Proofs.YtnnhdehmlkkfjaaGreatDoor
open Go Go.RowKit
theorem qkm(s:ByteArray)(hs:s.size<=140737488351232)(W:World):Calls Tryz.prog 68 #[.string s] W fun e w'=>e= .returned (.string (tx (low s.data.toList)))/\Frm (fun _=>False) W w':=by
 obtain⟨cap,w1,hconv,ho,hf,hw1⟩:=qco (P:=Tryz.prog) W 9 82 5 s Tryz.underlying9 Tryz.underlying82 Tryz.underlying5 (by simp only[maxLen];omega);have HO:=Lib.hid ho;have HF:=Lib.hid hf;clear ho hf
 go_enter Tryz.func68,Tryz.ntmps68
 go_wp2
 clear hconv
 go_loopw [4] (fun i wr=>∃k:Nat,k<=s.size/\i= .int .i64 k/\OSl wr 1 (.slice (some ⟨W.heap.size,0,none⟩) s.size cap) s.size (u8s (low (s.data.toList.take k)++s.data.toList.drop k))/\Frm (fun _=>False) W wr) (fun i _=>s.size-(intOf i).toNat)
 case atStart=>exact⟨0,Nat.zero_le _,rfl,HO.out,HF.out⟩
 case round=>
  obtain⟨k,hk,rfl,ho,hf⟩:=hrel;have hb:W.heap.size<wr.heap.size:=ho.lt _ rfl;have HR:=Lib.hid ho;have HG:=Lib.hid hf;clear ho hf;by_cases hlt:k<s.size
  ·obtain⟨x,hx⟩:∃x,s.data.toList[k]? =some x:=⟨_,zqD (by rw[qad];omega)⟩
   obtain⟨hc,hz⟩:=HR.out.cellAt k x (qky _ _ _ hx);rw[Nat.zero_add]at hc hz;have HX:=Lib.hid hx;clear hx;have hx8:x.toNat<256:=x.toNat_lt;by_cases h1:65<=x.toNat
   ·by_cases h2:x.toNat<=90
    ·go_wp2
     go_roundw
     case rel=>
      refine⟨k+1,by omega,by go_num,?_,HG.out.setNew (Nat.le_refl _) _⟩;have:=HR.out.set k hlt (.int .u8 ((lowB x).toNat:Int));rw[qd9 x h1 h2,Nat.zero_add]at this;rw[<-qf4 _ _ _ HX.out,qj1,qd9 x h1 h2];exact this
     case measure=>simp[intOf];omega
    ·go_wp2
     go_roundw
     case rel=>
      refine⟨k+1,by omega,by go_num,?_,HG.out⟩;rw[<-qd8 _ _ _ HX.out (qft x (by omega))];exact HR.out
     case measure=>simp[intOf];omega
   ·go_wp2
    go_roundw
    case rel=>
     refine⟨k+1,by omega,by go_num,?_,HG.out⟩;rw[<-qd8 _ _ _ HX.out (qft x (by omega))];exact HR.out
    case measure=>simp[intOf];omega
  ·obtain rfl:k=s.size:=by omega
   have hr:=HR.out.toR;rw[zqE (by rw[qad];omega),List.drop_of_length_le (by rw[qad];omega),List.append_nil]at hr;have hback:=qbR (P:=Tryz.prog) wr 82 9 5 _ _ _ _ Tryz.underlying82 Tryz.underlying5 Tryz.underlying9 hr
   go_wp2
   go_ret
   exact⟨rfl,HG.out⟩
theorem qa8(b:UInt8)(W:World):Calls Tryz.prog 64 #[.int .u8 b.toNat] W fun e w'=>e= .returned (.bool (qbI b))/\w'=W:=by
 go_enter Tryz.func64,Tryz.ntmps64
 have hb:=b.toNat_lt;by_cases h1:48<=b.toNat
 ·by_cases h2:b.toNat<=57
  ·have e1:qbI b=true:=decide_eq_true ⟨h1,h2⟩;rw[e1]
   go_wp2
   go_ret
   exact⟨by first|rfl|(simp<;>omega),rfl⟩
  ·have e1:qbI b=false:=decide_eq_false (fun h=>h2 h.2);rw[e1]
   go_wp2
   go_ret
   exact⟨by first|rfl|(simp<;>omega),rfl⟩
 ·have e1:qbI b=false:=decide_eq_false (fun h=>h1 h.1);rw[e1]
  go_wp2
  go_ret
  exact⟨by first|rfl|(simp<;>omega),rfl⟩
theorem qi6(b:UInt8)(W:World):Calls Tryz.prog 149 #[.int .u8 b.toNat] W fun e w'=>e= .returned (.bool (qaT b))/\w'=W:=by
 have hb:=b.toNat_lt;cases hd:qbI b
 ·by_cases h1:65<=b.toNat
  ·by_cases h2:b.toNat<=70
   ·have e1:qaT b=true:=by rw[qaT,hd];simp<;>omega
    rw[e1]
    go_enter Tryz.func149,Tryz.ntmps149
    go_wp2_with fail
    refine(qa8 b W).mono ?_;rintro e w' ⟨rfl,rfl⟩;rw[hd];clear hd e1
    go_wp2
    go_ret
    exact⟨by first|rfl|(simp<;>omega),rfl⟩
   ·by_cases h3:97<=b.toNat
    ·by_cases h4:b.toNat<=102
     ·have e1:qaT b=true:=by rw[qaT,hd];simp<;>omega
      rw[e1]
      go_enter Tryz.func149,Tryz.ntmps149
      go_wp2_with fail
      refine(qa8 b W).mono ?_;rintro e w' ⟨rfl,rfl⟩;rw[hd];clear hd e1
      go_wp2
      go_ret
      exact⟨by first|rfl|(simp<;>omega),rfl⟩
     ·have e1:qaT b=false:=by rw[qaT,hd];simp<;>omega
      rw[e1]
      go_enter Tryz.func149,Tryz.ntmps149
      go_wp2_with fail
      refine(qa8 b W).mono ?_;rintro e w' ⟨rfl,rfl⟩;rw[hd];clear hd e1
      go_wp2
      go_ret
      exact⟨by first|rfl|(simp<;>omega),rfl⟩
    ·have e1:qaT b=false:=by rw[qaT,hd];simp<;>omega
     rw[e1]
     go_enter Tryz.func149,Tryz.ntmps149
     go_wp2_with fail
     refine(qa8 b W).mono ?_;rintro e w' ⟨rfl,rfl⟩;rw[hd];clear hd e1
     go_wp2
     go_ret
     exact⟨by first|rfl|(simp<;>omega),rfl⟩
  ·have e1:qaT b=false:=by rw[qaT,hd];simp<;>omega
   rw[e1]
   go_enter Tryz.func149,Tryz.ntmps149
   go_wp2_with fail
   refine(qa8 b W).mono ?_;rintro e w' ⟨rfl,rfl⟩;rw[hd];clear hd e1
   go_wp2
   go_ret
   exact⟨by first|rfl|(simp<;>omega),rfl⟩
 ·have e1:qaT b=true:=by rw[qaT,hd];simp<;>omega
  rw[e1]
  go_enter Tryz.func149,Tryz.ntmps149
  go_wp2_with fail
  refine(qa8 b W).mono ?_;rintro e w' ⟨rfl,rfl⟩;rw[hd];clear hd e1
  go_wp2
  go_ret
  exact⟨by first|rfl|(simp<;>omega),rfl⟩
theorem qgu(b:UInt8)(W:World)(h:qaT b=true):Calls Tryz.prog 150 #[.int .u8 b.toNat] W fun e w'=>e= .returned (.int .i64 (val b))/\w'=W:=by
 have hb:=b.toNat_lt
 have h97:qbI b=false->97<=b.toNat\/(65<=b.toNat/\b.toNat<=70):=fun hd=>by
  rw[qaT,hd]at h;simp at h;omega
 have hd48:qbI b=true->48<=b.toNat:=fun hd=>(of_decide_eq_true hd).1;have H97:=Lib.hid h97;have H48:=Lib.hid hd48;clear h97 hd48 h;cases hd:qbI b
 ·have h3:=H97.out hd;have hv:val b=if 97<=b.toNat then(b.toNat:Int)-97+10 else(b.toNat:Int)-65+10:=by rw[val,hd];rfl
  rw[hv];clear hv;by_cases h4:97<=b.toNat
  ·rw[if_pos h4]
   go_enter Tryz.func150,Tryz.ntmps150
   go_wp2_with fail
   refine(qa8 b W).mono ?_;rintro e w' ⟨rfl,rfl⟩;rw[hd];clear hd
   go_wp2
   go_ret
   exact⟨by first|rfl|(simp<;>omega),rfl⟩
  ·rw[if_neg h4]
   go_enter Tryz.func150,Tryz.ntmps150
   go_wp2_with fail
   refine(qa8 b W).mono ?_;rintro e w' ⟨rfl,rfl⟩;rw[hd];clear hd
   go_wp2
   go_ret
   exact⟨by first|rfl|(simp<;>omega),rfl⟩
 ·have h3:=H48.out hd;have hv:val b=(b.toNat:Int)-48:=by rw[val,hd];rfl
  rw[hv];clear hv
  go_enter Tryz.func150,Tryz.ntmps150
  go_wp2_with fail
  refine(qa8 b W).mono ?_;rintro e w' ⟨rfl,rfl⟩;rw[hd];clear hd
  go_wp2
  go_ret
  exact⟨by first|rfl|(simp<;>omega),rfl⟩
theorem qhh(s:ByteArray)(most:Int)(hs:s.size<=140737488351232)(hm1: -9223372036854775808<=most)(hm2:most<=9223372036854775807)(W:World):
  Calls Tryz.prog 124 #[.string s,.int .i64 10,.int .i64 most] W fun e w'=>e= .returned (.tuple #[.int .i64 (qae 10 most s.data.toList).1,.int .i64 (qae 10 most s.data.toList).2])/\w'=W:=by
 go_enter Tryz.func124,Tryz.ntmps124
 by_cases he:s.data.toList=[]
 ·have hn:qae 10 most s.data.toList=(0,11):=by rw[qae,if_pos he]
  have he':s.toList.isEmpty=true:=by rw[qaX,he];rfl
  go_wp2
  go_ret2
  rw[hn];exact⟨rfl,rfl⟩
 ·have he':s.toList.isEmpty=false:=by rw[qaX];simpa using he
  have HE:=Lib.hid he;clear he
  go_wp2
  clear he'
  go_loopw [8] (fun i wr=>∃(k:Nat),k<=s.size/\i= .int .i64 k/\qaU 10 (s.data.toList.take k)=true/\wr=W) (fun i _=>s.size-(intOf i).toNat)
  case atStart=>exact⟨0,Nat.zero_le _,rfl,rfl,rfl⟩
  case round=>
   obtain⟨k,hk,rfl,hok,rfl⟩:=hrel;have HOK:=Lib.hid hok;clear hok;by_cases hlt:k<s.size
   ·obtain⟨x,hx⟩:∃x,s.data.toList[k]? =some x:=⟨_,zqD (by rw[qad];omega)⟩
    have hxb:s[k]'hlt=x:=qiG s k x hx hlt;have hostep:=qcF 10 _ _ _ hx;rw[HOK.out,Bool.true_and,<-qjy]at hostep;have HX:=Lib.hid hx;have HO:=Lib.hid hostep;clear hx hostep
    go_wp2_with fail
    refine(qa8 x wr).mono ?_;rintro e w' ⟨rfl,rfl⟩;cases hp:qbI x
    ·have hn:qae 10 most s.data.toList=(0,11):=by
      rw[qae,if_neg HE.out,if_pos (qdb 10 _ _ _ HX.out (of_decide_eq_false ((qjy x).symm.trans hp)))]
     have HN:=Lib.hid hn;clear hn hp
     go_wp2
     go_ret2
     rw[HN.out];exact⟨rfl,rfl⟩
    ·have HO2:=Lib.hid (HO.out.trans hp);clear hp
     go_wp2
     go_roundw
     case rel=>exact⟨k+1,by omega,by go_num,HO2.out,by trivial⟩
     case measure=>simp[intOf];omega
   ·obtain rfl:k=s.size:=by omega
    have hall:=HOK.out;rw[zqE (by rw[qad];omega)]at hall;have HALL:=Lib.hid hall;clear hall HOK hlt hk
    go_wp2
    have HN:Hid (qae 10 most s.data.toList=if most<0\/most<qbe 10 s.data.toList then(0,12)else(qbe 10 s.data.toList,0)):=by
     show qae 10 most s.data.toList=_;rw[qae,if_neg HE.out,if_neg (by rw[HALL.out];decide)]
    obtain⟨wo,hwo⟩:∃wo:World,wo=wr:=⟨_,rfl⟩
    subst hwo
    go_loopw [9,10] (fun n i wr=>∃(k:Nat) (v:Int),k<=s.size/\i= .int .i64 k/\n= .int .i64 v/\v=qbe 10 (s.data.toList.take k)/\0<=v/\(0<k->v<=most)/\wr=wo) (fun _ i _=>s.size-(intOf i).toNat)
    case atStart=>exact⟨0,0,Nat.zero_le _,rfl,rfl,rfl,Int.le_refl _,(fun h=>absurd h (by omega)),rfl⟩
    case round=>
     obtain⟨k,v,hk,rfl,rfl,hv,hv0,hvm,rfl⟩:=hrel;have HV:=Lib.hid hv;have HM:=Lib.hid hvm;clear hv hvm;by_cases hlt:k<s.size
     ·obtain⟨x,hx⟩:∃x,s.data.toList[k]? =some x:=⟨_,zqD (by rw[qad];omega)⟩
      have hxb:s[k]'hlt=x:=qiG s k x hx hlt
      have hd:0<=dig x/\dig x<10:=by
       have h:=HALL.out;unfold qaU at h;exact of_decide_eq_true (List.all_eq_true.1 h x (zqH hx))
      have hstep:=qcw 10 _ _ _ hx;rw[<-HV.out]at hstep;have hval:=qni x hd.1;have hmono:=qhE 10 (by omega) s.data.toList HALL.out (k+1);obtain⟨d,hdd⟩:∃d,d=dig x:=⟨_,rfl⟩
      have hhex:qaT x=true:=by rw[qcI];exact decide_eq_true ⟨hd.1,by omega⟩
      rw[<-hdd]at hd hstep hval;rw[hstep]at hmono;obtain⟨q,hq⟩:=exz ((most-d).tdiv 10)
      have hq1:d<=most->10*q<=most-d/\most-d<10*q+10:=fun h=>by
       rw[Int.tdiv_eq_ediv_of_nonneg (by omega)]at hq;omega
      have HS:=Lib.hid hstep;have HQ1:=Lib.hid hq1;have HMono:=Lib.hid hmono;have HHex:=Lib.hid hhex;clear hx hdd hq1 hstep hmono hhex
      go_wp2_with fail
      refine(qgu x wr HHex.out).mono ?_;rintro e w' ⟨rfl,rfl⟩;rw[hval];clear hval hxb
      have hbig:most<v*10+d->qae 10 most s.data.toList=(0,12):=fun h=>by
       rw[HN.out,if_pos (.inr (by have:=HMono.out;omega))]
      have HBig:=Lib.hid hbig;clear hbig;by_cases h1:most<d
      ·go_wp2
       go_ret2
       rw[HBig.out (by omega)];exact⟨rfl,rfl⟩
      ·have h2a:=(HQ1.out (by omega)).1;have h2b:=(HQ1.out (by omega)).2;by_cases h2:q<v
       ·go_wp2
        go_ret2
        rw[HBig.out (by omega)];exact⟨rfl,rfl⟩
       ·go_wp2
        go_roundw
        case rel=>exact⟨k+1,v*10+d,by omega,by go_num,by go_num,HS.out.symm,by omega,(fun _=>by omega),by trivial⟩
        case measure=>simp[intOf];omega
     ·obtain rfl:k=s.size:=by omega
      have hv:=HV.out;rw[zqE (by rw[qad];omega)]at hv
      have hpos:0<s.size:=by
       have:=HE.out;rcases Nat.eq_zero_or_pos s.size with h|h
       ·rw[<-qad]at h;exact absurd (List.eq_nil_of_length_eq_zero h) this
       ·exact h
      have hle:=HM.out hpos
      have HN2:Hid (qae 10 most s.data.toList=(v,0)):=by
       show _=_;rw[HN.out,<-hv,if_neg (by omega)]
      clear hv
      go_wp2
      go_ret2
      rw[HN2.out];exact⟨rfl,rfl⟩
theorem qhg(s:ByteArray)(most:Int)(hs:s.size<=140737488351232)(hm1: -9223372036854775808<=most)(hm2:most<=9223372036854775807)(W:World):
  Calls Tryz.prog 124 #[.string s,.int .i64 16,.int .i64 most] W fun e w'=>e= .returned (.tuple #[.int .i64 (qae 16 most s.data.toList).1,.int .i64 (qae 16 most s.data.toList).2])/\w'=W:=by
 go_enter Tryz.func124,Tryz.ntmps124
 by_cases he:s.data.toList=[]
 ·have hn:qae 16 most s.data.toList=(0,11):=by rw[qae,if_pos he]
  have he':s.toList.isEmpty=true:=by rw[qaX,he];rfl
  go_wp2
  go_ret2
  rw[hn];exact⟨rfl,rfl⟩
 ·have he':s.toList.isEmpty=false:=by rw[qaX];simpa using he
  have HE:=Lib.hid he;clear he
  go_wp2
  clear he'
  go_loopw [8] (fun i wr=>∃(k:Nat),k<=s.size/\i= .int .i64 k/\qaU 16 (s.data.toList.take k)=true/\wr=W) (fun i _=>s.size-(intOf i).toNat)
  case atStart=>exact⟨0,Nat.zero_le _,rfl,rfl,rfl⟩
  case round=>
   obtain⟨k,hk,rfl,hok,rfl⟩:=hrel;have HOK:=Lib.hid hok;clear hok;by_cases hlt:k<s.size
   ·obtain⟨x,hx⟩:∃x,s.data.toList[k]? =some x:=⟨_,zqD (by rw[qad];omega)⟩
    have hxb:s[k]'hlt=x:=qiG s k x hx hlt;have hostep:=qcF 16 _ _ _ hx;rw[HOK.out,Bool.true_and,<-qcI]at hostep;have HX:=Lib.hid hx;have HO:=Lib.hid hostep;clear hx hostep
    go_wp2_with fail
    refine(qi6 x wr).mono ?_;rintro e w' ⟨rfl,rfl⟩;cases hp:qaT x
    ·have hn:qae 16 most s.data.toList=(0,11):=by
      rw[qae,if_neg HE.out,if_pos (qdb 16 _ _ _ HX.out (of_decide_eq_false ((qcI x).symm.trans hp)))]
     have HN:=Lib.hid hn;clear hn hp
     go_wp2
     go_ret2
     rw[HN.out];exact⟨rfl,rfl⟩
    ·have HO2:=Lib.hid (HO.out.trans hp);clear hp
     go_wp2
     go_roundw
     case rel=>exact⟨k+1,by omega,by go_num,HO2.out,by trivial⟩
     case measure=>simp[intOf];omega
   ·obtain rfl:k=s.size:=by omega
    have hall:=HOK.out;rw[zqE (by rw[qad];omega)]at hall;have HALL:=Lib.hid hall;clear hall HOK hlt hk
    go_wp2
    have HN:Hid (qae 16 most s.data.toList=if most<0\/most<qbe 16 s.data.toList then(0,12)else(qbe 16 s.data.toList,0)):=by
     show qae 16 most s.data.toList=_;rw[qae,if_neg HE.out,if_neg (by rw[HALL.out];decide)]
    obtain⟨wo,hwo⟩:∃wo:World,wo=wr:=⟨_,rfl⟩
    subst hwo
    go_loopw [9,10] (fun n i wr=>∃(k:Nat) (v:Int),k<=s.size/\i= .int .i64 k/\n= .int .i64 v/\v=qbe 16 (s.data.toList.take k)/\0<=v/\(0<k->v<=most)/\wr=wo) (fun _ i _=>s.size-(intOf i).toNat)
    case atStart=>exact⟨0,0,Nat.zero_le _,rfl,rfl,rfl,Int.le_refl _,(fun h=>absurd h (by omega)),rfl⟩
    case round=>
     obtain⟨k,v,hk,rfl,rfl,hv,hv0,hvm,rfl⟩:=hrel;have HV:=Lib.hid hv;have HM:=Lib.hid hvm;clear hv hvm;by_cases hlt:k<s.size
     ·obtain⟨x,hx⟩:∃x,s.data.toList[k]? =some x:=⟨_,zqD (by rw[qad];omega)⟩
      have hxb:s[k]'hlt=x:=qiG s k x hx hlt
      have hd:0<=dig x/\dig x<16:=by
       have h:=HALL.out;unfold qaU at h;exact of_decide_eq_true (List.all_eq_true.1 h x (zqH hx))
      have hstep:=qcw 16 _ _ _ hx;rw[<-HV.out]at hstep;have hval:=qni x hd.1;have hmono:=qhE 16 (by omega) s.data.toList HALL.out (k+1);obtain⟨d,hdd⟩:∃d,d=dig x:=⟨_,rfl⟩
      have hhex:qaT x=true:=by rw[qcI];exact decide_eq_true ⟨hd.1,by omega⟩
      rw[<-hdd]at hd hstep hval;rw[hstep]at hmono;obtain⟨q,hq⟩:=exz ((most-d).tdiv 16)
      have hq1:d<=most->16*q<=most-d/\most-d<16*q+16:=fun h=>by
       rw[Int.tdiv_eq_ediv_of_nonneg (by omega)]at hq;omega
      have HS:=Lib.hid hstep;have HQ1:=Lib.hid hq1;have HMono:=Lib.hid hmono;have HHex:=Lib.hid hhex;clear hx hdd hq1 hstep hmono hhex
      go_wp2_with fail
      refine(qgu x wr HHex.out).mono ?_;rintro e w' ⟨rfl,rfl⟩;rw[hval];clear hval hxb
      have hbig:most<v*16+d->qae 16 most s.data.toList=(0,12):=fun h=>by
       rw[HN.out,if_pos (.inr (by have:=HMono.out;omega))]
      have HBig:=Lib.hid hbig;clear hbig;by_cases h1:most<d
      ·go_wp2
       go_ret2
       rw[HBig.out (by omega)];exact⟨rfl,rfl⟩
      ·have h2a:=(HQ1.out (by omega)).1;have h2b:=(HQ1.out (by omega)).2;by_cases h2:q<v
       ·go_wp2
        go_ret2
        rw[HBig.out (by omega)];exact⟨rfl,rfl⟩
       ·go_wp2
        go_roundw
        case rel=>exact⟨k+1,v*16+d,by omega,by go_num,by go_num,HS.out.symm,by omega,(fun _=>by omega),by trivial⟩
        case measure=>simp[intOf];omega
     ·obtain rfl:k=s.size:=by omega
      have hv:=HV.out;rw[zqE (by rw[qad];omega)]at hv
      have hpos:0<s.size:=by
       have:=HE.out;rcases Nat.eq_zero_or_pos s.size with h|h
       ·rw[<-qad]at h;exact absurd (List.eq_nil_of_length_eq_zero h) this
       ·exact h
      have hle:=HM.out hpos
      have HN2:Hid (qae 16 most s.data.toList=(v,0)):=by
       show _=_;rw[HN.out,<-hv,if_neg (by omega)]
      clear hv
      go_wp2
      go_ret2
      rw[HN2.out];exact⟨rfl,rfl⟩
theorem qie(s:ByteArray)(most:Int)(hs:s.size<=140737488351232)(hm1: -9223372036854775808<=most)(hm2:most<=9223372036854775807)(W:World):
  Calls Tryz.prog 92 #[.string s,.int .i64 most] W fun e w'=>e= .returned (.tuple #[.int .i64 (qae 10 most s.data.toList).1,.int .i64 (qae 10 most s.data.toList).2])/\w'=W:=by
 go_enter Tryz.func92,Tryz.ntmps92
 go_wp2_with fail
 refine(qhh s most hs hm1 hm2 W).mono ?_;rintro e w1 ⟨rfl,rfl⟩
 go_wp2
 go_ret2
 exact⟨rfl,rfl⟩
theorem qi5(s:ByteArray)(most:Int)(hs:s.size<=140737488351232)(hm1: -9223372036854775808<=most)(hm2:most<=9223372036854775807)(W:World):
  Calls Tryz.prog 147 #[.string s,.int .i64 most] W fun e w'=>e= .returned (.tuple #[.int .i64 (qae 16 most s.data.toList).1,.int .i64 (qae 16 most s.data.toList).2])/\w'=W:=by
 go_enter Tryz.func147,Tryz.ntmps147
 go_wp2_with fail
 refine(qhg s most hs hm1 hm2 W).mono ?_;rintro e w1 ⟨rfl,rfl⟩
 go_wp2
 go_ret2
 exact⟨rfl,rfl⟩
section
variable (E:Env)(H:Hp)(Q:AV->Hp->Prop)
theorem qdv(l:List UInt8)(hl:l.length<=cap)(hQ:Q (.str (low l)) H):PC Tryz.prog E 68 [.str l] H Q:=by
 refine qar (v:= .str (low l)) (by kernel_rfl) (fun _=>True) (fun w hw=>trivial) (fun w β Rd cargs hS hsz hargs=>?_) (.str _) rfl hQ;obtain⟨u,rfl,hu⟩:=args1 hsz hargs;obtain⟨s,rfl,rfl,hs⟩:=qax hu;refine(qkm s (by rw[<-qad];exact hl) w).mono ?_;rintro e w' ⟨rfl,hf⟩;exact⟨_,rfl,hf,qdP _ (qfA (by rw[qaL];exact hl))⟩
theorem qdw(b:UInt8)(hQ:Q (.bool (qbI b)) H):PC Tryz.prog E 64 [.int .u8 (b.toNat:Int)] H Q:=by
 refine qar (v:= .bool (qbI b)) (by kernel_rfl) (fun _=>True) (fun w hw=>trivial) (fun w β Rd cargs hS hsz hargs=>?_) (.bool _) rfl hQ;obtain⟨u,rfl,hu⟩:=args1 hsz hargs;obtain rfl:=qay hu;refine(qa8 b w).mono ?_;rintro e w' ⟨rfl,rfl⟩;exact⟨_,rfl,Frm.refl _ _,.bool _⟩
theorem qfJ(b:UInt8)(hQ:Q (.bool (qcH b)) H):PC Tryz.prog E 65 [.int .u8 (b.toNat:Int)] H Q:=by
 refine qac Tryz.func65 rfl [] [] (by kernel_rfl) (fun hB=>?_);have fin:∀c:Bool,qcH b=c->Q (.bool c) H:=fun c hc=>hc▸hQ;by_cases h1:65<=b.toNat
 ·have t1:(65:Int)<=b.toNat:=by omega
  by_cases h2:b.toNat<=90
  ·have t2:(b.toNat:Int)<=90:=by omega
   simp[Tryz.ntmps65,Tryz.results65,List.replicate_succ,t1,t2];exact aQz hB (h6:=(fin _ (by simp[qcH,h1,h2])))
  ·have t2:¬(b.toNat:Int)<=90:=by omega
   by_cases h3:97<=b.toNat
   ·have t3:(97:Int)<=b.toNat:=by omega
    by_cases h4:b.toNat<=122
    ·have t4:(b.toNat:Int)<=122:=by omega
     simp[Tryz.ntmps65,Tryz.results65,List.replicate_succ,t1,t2,t3,t4];exact aQz hB (h6:=(fin _ (by simp[qcH,h3,h4])))
    ·have t4:¬(b.toNat:Int)<=122:=by omega
     simp[Tryz.ntmps65,Tryz.results65,List.replicate_succ,t1,t2,t3,t4];exact aQz hB (h6:=(fin _ (by simp[qcH,h2,h4])))
   ·have t3:¬(97:Int)<=b.toNat:=by omega
    simp[Tryz.ntmps65,Tryz.results65,List.replicate_succ,t1,t2,t3];exact aQz hB (h6:=(fin _ (by simp[qcH,h2,h3])))
 ·have t1:¬(65:Int)<=b.toNat:=by omega
  have t3:¬(97:Int)<=b.toNat:=by omega
  simp[Tryz.ntmps65,Tryz.results65,List.replicate_succ,t1,t3];exact aQz hB (h6:=(fin _ (by simp[qcH,h1];omega)))
def qnO(b:UInt8)(H:Hp)(fr:List AV)(H':Hp):Prop:=H'=H/\∃i:Nat,i<=15/\(sgs.take i).contains b=false/\∃x:Nat->AV,fr=[.int .u8 (b.toNat:Int),x 1,x 2,.str sgs,.int .i64 i,x 5,x 6,x 7,x 8,x 9,x 10,x 11,x 12,x 13,x 14,x 15,x 16,x 17,x 18,x 19,x 20,x 21]
theorem qhw(b:UInt8)(hQ:Q (.bool (qap b)) H):PC Tryz.prog E 48 [.int .u8 (b.toNat:Int)] H Q:=by
 refine qac Tryz.func48 rfl [] [] (by kernel_rfl) (fun hB=>?_);have fin:∀c:Bool,qap b=c->Q (.bool c) H:=fun c hc=>hc▸hQ;simp[Tryz.ntmps48,Tryz.results48,List.replicate_succ];refine qdw E _ _ b ?_;cases hd:qbI b
 ·simp;refine qfJ E _ _ b ?_;cases hl:qcH b
  ·simp;refine qaB (qnO b H) (fun fr _=>15-(ai (aget fr 4)).toNat) ⟨rfl,0,by omega,rfl,qam (by simp[sgs])⟩ ?_;rintro fr H' ⟨rfl,i,hi,hall,x,rfl⟩;have hlen:sgs.length=15:=rfl;by_cases h:i<15
   ·obtain⟨c,hc⟩:∃c,sgs[i]? =some c:=⟨_,zqD (by rw[hlen];exact h)⟩
    have hat:=qaq hc;have h15:(i:Int)<15:=by omega
    have hw:IntKind.i64.wrap ((i:Int)+1)=i+1:=wiz;by_cases he:c=b
    ·have t1:((c.toNat:Int)==(b.toNat:Int))=true:=by simp[he]
     simp[hlen,h15,hat,t1];refine aQz hB (h6:=(fin _ ?_));rw[<-qa7,show sgs.contains b=true by rw[List.contains_iff_mem,<-he];exact zqH hc];simp
    ·have t1:((c.toNat:Int)==(b.toNat:Int))=false:=by
      rw[beq_eq_false_iff_ne];intro hh;exact he (UInt8.toNat_inj.1 (by omega))
     simp[hlen,h15,hat,t1,hw];refine Klz ⟨rfl,i+1,by omega,?_,friz⟩;rw[List.take_add_one,hc];simp at hall;simp[hall];exact fun e=>he e.symm
   ·obtain rfl:i=15:=by omega
    simp[hlen];refine aQz hB (h6:=(fin _ ?_));rw[<-qa7,hd,hl];exact hall
  ·simp;refine aQz hB (h6:=(fin _ ?_));rw[<-qa7,hl];simp
 ·simp;refine aQz hB (h6:=(fin _ ?_));rw[<-qa7,hd];simp
end
section
variable (E:Env){H:Hp}(Q:AV->Hp->Prop)
theorem qln(b:UInt8)(hQ:Q (.bool (qaT b)) H):PC Tryz.prog E 149 [.int .u8 (b.toNat:Int)] H Q:=by
 refine qar (v:= .bool (qaT b)) (by kernel_rfl) (fun _=>True) (fun w hw=>trivial) (fun w β Rd cargs hS hsz hargs=>?_) (.bool _) rfl hQ;obtain⟨u,rfl,hu⟩:=args1 hsz hargs;obtain rfl:=qay hu;refine(qi6 b w).mono ?_;rintro e w' ⟨rfl,rfl⟩;exact⟨_,rfl,Frm.refl _ _,.bool _⟩
theorem qdQ(l:List UInt8)(most:Int)(hl:l.length<=cap)(hm1: -9223372036854775808<=most)(hm2:most<=9223372036854775807)(hQ:Q (.tup [.int .i64 (qae 10 most l).1,.int .i64 (qae 10 most l).2]) H):
  PC Tryz.prog E 92 [.str l,.int .i64 most] H Q:=by
 refine qar (v:= .tup [.int .i64 (qae 10 most l).1,.int .i64 (qae 10 most l).2]) (by kernel_rfl) (fun _=>True) (fun w hw=>trivial) (fun w β Rd cargs hS hsz hargs=>?_) (.tup _ (fun x hx=>by simp at hx;rcases hx with rfl|rfl<;>exact .int _ _)) rfl hQ;obtain⟨u,v,rfl,hu,hv⟩:=args2 hsz hargs;obtain⟨s,rfl,rfl,hs⟩:=qax hu;obtain rfl:=qay hv;rw[qad]at hl;refine(qie s most hl hm1 hm2 w).mono ?_;rintro e w' ⟨rfl,hw⟩;refine⟨_,rfl,by first|exact hw|(subst hw;exact Frm.refl _ _),.tup _ _ rfl (by simp[AV.free]) fun k x u hx hu=>?_⟩
 match k with
 |0=>simp at hx hu;subst hx;subst hu;exact .int _ _
 |1=>simp at hx hu;subst hx;subst hu;exact .int _ _
 |k+2=>simp at hx
theorem qkl(l:List UInt8)(most:Int)(hl:l.length<=cap)(hm1: -9223372036854775808<=most)(hm2:most<=9223372036854775807)(hQ:Q (.tup [.int .i64 (qae 16 most l).1,.int .i64 (qae 16 most l).2]) H):
  PC Tryz.prog E 147 [.str l,.int .i64 most] H Q:=by
 refine qar (v:= .tup [.int .i64 (qae 16 most l).1,.int .i64 (qae 16 most l).2]) (by kernel_rfl) (fun _=>True) (fun w hw=>trivial) (fun w β Rd cargs hS hsz hargs=>?_) (.tup _ (fun x hx=>by simp at hx;rcases hx with rfl|rfl<;>exact .int _ _)) rfl hQ;obtain⟨u,v,rfl,hu,hv⟩:=args2 hsz hargs;obtain⟨s,rfl,rfl,hs⟩:=qax hu;obtain rfl:=qay hv;rw[qad]at hl;refine(qi5 s most hl hm1 hm2 w).mono ?_;rintro e w' ⟨rfl,hw⟩;refine⟨_,rfl,by first|exact hw|(subst hw;exact Frm.refl _ _),.tup _ _ rfl (by simp[AV.free]) fun k x u hx hu=>?_⟩
 match k with
 |0=>simp at hx hu;subst hx;subst hu;exact .int _ _
 |1=>simp at hx hu;subst hx;subst hu;exact .int _ _
 |k+2=>simp at hx
end
end Go.Proofs.YtnnhdehmlkkfjaaGreatDoor
namespace Go.Proofs.YtnnhdehmlkkfjaaGreatDoor
open Go Go.RowKit Go.Proofs
def lnb(l:List UInt8):Bool:=match l with
 |[]=>false
 |a::_=>qah a
def qaO(l:List UInt8):Fld×Int×Int:=
 if lnb l=true then((⟨[],[]⟩:Fld),0,63)else if l.length<=run ncol l then((⟨[],[]⟩:Fld),l.length,62)else if run ncol l=0 then((⟨[],[]⟩:Fld),0,60)
 else if min (run qap l) 128<run ncol l then((⟨[],[]⟩:Fld),(min (run qap l) 128:Nat),60)
 else if run fcB (l.drop (run ncol l+1))<(l.drop (run ncol l+1)).length then((⟨[],[]⟩:Fld),(run ncol l+1+run fcB (l.drop (run ncol l+1)):Nat),61)
 else if 8192<(qaI (l.drop (run ncol l+1))).length then((⟨[],[]⟩:Fld),(run ncol l+1+run qah (l.drop (run ncol l+1))+8192:Nat),61)
 else(⟨l.take (run ncol l),qaI (l.drop (run ncol l+1))⟩,0,0)
theorem rb_le(l:List UInt8):run qah l<=l.length:=qbh qah l
theorem qqu(l:List UInt8):((l.length:Int)-(Lib.trimLeftS l [32,9]).length)=run qah l:=by
 have e:Lib.trimLeftS l [32,9]=l.dropWhile qah:=by unfold Lib.trimLeftS;rw[qlc]
 rw[e];have h:=congrArg List.length (List.takeWhile_append_dropWhile (p:=qah) (l:=l));rw[zqK]at h;unfold run;omega
theorem qlh(p:UInt8->Bool):∀(n:Nat) (l:List UInt8),(l.take n).all p=true->n<=l.length->n<=run p l
 |0,_,_,_=>Nat.zero_le _
 |n+1,[],_,h=>by simp at h
 |n+1,a::l,h,hn=>by
  simp only[List.take_succ_cons,List.all_cons,Bool.and_eq_true]at h;have:=qlh p n l h.2 (by simpa using hn);unfold run at this⊢;rw[List.takeWhile_cons,if_pos h.1];simpa using this
theorem qiY{p:UInt8->Bool}{l:List UInt8}(h:l.all p=true):run p l=l.length:=by
 have:=qlh p l.length l (by rw[List.take_length];exact h) (Nat.le_refl _);have:=qbh p l;omega
section
variable {l:List UInt8}(hf:lnb l=false)
theorem qjp:qaO []=((⟨[],[]⟩:Fld),0,62):=rfl
theorem qhL(a:UInt8)(r:List UInt8)(h:qah a=true):qaO (a::r)=((⟨[],[]⟩:Fld),0,63):=by unfold qaO;rw[if_pos (show lnb (a::r)=true from h)]
include hf
theorem qgH(h:l.length<=run ncol l):qaO l=((⟨[],[]⟩:Fld),(l.length:Int),62):=by unfold qaO;rw[if_neg (by rw[hf];simp),if_pos h]
theorem qhI(h1:run ncol l<l.length)(h:run ncol l=0):qaO l=((⟨[],[]⟩:Fld),0,60):=by unfold qaO;rw[if_neg (by rw[hf];simp),if_neg (by omega),if_pos h]
theorem qhJ(h1:run ncol l<l.length)(h2:run ncol l≠0)(h:min (run qap l) 128<run ncol l):qaO l=((⟨[],[]⟩:Fld),((min (run qap l) 128:Nat):Int),60):=by unfold qaO;rw[if_neg (by rw[hf];simp),if_neg (by omega),if_neg h2,if_pos h]
theorem qhK(h1:run ncol l<l.length)(h2:run ncol l≠0){i:Nat}(hall:(l.take i).all qap=true)(hi:128<=i)(hi2:i<=128)(h:i<run ncol l):qaO l=((⟨[],[]⟩:Fld),(i:Int),60):=by
 have:=qlh qap i l hall (by omega);have e:min (run qap l) 128=i:=by omega
 rw[qhJ hf h1 h2 (by omega),e]
theorem qjr(h1:run ncol l<l.length)(h2:run ncol l≠0){i:Nat}{b:UInt8}(hall:(l.take i).all qap=true)(hi:i<=128)(h:i<run ncol l)(hb:l[i]? =some b)(hs:qap b=false):qaO l=((⟨[],[]⟩:Fld),(i:Int),60):=by
 have:=qbn qap l i hall (by omega) (fun c hc=>by rw[hb]at hc;cases hc;exact hs);have e:min (run qap l) 128=i:=by omega
 rw[qhJ hf h1 h2 (by omega),e]
omit hf in
theorem qij(h1:run ncol l<l.length)(hn:qbK (l.take (run ncol l))=true):¬min (run qap l) 128<run ncol l:=by
 unfold qbK tokB at hn;simp only[Bool.and_eq_true,decide_eq_true_eq]at hn;rw[zqJ]at hn;have:=qlh qap (run ncol l) l hn.2.1 (by omega);omega
omit hf in
theorem qkv(hn:qbK (l.take (run ncol l))=true):run ncol l≠0:=fun e=>by rw[e,List.take_zero]at hn;rw[qji]at hn;cases hn
theorem qjn(h1:run ncol l<l.length)(hn:qbK (l.take (run ncol l))=true){i:Nat}{b:UInt8}(hi:run ncol l+1<=i)(hall:fldB ((l.drop (run ncol l+1)).take (i-(run ncol l+1)))=true)(hb:(l.drop (run ncol l+1))[i-(run ncol l+1)]? =some b)(hs:fcB b=false):
  qaO l=((⟨[],[]⟩:Fld),((run ncol l+1+(i-(run ncol l+1)):Nat):Int),61):=by
 have hlt:=(zqC.1 hb).1;have:=qbn fcB (l.drop (run ncol l+1)) _ hall (by omega) (fun c hc=>by rw[hb]at hc;cases hc;exact hs);unfold qaO;rw[if_neg (by rw[hf];simp),if_neg (by omega),if_neg (qkv hn),if_neg (qij h1 hn),this,if_pos hlt]
theorem qjq(h1:run ncol l<l.length)(hn:qbK (l.take (run ncol l))=true)(hv:fldB (l.drop (run ncol l+1))=true)(h:8192<(qaI (l.drop (run ncol l+1))).length):
  qaO l=((⟨[],[]⟩:Fld),((run ncol l+1+run qah (l.drop (run ncol l+1))+8192:Nat):Int),61):=by
 have:=qiY hv;unfold qaO;rw[if_neg (by rw[hf];simp),if_neg (by omega),if_neg (qkv hn),if_neg (qij h1 hn),if_neg (by omega),if_pos h]
theorem qjm(h1:run ncol l<l.length)(hn:qbK (l.take (run ncol l))=true)(hv:fldB (l.drop (run ncol l+1))=true)(h:¬8192<(qaI (l.drop (run ncol l+1))).length):
  qaO l=(⟨l.take (run ncol l),qaI (l.drop (run ncol l+1))⟩,0,0):=by
 have:=qiY hv;unfold qaO;rw[if_neg (by rw[hf];simp),if_neg (by omega),if_neg (qkv hn),if_neg (qij h1 hn),if_neg (by omega),if_neg h]
end
section
variable (E:Env)(H:Hp)(Q:AV->Hp->Prop)
theorem qiO(l:List UInt8)(hl:l.length<=cap)(hQ:Q (.str (Lib.trimLeftS l [32,9])) H):PC Tryz.prog E 200 [.str l,.str [32,9]] H Q:=by
 have hle:(Lib.trimLeftS l [32,9]).length<=l.length:=by
  unfold Lib.trimLeftS;exact(List.dropWhile_sublist _).length_le
 refine qar (v:= .str (Lib.trimLeftS l [32,9])) (by kernel_rfl) (fun _=>True) (fun w hw=>trivial) (fun w β Rd cargs hS hsz hargs=>?_) (.str _) rfl hQ;obtain⟨u,v,rfl,hu,hv⟩:=args2 hsz hargs;obtain⟨s,rfl,rfl,hs⟩:=qax hu;obtain⟨t,rfl,ht,_⟩:=qax hv;have h116:(Tryz.prog.info? (lren.t 116)).map (fun i=>(i.zero,i.size))=some (some (.agg (Array.replicate 256 (.bool false))),256):=by kernel_rfl
 have htl:t.size=2:=by rw[<-qad,ht];rfl
 refine(Any.strings_TrimLeft_ascii lays161 (zero_of_info h116).1 (zero_of_info h116).2 s t w (by rw[htl];omega) (fun j b hb=>by
  rw[ht]at hb
  match j with
  |0=>simp at hb;subst hb;decide
  |1=>simp at hb;subst hb;decide
  |j+2=>simp at hb)).mono ?_
 rintro e w' ⟨rfl,hb⟩;rw[ht];exact⟨_,rfl,qbY hb,qdP _ (qfA (Nat.le_trans hle hl))⟩
theorem qif(hE:SE E)(l:List UInt8)(hl:l.length<=cap)(hQ:Q (.tup [.agg [.str (qaO l).1.name,.str (qaO l).1.value],.int .i64 (qaO l).2.1,.int .i64 (qaO l).2.2]) H):
  PC Tryz.prog E 167 [.str l] H Q:=by
 refine qac Tryz.func167 rfl [] [] (by kernel_rfl) (fun hB=>?_);have hl':=hl;simp only[cap]at hl';obtain⟨c,hc⟩:=exz (run ncol l);have hcl:=qbh ncol l;rw[hc]at hcl;have hib:=qcq l;rw[hc]at hib
 have bad:∀(fr:List AV) (pl e:Int),qaO l=((⟨[],[]⟩:Fld),pl,e)->aget fr 2= .ptr (some (H.length,0))->aget fr 3= .int .i64 pl->aget fr 4= .int .i64 e->qbU Tryz.prog [ResultVar.cell 2 65,ResultVar.tmp 3,ResultVar.tmp 4] H.length Q .ret fr (H++[[.str [],.str []]]):=fun fr pl e h0 h2 h3 h4=>
  qab hB (v0:= .tup [.agg [.str [],.str []],.int .i64 pl,.int .i64 e]) (by simp[h2,h3,h4]) (qaa _) (by simp) (by rw[h0]at hQ;exact hQ)
 have hcase:l=[]\/(∃a r,l=a::r/\qah a=true)\/(∃a r,l=a::r/\qah a=false):=by
  cases l with
  |nil=>exact .inl rfl
  |cons a r=>
   cases hb:qah a
   ·exact .inr (.inr ⟨a,r,rfl,hb⟩)
   ·exact .inr (.inl ⟨a,r,rfl,hb⟩)
 rcases hcase with rfl|⟨a,r,rfl,hb⟩|⟨a,r,hl0,hb⟩
 ·simp[Tryz.ntmps167,Tryz.results167,List.replicate_succ];refine qaz E _ _ [] 58 ?_;have e0:Lib.indexByte [] 58= -1:=rfl;rw[e0];simp;exact bad _ 0 62 qjp rfl rfl rfl
 ·have hc0:=qhL a r hb;have hib2:0<=Lib.indexByte [32,9] a:=by rw[qf5];exact hb
  have hne:(a::r !=[])=true:=rfl;simp[Tryz.ntmps167,Tryz.results167,List.replicate_succ,hne];refine qaz E _ _ [32,9] a ?_;simp[hib2];exact bad _ 0 63 hc0 rfl rfl rfl
 ·have hib2:¬0<=Lib.indexByte [32,9] a:=by rw[qf5,hb];simp
  have hne:(l !=[])=true:=by rw[hl0];rfl
  have hl1:0<l.length:=by rw[hl0];simp
  have hla:lat l 0=some a:=by rw[hl0];rfl
  simp[Tryz.ntmps167,Tryz.results167,List.replicate_succ,hne,hl1,hla];refine qaz E _ _ [32,9] a ?_;simp[hib2];refine qaz E _ _ l 58 ?_;rw[hib];have hnf:lnb l=false:=by rw[hl0];exact hb
  clear hib2 hne hla hl0 hib;by_cases hcc:c<l.length;rotate_left
  ·have hno:=qgH hnf (by omega);simp[hcc];exact bad _ l.length 62 hno rfl rfl rfl
  ·by_cases hz:c=0
   ·have hno:=qhI hnf (by omega) (by omega);subst hz;simp[hcc];exact bad _ 0 60 hno rfl rfl rfl
   ·have hz2:((c:Int)==0)=false:=by simp;omega
    simp[hcc,hz,hz2];subst hc;refine qaB (qry l H) (fun fr _=>run ncol l-(ai (aget fr 33)).toNat) ⟨rfl,0,by omega,by omega,by simp,friz⟩ ?_;rintro fr H' ⟨rfl,i,hi,hi2,hall,x,rfl⟩;by_cases h:i<run ncol l
    ·obtain⟨b,hbi⟩:∃b,l[i]? =some b:=⟨_,zqD (by omega)⟩
     by_cases h128:128<=i
     ·have hno:=qhK hnf (by omega) (by omega) hall (by omega) (by omega) h;have h128':(128:Int)<=i:=by omega
      simp[h,h128'];exact bad _ i 60 hno rfl rfl rfl
     ·have h128':¬(128:Int)<=i:=by omega
      have hw:IntKind.i64.wrap ((i:Int)+1)=i+1:=wiz;have t1:((i:Int)+1).toNat=i+1:=by omega
      have t2:(0:Int)<=i+1:=by omega
      have t3:(l.drop i).take 1=[b]:=by rw[qas l i b hbi];rfl
      have t4:i+1<=l.length:=by omega
      have ht:tokB [b]=qap b:=by simp[tokB]
      simp[h,h128',hw,t1,t2,t3,t4];refine qdg E _ _ hE [b] (by simp[cap]) ?_;rw[ht];cases hs:qap b with
      |false=>
       have hno:=qjr hnf (by omega) (by omega) hall (by omega) h hbi hs;simp;exact bad _ i 60 hno rfl rfl rfl
      |true=>
       simp[hw];refine qaD ?_ ?_;rotate_left
       ·simp;omega
       refine⟨rfl,i+1,by omega,by omega,?_,friz⟩;rw[qbg qap l i b hbi,hall,hs];rfl
    ·obtain rfl:i=run ncol l:=by omega
     have hnm:qbK (l.take (run ncol l))=true:=by
      unfold qbK tokB;rw[hall,decide_eq_true (by rw[zqJ];omega)];have:l.take (run ncol l)≠[]:=by intro e;have h2:=congrArg List.length e;rw[zqJ]at h2;have h3:min (run ncol l) l.length=0:=h2;omega
      cases he:l.take (run ncol l)with
      |nil=>exact absurd he this
      |cons _ _=>rfl
     have hw1:IntKind.i64.wrap (((run ncol l:Nat):Int)+1)=((run ncol l+1:Nat):Int):=by rw[qai (by omega) (by omega)];omega
     clear hall;simp[h,hw1,-Int.natCast_add];refine qaB (qrx l H) (fun fr _=>l.length-(ai (aget fr 7)).toNat) ⟨rfl,run ncol l+1,by omega,by omega,by rw[Nat.sub_self,List.take_zero];rfl,friz⟩ ?_;clear hw1;rintro fr H' ⟨rfl,i,hi1,hi2,hall,x,rfl⟩;by_cases h:i<l.length
     ·obtain⟨b,hbi⟩:∃b,l[i]? =some b:=⟨_,zqD h⟩
      have hbd:(l.drop (run ncol l+1))[i-(run ncol l+1)]? =some b:=by rw[zqN,show run ncol l+1+(i-(run ncol l+1))=i by omega];exact hbi
      have hw:IntKind.i64.wrap ((i:Int)+1)=i+1:=wiz;have t1:((i:Int)+1).toNat=i+1:=by omega
      have t2:(0:Int)<=i+1:=by omega
      have t3:(l.drop i).take 1=[b]:=by rw[qas l i b hbi];rfl
      have t4:i+1<=l.length:=by omega
      have ht:fldB [b]=fcB b:=by simp[fldB]
      simp[h,hw,t1,t2,t3,t4];refine qhQ E _ _ [b] (by simp[cap]) ?_;rw[ht];cases hs:fcB b with
      |false=>
       have hno:=qjn hnf (by omega) hnm (by omega) hall hbd hs;simp;exact bad _ i 61 (by rw[hno];congr 2;omega) rfl rfl rfl
      |true=>
       simp[hw];refine qaD ?_ ?_;rotate_left
       ·simp;omega
       refine⟨rfl,i+1,by omega,by omega,?_,friz⟩;rw[show i+1-(run ncol l+1)=(i-(run ncol l+1))+1 by omega];unfold fldB at hall⊢;rw[qbg fcB _ _ b hbd,hall,hs];rfl
     ·obtain rfl:i=l.length:=by omega
      have hfl:fldB (l.drop (run ncol l+1))=true:=by rw[zqE (by rw[zqI];omega)]at hall;exact hall
      clear hall h;obtain⟨c,hc⟩:=exz (run ncol l);rw[hc]at hcl hcc hz hz2 hnm hfl hi1;have hw1:IntKind.i64.wrap ((c:Int)+1)=((c+1:Nat):Int):=by rw[qai (by omega) (by omega)];omega
      have t4:c+1<=l.length:=by omega
      simp[hc,hw1,t4,-Int.natCast_add];refine qh7 E _ _ (l.drop (c+1)) (by rw[zqI];simp only[cap];omega) ?_;by_cases hbig:8192<(qaI (l.drop (c+1))).length
      ·have hbig':(8192:Int)<(qaI (l.drop (c+1))).length:=by omega
       have hno:=qjq hnf (by omega) (by rw[hc];exact hnm) (by rw[hc];exact hfl) (by rw[hc];exact hbig);simp[hbig'];refine qiO E _ _ (l.drop (c+1)) (by rw[zqI];simp only[cap];omega) ?_;have hle:=rb_le (l.drop (c+1));rw[zqI]at hle;have hdl:(l.drop (c+1)).length=l.length-(c+1):=zqI;obtain⟨rb,hrb⟩:=exz (run qah (l.drop (c+1)));have hld:=qqu (l.drop (c+1));rw[hc,hrb]at hno;rw[hrb]at hle hld;rw[hdl]at hld;have hwA:IntKind.i64.wrap ((c:Int)+1)=c+1:=wiz;have hwB:IntKind.i64.wrap (((l.length-(c+1):Nat):Int)-(Lib.trimLeftS (l.drop (c+1)) [32,9]).length)=rb:=by rw[hld,qai (by omega) (by omega)]
       have hwC:IntKind.i64.wrap ((c:Int)+1+rb)=c+1+rb:=wiz;have hwD:IntKind.i64.wrap ((c:Int)+1+rb+8192)=c+1+rb+8192:=wiz;simp[hwA,hwB,hwC,hwD];exact bad _ ((c:Int)+1+rb+8192) 61 (by rw[hno];simp) rfl rfl rfl
      ·have hbig':¬(8192:Int)<(qaI (l.drop (c+1))).length:=by omega
       have hyes:=qjm hnf (by omega) (by rw[hc];exact hnm) (by rw[hc];exact hfl) (by rw[hc];exact hbig);rw[hc]at hyes;rw[hyes]at hQ;simp[hbig',hcl];exact qab hB (v0:= .tup [.agg [.str (l.take c),.str (qaI (l.drop (c+1)))],.int .i64 0,.int .i64 0]) (by simp) (qaa _) (by simp) hQ
end
abbrev TU:TypeId:=5
section
variable (E:Env)(H:Hp)(Q:AV->Hp->Prop)
end
set_option linter.unnecessarySimpa false
def u8L(l:List UInt8):List AV:=l.map fun b=> .int .u8 (b.toNat:Int)
@[simp] theorem u8L_length (l:List UInt8):(u8L l).length=l.length:=by simp[u8L]
def qnv(strs:List (List UInt8)):List (List AV):=strs.map fun s=>[.str s]
section
variable (E:Env)(H:Hp)(Q:AV->Hp->Prop)
end
@[simp] theorem tblfB:tblf Tryz.prog 120=some TU:=by kernel_rfl
section
variable (E:Env)(H:Hp)(Q:AV->Hp->Prop)
end
def fsz:List Fld->Nat
 |[]=>0
 |f::l=>f.name.length+f.value.length+fsz l
theorem qkG{l:List Fld}{i:Nat}{f:Fld}(h:l[i]? =some f):f.name.length+f.value.length<=fsz l:=by
 induction l generalizing i with
 |nil=>simp at h
 |cons q l ih=>
  cases i with
  |zero=>simp at h;subst h;simp[fsz]
  |succ i=>have:=ih (i:=i) (by simpa using h);simp[fsz];omega
def qkz(a b:List UInt8):Bool:=low a==low b
def allB(l:List Fld)(n:List UInt8):List (List UInt8):=(l.filter fun f=>qkz f.name n).map fun f=>f.value
theorem qjW(l:List Fld)(n:List UInt8)(i:Nat)(f:Fld)(h:l[i]? =some f):allB (l.take (i+1)) n=allB (l.take i) n++(if qkz f.name n=true then [f.value]else []):=by
 unfold allB;rw[List.take_add_one,h];simp only[Option.toList,List.filter_append,List.map_append];congr 1;by_cases hl:qkz f.name n=true
 ·rw[if_pos hl,List.filter_cons,if_pos hl];rfl
 ·rw[if_neg hl,List.filter_cons,if_neg hl];rfl
theorem ql1(l:List Fld)(n:List UInt8):(allB l n).length<=l.length:=by
 unfold allB;rw[List.length_map];exact List.length_filter_le _ _
def vsz:List (List UInt8)->Nat
 |[]=>0
 |x::r=>x.length+1+vsz r
theorem qrW(a b:List (List UInt8)):vsz (a++b)=vsz a+vsz b:=by
 induction a with
 |nil=>simp[vsz]
 |cons x a ih=>simp[vsz,ih];omega
theorem qdo(l:List Fld)(n:List UInt8):vsz (allB l n)<=fsz l+l.length:=by
 induction l with
 |nil=>simp[allB,vsz]
 |cons f l ih=>
  unfold allB at ih⊢;rw[List.filter_cons];simp only[fsz,zqL];split
  ·simp only[List.map_cons,vsz];omega
  ·omega
theorem qk5(l:List (List UInt8))(i:Nat):vsz (l.take i)<=vsz l:=by
 have:=congrArg vsz (List.take_append_drop i l);rw[qrW]at this;omega
theorem qnb{l:List (List UInt8)}{i:Nat}{x:List UInt8}(h:l[i]? =some x):x.length+1<=vsz l:=by
 induction l generalizing i with
 |nil=>simp at h
 |cons a l ih=>
  cases i with
  |zero=>simp at h;subst h;simp[vsz]
  |succ i=>simp at h;have:=ih h;simp[vsz];omega
theorem qnc(l:List (List UInt8)):l.length<=vsz l:=by
 induction l with
 |nil=>simp
 |cons a l ih=>simp[vsz];omega
def qaV:List (List UInt8)->Option (List (List UInt8))
 |[]=>some []
 |v::r=>match qdK v with
  |none=>none
  |some x=>(qaV r).map (x++·)
theorem qfv:∀(a b:List (List UInt8)),qaV (a++b)=match qaV a with
  |none=>none
  |some x=>(qaV b).map (x++·)
 |[],b=>by
  show qaV b=(qaV b).map (fun y=>[]++y);cases qaV b<;>simp
 |v::a,b=>by
  rw[List.cons_append,qaV,qfv a b,qaV];cases qdK v with
  |none=>rfl
  |some x=>
   cases qaV a with
   |none=>rfl
   |some y=>cases qaV b<;>simp
theorem qgF{vs:List (List UInt8)}{i:Nat}{v:List UInt8}{acc x:List (List UInt8)}(h:vs[i]? =some v)(ha:qaV (vs.take i)=some acc)(hv:qdK v=some x):qaV (vs.take (i+1))=some (acc++x):=by
 rw[List.take_add_one,h,Option.toList,qfv,ha];simp[qaV,hv]
theorem qgE{vs:List (List UInt8)}{i:Nat}{v:List UInt8}(h:vs[i]? =some v)(hv:qdK v=none):qaV vs=none:=by
 have hi:=(zqC.1 h).1
 have e:vs=vs.take i++(v::vs.drop (i+1)):=by
  rw[<-(zqC.1 h).2,<-List.drop_eq_getElem_cons hi,List.take_append_drop]
 rw[e,qfv];cases qaV (vs.take i)with
 |none=>rfl
 |some y=>simp[qaV,hv]
theorem qbT:∀(vs acc:List (List UInt8)),qaV vs=some acc->acc.length<=vsz vs
 |[],acc,h=>by cases h;simp
 |v::r,acc,h=>by
  rw[qaV]at h;cases hv:qdK v with
  |none=>rw[hv]at h;cases h
  |some x=>
   rw[hv]at h;cases hr:qaV r with
   |none=>rw[hr]at h;cases h
   |some y=>
    rw[hr]at h;cases h;have h1:=qgG hv;have h2:=qbT r y hr;simp[vsz];omega
theorem qdf:∀(vs acc:List (List UInt8)),qaV vs=some acc->∀p∈acc,p.length<=vsz vs
 |[],acc,h=>by cases h;simp
 |v::r,acc,h=>by
  rw[qaV]at h;cases hv:qdK v with
  |none=>rw[hv]at h;cases h
  |some x=>
   rw[hv]at h;cases hr:qaV r with
   |none=>rw[hr]at h;cases h
   |some y=>
    rw[hr]at h;cases h;intro p hp;rcases List.mem_append.1 hp with hp|hp
    ·have:=qn9 hv p hp;simp[vsz];omega
    ·have:=qdf r y hr p hp;simp[vsz];omega
def qcR(l:List Fld)(n:List UInt8):List (List UInt8)×Int:=match qaV (allB l n)with
 |some x=>(x,0)
 |none=>([],14)
def qbQ(l:List Fld)(n:List UInt8):List (List UInt8)×Int:=match qaV (allB l n)with
 |some x=>if x.all tokB=true then(x.map low,0)else([],10)
 |none=>([],14)
def nCL:List UInt8:=[67,111,110,116,101,110,116,45,76,101,110,103,116,104]
def nTE:List UInt8:=[84,114,97,110,115,102,101,114,45,69,110,99,111,100,105,110,103]
def qbN:List UInt8:=[99,104,117,110,107,101,100]
def decA(x:List UInt8):Int:=if(qae 10 1099511627776 x).2=0 then(qae 10 1099511627776 x).1 else-1
def qaA(l:List Fld):Int×Bool×Int:=if allB l nCL=[]then(0,false,0)else match qaV (allB l nCL)with
 |some (x::r)=>if decA x<0\/(r.all fun y=>decide (decA y=decA x))=false then(0,false,66)else(decA x,true,0)
 |_=>(0,false,66)
def qaC(l:List Fld):List (List UInt8)×Bool×Int:=if allB l nTE=[]then([],false,0)else if(qbQ l nTE).2=0 then((qbQ l nTE).1,true,0)else([],false,67)
def qa9(l:List Fld)(old:Bool):Int×Int×Int:=
 if(qaC l).2.2≠0\/((qaC l).2.1=true/\(old=true\/(qaC l).1≠[qbN]))then(0,0,67)
 else if(qaA l).2.2≠0 then(0,0,(qaA l).2.2)
 else if(qaC l).2.1=true/\(qaA l).2.1=true then(0,0,68)
 else if(qaC l).2.1=true then(2,0,0)
 else if(qaA l).2.1=true then(1,(qaA l).1,0)
 else(0,0,0)
inductive HD where
 |ok (fs:List Fld) (e:Nat)
 |bad (n:Int) (e:Int)
 |part
structure Resp where
 status:Int
 reason:List UInt8
 fields:List Fld
 body:List UInt8
structure Mann where
 method:List UInt8
 close:Bool
 old:Bool
 chunked:Bool
 sizes:List Int
 trailers:List Fld
def strL(l:List (List UInt8)):List AV:=l.map AV.str
@[simp] theorem qdq (l:List (List UInt8)):(strL l).length=l.length:=by simp[strL]
theorem qla(l m:List (List UInt8)):strL (l++m)=strL l++strL m:=by simp[strL]
theorem qfk(l:List (List UInt8)):(strs l).flatten=strL l:=by
 induction l with
 |nil=>rfl
 |cons x l ih=>show _::(strs l).flatten=_;rw[ih];rfl
theorem qeL(l:List (List UInt8)):∀x∈strL l,∃s,x= .str s:=fun x hx=>by obtain⟨s,_,rfl⟩:=List.mem_map.1 hx;exact⟨s,rfl⟩
theorem qo1(out:List (List UInt8))(tail:List AV):chop 1 out.length (strL out++tail)=strs out:=by
 rw[qlV _ _ (by simp),List.take_append_of_le_length (by simp),zqE (by simp)];unfold strL strs;rw[List.map_map];rfl
def SAt(H0:Hp)(v:AV)(out:List (List UInt8))(H:Hp):Prop:=∃J,H=H0++J/\(∀l∈J,∀x∈l,∃z,x= .str z)/\((v= .nil/\out=[])\/
 ∃J1 tail,J=J1++[strL out++tail]/\v= .bx (H0.length+J1.length) 0 out.length (out.length+tail.length) 1/\out.length+tail.length<=maxLen)
theorem qqc{H0:Hp}{v:AV}{out:List (List UInt8)}{H:Hp}(h:SAt H0 v out H):v.free=true/\v.dis=v:=by
 obtain⟨J,_,_,⟨rfl,_⟩|⟨J1,tail,_,rfl,_⟩⟩:=h<;>exact⟨rfl,rfl⟩
theorem qsk{H0:Hp}{v:AV}{out:List (List UInt8)}{H:Hp}(h:SAt H0 v out H):Bnd H.length v:=by
 obtain⟨J,rfl,_,⟨rfl,_⟩|⟨J1,tail,rfl,rfl,_⟩⟩:=h
 ·exact .nil
 ·exact .bx _ _ _ _ _ (by simp)
theorem qqd{H0:Hp}{v:AV}{out:List (List UInt8)}{H:Hp}(h:SAt H0 v out H)(hB:BndH H0.length H0):BndH H.length H:=by
 obtain⟨J,rfl,hJ,_⟩:=h;intro l hl y hy;rcases List.mem_append.1 hl with h|h
 ·exact(hB l h y hy).mono (by simp)
 ·obtain⟨s,rfl⟩:=hJ l h y hy;exact .str _
section
variable (E:Env)(H:Hp)(Q:AV->Hp->Prop)
def qrM(l:List Fld)(n:List UInt8)(H:Hp)(fr:List AV)(H':Hp):Prop:=∃(J:Hp) (i:Nat),H'=H++J/\i<=l.length/\∃x:Nat->AV,fr=[x 0,.str n,x 2,x 3,x 4,.sl true 1 (strs (allB (l.take i) n)),x 6,x 7,.sl false 2 (flds l),.int .i64 l.length,.int .i64 i,x 11,x 12,x 13,x 14,x 15,x 16,x 17,x 18,x 19,x 20,x 21,x 22,x 23,x 24]
theorem qjV(l:List Fld)(n:List UInt8)(hl:fsz l+l.length<=16777216)(hn:n.length<=cap)(hQ:Q (.sl false 1 (strs (allB l n))) H):PC Tryz.prog E 63 [.sl false 2 (flds l),.str n] H Q:=by
 refine qac Tryz.func63 rfl [18] [] (by kernel_rfl) (fun hB=>?_);simp[Tryz.ntmps63,Tryz.results63,List.replicate_succ];refine qek 5 1 (by rfl) ?_;simp only[List.set_cons_succ,List.set_cons_zero];refine qaB (qrM l n H) (fun fr _=>l.length-(ai (aget fr 10)).toNat) ⟨[],0,by simp,by omega,qam (by simp[allB,strs])⟩ ?_;rintro fr H' ⟨J,i,rfl,hi,x,rfl⟩;by_cases h:i<l.length
 ·obtain⟨f,hf⟩:∃f,l[i]? =some f:=⟨_,zqD h⟩
  have hat:=qgL hf;have hfm:=qkG hf;have hw:IntKind.i64.wrap ((i:Int)+1)=i+1:=wiz;have hst:=qjW l n i f hf;have hal:=ql1 (l.take i) n;rw[zqJ]at hal;simp[h,hat];refine qlp E _ _ f.name n (by simp only[cap];omega) hn ?_;cases he:(low f.name==low n)with
  |false=>
   rw[if_neg (by unfold qkz;rw[he];simp),List.append_nil]at hst;simp[hw];exact Klz ⟨_,i+1,rfl,by omega,qam (by simp[hst])⟩
  |true=>
   rw[if_pos (show qkz f.name n=true from he)]at hst;have m1:(allB (l.take i) n).length+1<=maxLen:=by unfold maxLen;omega
   have m2:((allB (l.take i) n).length+1)*16<=140737488355328:=by omega
   have hsn:=qgl (allB (l.take i) n) f.value;rw[<-hst]at hsn;simp[m1,m2,hsn,hw];exact Klz ⟨_,i+1,rfl,by omega,friz⟩
 ·obtain rfl:i=l.length:=by omega
  simp;exact qab hB (v0:= .sl false 1 (strs (allB l n))) (by simp) (qaa _) (by simp[qcu]) hQ
def flInv(vs:List (List UInt8))(H:Hp)(fr:List AV)(H':Hp):Prop:=∃(i:Nat) (v:AV) (acc:List (List UInt8)),i<=vs.length/\SAt H v acc H'/\qaV (vs.take i)=some acc/\
 ∃x:Nat->AV,fr=[x 0,x 1,x 2,x 3,x 4,x 5,v,x 7,x 8,x 9,x 10,x 11,x 12,.sl false 1 (strs vs),.int .i64 vs.length,.int .i64 i,x 16,x 17,x 18,x 19,x 20,x 21,x 22,x 23,x 24,x 25,x 26,x 27,x 28,x 29,x 30,x 31]
theorem qlE(l:List Fld)(n:List UInt8)(hl:fsz l+l.length<=4194304)(hn:n.length<=cap)(hQ1:qaV (allB l n)=none->Q (.tup [.sl false 1 [],.int .i64 14]) H)
  (hQ2:∀acc v H',qaV (allB l n)=some acc->SAt H v acc H'->Q (.tup [v,.int .i64 0]) H'):PC Tryz.prog E 108 [.sl false 2 (flds l),.str n] H Q:=by
 have hvz:=qdo l n;refine qac Tryz.func108 rfl [] [(8,[0,0,3])] (by kernel_rfl) (fun hB=>?_);simp[Tryz.ntmps108,Tryz.results108,List.replicate_succ];refine qjV E _ _ l n (by omega) hn ?_
 generalize allB l n=vs at*
 have hvl:=qnc vs;simp;refine qaB (flInv vs H) (fun fr _=>vs.length-(ai (aget fr 15)).toNat) ⟨0,.nil,[],by omega,⟨[],by simp,by simp,.inl ⟨rfl,rfl⟩⟩,rfl,friz⟩ ?_;rintro fr H' ⟨i,v,acc,hi,hS,hacc,x,rfl⟩;obtain⟨hvf,hvd⟩:=qqc hS;have hlen:=qbT _ _ hacc;have hvt:=qk5 vs i;by_cases h:i<vs.length
 ·obtain⟨s,hs⟩:∃s,vs[i]? =some s:=⟨_,zqD h⟩
  have hat:=qcB hs;have hsz:=qnb hs;have hw:IntKind.i64.wrap ((i:Int)+1)=i+1:=wiz;simp[h,hat];refine qsC E _ _ s (by omega) ?_;cases hlb:qdK s with
  |none=>
   have e:qcX s=([],14):=by unfold qcX;rw[hlb]
   rw[e];obtain⟨J,rfl,_⟩:=hS;simp;exact qab hB (v0:= .tup [.nil,.int .i64 14]) (by simp) (qbW 1 _ rfl) (by simp) (hQ1 (qgE hs hlb))
  |some y=>
   have e:qcX s=(y,0):=by unfold qcX;rw[hlb]
   rw[e];have hyl:=qgG hlb;have hst:=qgF hs hacc hlb;obtain⟨J,rfl,hJ,⟨rfl,rfl⟩|⟨J1,tail,rfl,rfl,htl⟩⟩:=hS
   ·by_cases hy:y=[]
    ·subst hy;have hs0:strs ([]:List (List UInt8))=[]:=rfl;simp[hw,hs0];exact Klz ⟨i+1,.nil,[],by omega,⟨J,rfl,hJ,.inl ⟨rfl,rfl⟩⟩,by simpa using hst,friz⟩
    ·have m1:y.length<=maxLen:=by unfold maxLen;omega
     have m2:y.length*16<=140737488355328:=by omega
     simp[hy,m1,m2,qfk];refine qhd fun c hc1 hc2=>?_;obtain⟨k,rfl⟩:∃k,c=y.length+k:=⟨c-y.length,by omega⟩
     simp[hw];refine Klz ⟨i+1,.bx (H.length+J.length) 0 y.length (y.length+k) 1,y,by omega,⟨J++[strL y++List.replicate k (.str [])],rfl,fun l hl z hz=>?_,.inr ⟨J,List.replicate k (.str []),rfl,by simp,by simpa using hc2⟩⟩,by simpa using hst,friz⟩;rcases List.mem_append.1 hl with h|h
     ·exact hJ l h z hz
     ·simp only[List.mem_singleton]at h;subst h;rcases List.mem_append.1 hz with h|h
      ·exact qeL _ z h
      ·exact⟨_,(List.mem_replicate.1 h).2⟩
   ·have hget:∀r:List AV,(H++(J1++[r]))[H.length+J1.length]? =some r:=fun r=>by rw[<-List.append_assoc,zqB (by simp)];simp
    have hset:∀r q:List AV,(H++(J1++[r])).set (H.length+J1.length) q=H++(J1++[q]):=fun r q=>by rw[<-List.append_assoc,List.set_append_right _ _ (by simp),List.append_assoc];simp
    have hfree:(∀x∈strL acc,x.free=true)=True:=eq_true fun x hx=>by obtain⟨b,rfl⟩:=qeL _ x hx;rfl
    have htk:List.take acc.length (strL acc)=strL acc:=zqE (by simp);have htu:∀x∈tail,∃z,x= .str z:=fun x hx=>hJ (strL acc++tail) (by simp) x (List.mem_append_right _ hx);have hJ1:∀l∈J1,∀x∈l,∃z,x= .str z:=fun l hl=>hJ l (List.mem_append_left _ hl);have hdr:List.drop (acc.length+y.length) (strL acc++tail)=tail.drop y.length:=by rw[List.drop_append,List.drop_of_length_le (by simp)];simp
    by_cases hroom:y.length<=tail.length
    ·simp[hroom,hfree,hget,hset,htk,hdr,hw,qfk];refine Klz ⟨i+1,.bx (H.length+J1.length) 0 (acc.length+y.length) (acc.length+tail.length) 1,acc++y,by omega,⟨J1++[strL (acc++y)++tail.drop y.length],by simp[qla],fun l hl z hz=>?_,.inr ⟨J1,tail.drop y.length,rfl,by simp;omega,by simp;omega⟩⟩,hst,friz⟩;rcases List.mem_append.1 hl with h|h
     ·exact hJ1 l h z hz
     ·simp only[List.mem_singleton]at h;subst h;rcases List.mem_append.1 hz with h|h
      ·exact qeL _ z h
      ·exact htu z (List.mem_of_mem_drop h)
    ·have m1:acc.length+y.length<=maxLen:=by unfold maxLen;omega
     have m2:(acc.length+y.length)*16<=140737488355328:=by omega
     simp[hroom,hfree,hget,hset,htk,hdr,hw,qfk,m1,m2];refine qhd fun c hc1 hc2=>?_;obtain⟨k,rfl⟩:∃k,c=acc.length+y.length+k:=⟨c-(acc.length+y.length),by omega⟩
     simp[hw];refine Klz ⟨i+1,.bx (H.length+(J1.length+1)) 0 (acc.length+y.length) (acc.length+y.length+k) 1,acc++y,by omega,⟨(J1++[strL acc++tail])++[strL (acc++y)++List.replicate k (.str [])],by simp[qla],fun l hl z hz=>?_,.inr ⟨J1++[strL acc++tail],List.replicate k (.str []),rfl,by simp,by simpa using hc2⟩⟩,hst,friz⟩;rcases List.mem_append.1 hl with h|h
     ·exact hJ l h z hz
     ·simp only[List.mem_singleton]at h;subst h;rcases List.mem_append.1 hz with h|h
      ·exact qeL _ z h
      ·exact⟨_,(List.mem_replicate.1 h).2⟩
 ·obtain rfl:i=vs.length:=by omega
  rw[zqE (Nat.le_refl _)]at hacc;simp[hvd];exact qrf (v:= .tup [v,.int .i64 0]) (by simp[hvd]) (by obtain⟨J,rfl,_⟩:=hS;simp) (qqd hS hB) (.tup _ (fun y hy=>by simp at hy;rcases hy with rfl|rfl;exact qsk hS;exact .int _ _)) (hQ2 acc v H' hacc hS)
def mix(acc:List (List UInt8))(i:Nat):List (List UInt8):=(acc.take i).map low++acc.drop i
theorem qik(acc:List (List UInt8))(i:Nat):(mix acc i).length=acc.length:=by
 unfold mix;simp;omega
theorem qqo(acc:List (List UInt8)):mix acc 0=acc:=by simp[mix]
theorem qsz(acc:List (List UInt8)):mix acc acc.length=acc.map low:=by simp[mix]
theorem mix_at{acc:List (List UInt8)}{i:Nat}{u:List UInt8}(h:acc[i]? =some u)(tail:List AV):(strL (mix acc i)++tail)[i]? =some (.str u):=by
 have hi:=(zqC.1 h).1;rw[zqA (by rw[qdq,qik];exact hi)];unfold strL mix;rw[List.getElem?_map,zqB (by simp;omega)];simp[h,Nat.min_eq_left (Nat.le_of_lt hi)]
theorem qqp{acc:List (List UInt8)}{i:Nat}{u:List UInt8}(h:acc[i]? =some u)(tail:List AV):(strL (mix acc i)++tail).set i (.str (low u))=strL (mix acc (i+1))++tail:=by
 have hi:=(zqC.1 h).1
 have e:mix acc (i+1)=(mix acc i).set i (low u):=by
  unfold mix;rw[List.set_append_right _ _ (by simp;omega),List.take_add_one,h];simp only[Option.toList,List.map_append,List.map_cons,List.map_nil,List.length_map,zqJ,Nat.min_eq_left (Nat.le_of_lt hi),Nat.sub_self];rw[List.drop_eq_getElem_cons hi,List.set_cons_zero,List.append_assoc];rfl
 rw[e,List.set_append_left _ _ (by rw[qdq,qik];exact hi)];unfold strL;rw[List.map_set]
theorem qsy{acc:List (List UInt8)}{i:Nat}{u:List UInt8}(h:acc[i]? =some u)(tail:List AV):(strL (mix acc i)++tail).take i++ .str (low u)::(strL (mix acc i)++tail).drop (i+1)=strL (mix acc (i+1))++tail:=by
 have hi:=(zqC.1 h).1;rw[<-qqp h tail,List.set_eq_take_append_cons_drop,if_pos (by rw[zqK,qdq,qik];omega)]
def toInv(acc:List (List UInt8))(J1:Hp)(tail:List AV)(H:Hp)(fr:List AV)(H':Hp):Prop:=∃(i:Nat),i<=acc.length/\H'=H++(J1++[strL (mix acc i)++tail])/\(acc.take i).all tokB=true/\
 ∃x:Nat->AV,fr=[x 0,x 1,x 2,x 3,x 4,x 5,.bx (H.length+J1.length) 0 acc.length (acc.length+tail.length) 1,x 7,x 8,x 9,x 10,x 11,x 12,x 13,x 14,x 15,x 16,x 17,x 18,.bx (H.length+J1.length) 0 acc.length (acc.length+tail.length) 1,.int .i64 acc.length,.int .i64 i,x 22,x 23,x 24,x 25,x 26,x 27,x 28,x 29,x 30,x 31,x 32,x 33,x 34,x 35]
theorem qgj(hE:SE E)(l:List Fld)(n:List UInt8)(hl:fsz l+l.length<=4194304)(hn:n.length<=cap)(hQ:Q (.tup [.sl false 1 (strs (qbQ l n).1),.int .i64 (qbQ l n).2]) H):PC Tryz.prog E 107 [.sl false 2 (flds l),.str n] H Q:=by
 have hvz:=qdo l n;refine qjb Tryz.func107 rfl [] [(11,[5,H.length])] (by kernel_rfl) (fun id m hm=>?_) (fun hB=>?_)
 ·unfold ndOf at hm;split at hm
  ·cases hm;exact Nat.le_refl _
  ·cases hm
 simp[Tryz.ntmps107,Tryz.results107,List.replicate_succ];refine qlE E _ _ l n hl hn (fun hno=>?_) (fun acc v H' hacc hS=>?_)
 ·have e:qbQ l n=([],14):=by unfold qbQ;rw[hno]
  rw[e]at hQ;simp;exact qat hB (v0:= .tup [.nil,.int .i64 14]) (by simp) (qbW 1 _ rfl) (by simp) hQ
 have hmem:=qdf _ _ hacc;have hlen:=qbT _ _ hacc;have e:qbQ l n=if acc.all tokB=true then(acc.map low,0)else([],10):=by unfold qbQ;rw[hacc]
 rw[e]at hQ;clear e hacc;obtain⟨J,rfl,hJ,⟨rfl,rfl⟩|⟨J1,tail,rfl,rfl,htl⟩⟩:=hS
 ·simp;refine qaB (fun fr H'=>∃J:Hp,H'=H++J/\∃x:Nat->AV,fr=[x 0,x 1,x 2,x 3,x 4,x 5,.nil,x 7,x 8,x 9,x 10,x 11,x 12,x 13,x 14,x 15,x 16,x 17,x 18,.nil,.int .i64 0,.int .i64 0,x 22,x 23,x 24,x 25,x 26,x 27,x 28,x 29,x 30,x 31,x 32,x 33,x 34,x 35]) (fun fr _=>0) ⟨J,rfl,friz⟩ ?_;rintro fr H' ⟨J,rfl,x,rfl⟩;simp;refine qrl ?_;simp;exact qab hB (v0:= .tup [.nil,.int .i64 0]) (by simp) (qbW 1 _ rfl) (by simp) hQ
 ·simp;refine qaB (toInv acc J1 tail H) (fun fr _=>acc.length-(ai (aget fr 21)).toNat) ⟨0,by omega,by rw[qqo],by simp,friz⟩ ?_;rintro fr H' ⟨i,hi,rfl,hall,x,rfl⟩;by_cases h:i<acc.length
  ·obtain⟨u,hu⟩:∃u,acc[i]? =some u:=⟨_,zqD h⟩
   have hw:IntKind.i64.wrap ((i:Int)+1)=i+1:=wiz;have hget:∀r:List AV,(H++(J1++[r]))[H.length+J1.length]? =some r:=fun r=>by rw[<-List.append_assoc,zqB (by simp)];simp
   have hset:∀r q:List AV,(H++(J1++[r])).set (H.length+J1.length) q=H++(J1++[q]):=fun r q=>by rw[<-List.append_assoc,List.set_append_right _ _ (by simp),List.append_assoc];simp
   have hat:=mix_at hu tail;have hst:=qsy hu tail;have hul:=hmem u (zqH hu);simp[h,hget,hat];refine qdg E _ _ hE u (by simp only[cap];omega) ?_;cases ht:tokB u with
   |false=>
    have e:acc.all tokB=false:=qdH tokB acc i u hu ht;rw[if_neg (by rw[e];simp)]at hQ;simp;exact qab hB (v0:= .tup [.nil,.int .i64 10]) (by simp) (qbW 1 _ rfl) (by simp) hQ
   |true=>
    simp;refine qbO E _ _ u (by simp only[cap];omega) ?_;have hle:i+1<=(mix acc i).length+tail.length:=by rw[qik];omega
    simp[hget,hset,hst,hw,h,hle];exact Klz ⟨i+1,by omega,rfl,by rw[qb0 tokB acc i u hu,hall,ht];rfl,friz⟩
  ·obtain rfl:i=acc.length:=by omega
   simp;rw[zqE (Nat.le_refl _)]at hall;rw[if_pos hall]at hQ;rw[qsz];have hJ1:∀l∈J1,∀x∈l,∃z,x= .str z:=fun l hl=>hJ l (List.mem_append_left _ hl);have htu:∀x∈tail,∃z,x= .str z:=fun x hx=>hJ (strL acc++tail) (by simp) x (List.mem_append_right _ hx);have hch:=qo1 (acc.map low) tail;rw[List.length_map]at hch;refine qpA [6] (H++J1) (strL (acc.map low)++tail) (by simp) (by simp) (fun l' hl' y hy=>?_) (fun t ht y hy=>?_) (fun y=>?_)
   ·rcases List.mem_append.1 hl' with h|h
    ·exact(hB l' h y hy).mono (by simp)
    ·obtain⟨z,rfl⟩:=hJ1 l' h y hy;exact .str _
   ·simp at ht;subst ht;simp at hy;subst hy;refine .inr ⟨by simp,by omega,by simp,fun y hy=>?_⟩;have hy2:=List.mem_of_mem_drop (List.mem_of_mem_take hy);rcases List.mem_append.1 hy2 with h|h
    ·obtain⟨z,rfl⟩:=qeL _ y h;exact⟨rfl,.str _⟩
    ·obtain⟨z,rfl⟩:=htu y h;exact⟨rfl,.str _⟩
   ·simp[qhk,frz,hch];exact qab hB (v0:= .tup [.sl false 1 (strs (acc.map low)),.int .i64 0]) (by simp) (qaa _) (by simp[qcu]) hQ
theorem qnr(l:List Fld)(n:List UInt8):(qbQ l n).1.length<=fsz l+l.length:=by
 have hvz:=qdo l n;unfold qbQ;cases h:qaV (allB l n)with
 |none=>simp
 |some acc=>
  have:=qbT _ _ h;simp only;split
  ·simp;omega
  ·simp
end
theorem qs0(x:List UInt8):0<=(qae 10 1099511627776 x).1/\(qae 10 1099511627776 x).1<=1099511627776:=by
 unfold qae;split
 ·simp
 ·split
  ·simp
  ·split
   ·simp
   ·rename_i h1 h2 h3;have h:=qbl 10 (by omega) x (by simpa using h2);simp only;omega
theorem qoT{x:List UInt8}(h:(qae 10 1099511627776 x).2=0):decA x=(qae 10 1099511627776 x).1:=by unfold decA;rw[if_pos h]
theorem qiy{x:List UInt8}(h:(qae 10 1099511627776 x).2≠0):decA x= -1:=by unfold decA;rw[if_neg h]
section
variable (E:Env)(H:Hp)(Q:AV->Hp->Prop)
def lenOk(acc:List (List UInt8))(i:Nat)(m:Int):Prop:=(i=0/\m=0)\/(0<i/\0<=m/\∀y∈acc.take i,decA y=m)
def lenInv(acc:List (List UInt8))(b:Nat)(c:Nat)(H3:Hp)(fr:List AV)(H':Hp):Prop:=H'=H3/\∃(i:Nat) (m:Int),i<=acc.length/\lenOk acc i m/\m<=1099511627776/\
 ∃x:Nat->AV,fr=[x 0,x 1,x 2,x 3,x 4,x 5,x 6,.int .i64 m,x 8,x 9,x 10,x 11,x 12,x 13,x 14,x 15,x 16,x 17,x 18,x 19,x 20,x 21,x 22,x 23,x 24,x 25,x 26,x 27,.bx b 0 acc.length c 1,.int .i64 acc.length,.int .i64 i,x 31,x 32,x 33,x 34,x 35,x 36,x 37,x 38,x 39,x 40,x 41,x 42,x 43,x 44,x 45,x 46,x 47,x 48,x 49,x 50,x 51,x 52,x 53]
theorem qob(l:List Fld)(hl:fsz l+l.length<=4194304)(hQ:Q (.tup [.int .i64 (qaA l).1,.bool (qaA l).2.1,.int .i64 (qaA l).2.2]) H):PC Tryz.prog E 77 [.sl false 2 (flds l)] H Q:=by
 refine qac Tryz.func77 rfl [] [] (by kernel_rfl) (fun hB=>?_);have fin:∀a:Int×Bool×Int,qaA l=a->Q (.tup [.int .i64 a.1,.bool a.2.1,.int .i64 a.2.2]) H:=fun a ha=>ha▸hQ;have hvz:=qdo l nCL;have hcn:nCL.length<=cap:=by simp[nCL,cap]
 simp[Tryz.ntmps77,Tryz.results77,List.replicate_succ];refine qjV E _ _ l nCL (by omega) hcn ?_;by_cases h0:allB l nCL=[]
 ·have e:qaA l=(0,false,0):=by unfold qaA;rw[if_pos h0]
  have hs0:strs ([]:List (List UInt8))=[]:=rfl;simp[h0,hs0];exact aQz hB (h6:=(fin _ e))
 have h0':(((allB l nCL).length:Int)==0)=false:=by
  rw[beq_eq_false_iff_ne];intro e;exact h0 (List.length_eq_zero_iff.1 (by omega))
 simp[h0'];refine qlE E _ _ l nCL hl hcn (fun hno=>?_) (fun acc v H' hacc hS=>?_)
 ·have e:qaA l=(0,false,66):=by unfold qaA;rw[if_neg h0,hno]
  simp;exact aQz hB (h6:=(fin _ e))
 have hlen:=qbT _ _ hacc;have hmem:=qdf _ _ hacc;obtain⟨J,rfl,hJ,⟨rfl,rfl⟩|⟨J1,tail,rfl,rfl,htl⟩⟩:=hS
 ·have e:qaA l=(0,false,66):=by unfold qaA;rw[if_neg h0,hacc]
  simp;exact qab hB rfl (qaa _) (by simp) (fin _ e)
 cases acc with
 |nil=>
  have e:qaA l=(0,false,66):=by unfold qaA;rw[if_neg h0,hacc]
  simp;exact qab hB rfl (qaa _) (by simp) (fin _ e)
 |cons w ws=>
  have e:qaA l=if decA w<0\/(ws.all fun y=>decide (decA y=decA w))=false then(0,false,66)else(decA w,true,0):=by unfold qaA;rw[if_neg h0,hacc]
  obtain⟨acc,ha⟩:=exz (w::ws);have hal:0<acc.length:=by rw[<-ha];simp
  have ha0:acc[0]? =some w:=by rw[<-ha];rfl
  rw[ha]at hlen hmem hJ htl hacc;have hlz:((acc.length:Int)==0)=false:=by rw[beq_eq_false_iff_ne];omega
  rw[ha];simp[hlz];refine qaB (lenInv acc (H.length+J1.length) (acc.length+tail.length) (H++(J1++[strL acc++tail]))) (fun fr _=>acc.length-(ai (aget fr 30)).toNat) ⟨rfl,0,0,by omega,.inl ⟨rfl,rfl⟩,by omega,friz⟩ ?_;rintro fr H' ⟨rfl,i,m,hi,hok,hm,x,rfl⟩;by_cases h:i<acc.length
  ·obtain⟨u,hu⟩:∃u,acc[i]? =some u:=⟨_,zqD h⟩
   have hul:=hmem u (zqH hu);have hget:∀r:List AV,(H++(J1++[r]))[H.length+J1.length]? =some r:=fun r=>by rw[<-List.append_assoc,zqB (by simp)];simp
   have hat:(strL acc++tail)[i]? =some (.str u):=by
    rw[zqA (by rw[qdq];exact h)];unfold strL;rw[List.getElem?_map,hu];rfl
   have hw:IntKind.i64.wrap ((i:Int)+1)=i+1:=wiz;have hrng:=qs0 u;have hwm:¬m< -9223372036854775808:=by rcases hok with⟨_,h⟩|⟨_,h,_⟩<;>omega
   have hwA:decA w<0\/(ws.all fun y=>decide (decA y=decA w))=false\/∀y∈acc,decA y=decA w:=by
    by_cases h2:(ws.all fun y=>decide (decA y=decA w))=false
    ·exact .inr (.inl h2)
    ·refine .inr (.inr (fun y hy=>?_));rw[<-ha]at hy;rcases List.mem_cons.1 hy with rfl|hy
     ·rfl
     ·rw[Bool.not_eq_false]at h2;have:=List.all_eq_true.1 h2 y hy;simpa using this
   have hbad:(decA u<0\/(0<i/\decA u≠m))->qaA l=(0,false,66):=fun hb=>by
    rw[e];apply if_pos;rcases hwA with h|h|h
    ·exact .inl h
    ·exact .inr h
    ·left;have h1:=h u (zqH hu);rcases hb with hb|⟨hb,hne⟩
     ·omega
     ·exfalso;rcases hok with⟨h0,_⟩|⟨_,_,h3⟩
      ·omega
      ·have h4:=h3 w (zqH (by rw[zqG hb];exact ha0));omega
   simp[h,hget,hat];refine qcA E _ _ u 1099511627776 (by simp only[cap];omega) (by omega) (by omega) ?_;by_cases hd:(qae 10 1099511627776 u).2=0
   ·have hdA:=qoT hd;by_cases hi0:i=0
    ·subst hi0;have hw0:IntKind.i64.wrap 1=1:=by decide
     simp[hd,hw0];refine Klz ⟨rfl,1,_,by omega,.inr ⟨by omega,hrng.1,fun y hy=>?_⟩,hrng.2,friz⟩
     have:acc.take 1=[u]:=by
      rw[show(1:Nat)=0+1 from rfl,List.take_add_one,hu];simp
     rw[this]at hy;simp at hy;subst hy;exact hdA
    ·have hig:0<i:=by omega
     by_cases hne:(qae 10 1099511627776 u).1=m
     ·simp[hd,hig,hne,hw];refine Klz ⟨rfl,i+1,m,by omega,.inr ⟨by omega,by rw[<-hne];exact hrng.1,fun y hy=>?_⟩,hm,friz⟩;rw[List.take_add_one,hu]at hy;rcases List.mem_append.1 hy with hy|hy
      ·rcases hok with⟨h0,_⟩|⟨_,_,h3⟩
       ·omega
       ·exact h3 y hy
      ·simp at hy;subst hy;rw[hdA,hne]
     ·have hne2:((qae 10 1099511627776 u).1 !=m)=true:=by simpa using hne
      simp[hd,hig,hne2];exact qab hB rfl (qaa _) (by simp) (fin _ (hbad (.inr ⟨hig,by rw[hdA];exact hne⟩)))
   ·have hd2:((qae 10 1099511627776 u).2 !=0)=true:=by simpa using hd
    simp[hd2];exact qab hB rfl (qaa _) (by simp) (fin _ (hbad (.inl (by rw[qiy hd];omega))))
  ·obtain rfl:i=acc.length:=by omega
   have hres:qaA l=(m,true,0):=by
    rcases hok with⟨h0,_⟩|⟨_,h2,h3⟩
    ·omega
    ·rw[zqE (Nat.le_refl _)]at h3;have hw0:=h3 w (zqH ha0);rw[e,if_neg,hw0];intro hb;rcases hb with hb|hb
     ·omega
     ·rw[List.all_eq_false]at hb;obtain⟨y,hy,hy2⟩:=hb;have:=h3 y (by rw[<-ha];exact List.mem_cons_of_mem _ hy);exact hy2 (by rw[this,hw0];simp)
   simp;exact qab hB rfl (qaa _) (by simp) (fin _ hres)
theorem qmM(hE:SE E)(l:List Fld)(hl:fsz l+l.length<=4194304)(hQ:Q (.tup [.sl false 1 (strs (qaC l).1),.bool (qaC l).2.1,.int .i64 (qaC l).2.2]) H):PC Tryz.prog E 76 [.sl false 2 (flds l)] H Q:=by
 refine qac Tryz.func76 rfl [] [] (by kernel_rfl) (fun hB=>?_);have fin:∀a:List (List UInt8)×Bool×Int,qaC l=a->Q (.tup [.sl false 1 (strs a.1),.bool a.2.1,.int .i64 a.2.2]) H:=fun a ha=>ha▸hQ;have hcn:nTE.length<=cap:=by simp[nTE,cap]
 simp[Tryz.ntmps76,Tryz.results76,List.replicate_succ];refine qjV E _ _ l nTE (by omega) hcn ?_;by_cases h0:allB l nTE=[]
 ·have e:qaC l=([],false,0):=by unfold qaC;rw[if_pos h0]
  have hs0:strs ([]:List (List UInt8))=[]:=rfl;simp[h0,hs0];exact qat hB (v0:= .tup [.nil,.bool false,.int .i64 0]) (by simp) (qdd 1 _ _ rfl rfl) (by simp) (fin _ e)
 have h0':(((allB l nTE).length:Int)==0)=false:=by
  rw[beq_eq_false_iff_ne];intro e;exact h0 (List.length_eq_zero_iff.1 (by omega))
 simp[h0'];refine qgj E _ _ hE l nTE hl hcn ?_;by_cases he:(qbQ l nTE).2=0
 ·have e:qaC l=((qbQ l nTE).1,true,0):=by unfold qaC;rw[if_neg h0,if_pos he]
  simp[he];exact qat hB (v0:= .tup [.sl false 1 (strs (qbQ l nTE).1),.bool true,.int .i64 0]) (by simp) (qaa _) (by simp[qcu]) (fin _ e)
 ·have e:qaC l=([],false,67):=by unfold qaC;rw[if_neg h0,if_neg he]
  have he2:((qbQ l nTE).2 !=0)=true:=by simpa using he
  simp[he2];exact qat hB (v0:= .tup [.nil,.bool false,.int .i64 67]) (by simp) (qdd 1 _ _ rfl rfl) (by simp) (fin _ e)
theorem qlS(l:List Fld)(hl:fsz l+l.length<=4194304):(qaC l).1.length<=4194304:=by
 have:=qnr l nTE;unfold qaC;split
 ·simp
 ·split
  ·simp only;omega
  ·simp
theorem qhT{l:List Fld}{old:Bool}{cs:List (List UInt8)}{cd:Bool}{ce n:Int}{tl:Bool}{f:Int}(h1:qaC l=(cs,cd,ce))(h2:qaA l=(n,tl,f)):
  qa9 l old=if ce≠0\/(cd=true/\(old=true\/cs≠[qbN]))then(0,0,67)else if f≠0 then(0,0,f)else if cd=true/\tl=true then(0,0,68)else if cd=true then(2,0,0)else if tl=true then(1,n,0)else(0,0,0):=by
 unfold qa9;rw[h1,h2]
theorem qmz(hE:SE E)(l:List Fld)(old:Bool)(hl:fsz l+l.length<=4194304)(hQ:Q (.tup [.agg [.int .i64 (qa9 l old).1,.int .i64 (qa9 l old).2.1],.int .i64 (qa9 l old).2.2]) H):PC Tryz.prog E 54 [.sl false 2 (flds l),.bool old] H Q:=by
 have fin:∀a:Int×Int×Int,qa9 l old=a->Q (.tup [.agg [.int .i64 a.1,.int .i64 a.2.1],.int .i64 a.2.2]) H:=fun a ha=>ha▸hQ;have hcl:=qlS l hl;refine qac Tryz.func54 rfl [] [] (by kernel_rfl) (fun hB=>?_);simp[Tryz.ntmps54,Tryz.results54,List.replicate_succ];refine qmM E _ _ hE l hl ?_;simp;refine qob E _ _ l hl ?_;obtain⟨⟨cs,cd,ce⟩,hC⟩:=exz (qaC l);obtain⟨⟨n,tl,f⟩,hL⟩:=exz (qaA l);have hF:=qhT (old:=old) hC hL;rw[hC]at hcl;rw[hC,hL];simp only at hcl⊢;have hce:(ce !=0)=decide (ce≠0):=by rw[Bool.eq_iff_iff];simp
 have hfe:(f !=0)=decide (f≠0):=by rw[Bool.eq_iff_iff];simp
 by_cases h1:ce=0;rotate_left
 ·rw[if_pos (.inl h1)]at hF;have h1':(ce !=0)=true:=by simpa using h1
  simp[h1'];exact qab hB (v0:= .tup [.agg [.int .i64 0,.int .i64 0],.int .i64 67]) (by simp) (qaa _) (by simp) (fin _ hF)
 subst h1;cases cd with
 |true=>
  cases old with
  |true=>
   rw[if_pos (.inr ⟨rfl,.inl rfl⟩)]at hF;simp;exact qab hB (v0:= .tup [.agg [.int .i64 0,.int .i64 0],.int .i64 67]) (by simp) (qaa _) (by simp) (fin _ hF)
  |false=>
   by_cases h2:cs=[qbN]
   ·subst h2;rw[if_neg (by simp)]at hF;have hat:lat (strs [qbN]) 0=some [.str qbN]:=rfl;have hv:(qbN !=[99,104,117,110,107,101,100])=false:=by decide
    by_cases h3:f=0
    ·subst h3;rw[if_neg (by simp)]at hF;cases tl with
     |true=>
      rw[if_pos ⟨rfl,rfl⟩]at hF;simp[hat,hv];exact qab hB (v0:= .tup [.agg [.int .i64 0,.int .i64 0],.int .i64 68]) (by simp) (qaa _) (by simp) (fin _ hF)
     |false=>
      rw[if_neg (by simp),if_pos rfl]at hF;simp[hat,hv];exact qab hB (v0:= .tup [.agg [.int .i64 2,.int .i64 0],.int .i64 0]) (by simp) (qaa _) (by simp) (fin _ hF)
    ·rw[if_pos h3]at hF;have h3':(f !=0)=true:=by simpa using h3
     simp[hat,hv,h3'];exact qab hB (v0:= .tup [.agg [.int .i64 0,.int .i64 0],.int .i64 f]) (by simp) (qaa _) (by simp) (fin _ hF)
   ·rw[if_pos (.inr ⟨rfl,.inr h2⟩)]at hF
    match cs,h2 with
    |[],_=>
     simp;exact qab hB (v0:= .tup [.agg [.int .i64 0,.int .i64 0],.int .i64 67]) (by simp) (qaa _) (by simp) (fin _ hF)
    |[c],h2=>
     have hat:lat (strs [c]) 0=some [.str c]:=rfl;have hv:(c !=[99,104,117,110,107,101,100])=true:=by simpa[qbN]using h2
     simp[hat,hv];exact qab hB (v0:= .tup [.agg [.int .i64 0,.int .i64 0],.int .i64 67]) (by simp) (qaa _) (by simp) (fin _ hF)
    |c::d::r,_=>
     have hl:((r.length:Int)+1+1 !=1)=true:=by rw[bne_iff_ne];omega
     simp[hl];exact qab hB (v0:= .tup [.agg [.int .i64 0,.int .i64 0],.int .i64 67]) (by simp) (qaa _) (by simp) (fin _ hF)
 |false=>
  by_cases h3:f=0
  ·subst h3;cases tl with
   |true=>
    rw[if_neg (by simp),if_neg (by simp),if_neg (by simp),if_neg (by simp),if_pos rfl]at hF;simp;exact qab hB (v0:= .tup [.agg [.int .i64 1,.int .i64 n],.int .i64 0]) (by simp) (qaa _) (by simp) (fin _ hF)
   |false=>
    rw[if_neg (by simp),if_neg (by simp),if_neg (by simp),if_neg (by simp),if_neg (by simp)]at hF;simp;exact qab hB (v0:= .tup [.agg [.int .i64 0,.int .i64 0],.int .i64 0]) (by simp) (qaa _) (by simp) (fin _ hF)
  ·rw[if_neg (by simp),if_pos h3]at hF;have h3':(f !=0)=true:=by simpa using h3
   simp[h3'];exact qab hB (v0:= .tup [.agg [.int .i64 0,.int .i64 0],.int .i64 f]) (by simp) (qaa _) (by simp) (fin _ hF)
end
section
variable (E:Env)(H:Hp)(Q:AV->Hp->Prop)
end
section
variable (E:Env)(H:Hp)(Q:AV->Hp->Prop)
end
end Go.Proofs.YtnnhdehmlkkfjaaGreatDoor
namespace Go.Proofs.YtnnhdehmlkkfjaaGreatDoor
open Go Go.RowKit Go.Proofs Go.Deep
@[simp] theorem abin_sleql (P:Program) (t:TypeId) (o:Bool) (k:Nat) (r:List AV) (rs:List (List AV)):abin P .eql t (.sl o k (r::rs)) .nil=if(tsl P t).isSome then some (.bool false)else none:=rfl
@[simp] theorem abin_slneq (P:Program) (t:TypeId) (o:Bool) (k:Nat) (r:List AV) (rs:List (List AV)):abin P .neq t (.sl o k (r::rs)) .nil=if(tsl P t).isSome then some (.bool true)else none:=rfl
@[simp] theorem abin_bxeql (P:Program) (t:TypeId) (i o n c k:Nat):abin P .eql t (.bx i o n c k) .nil=if(tsl P t).isSome then some (.bool false)else none:=rfl
@[simp] theorem abin_bxneq (P:Program) (t:TypeId) (i o n c k:Nat):abin P .neq t (.bx i o n c k) .nil=if(tsl P t).isSome then some (.bool true)else none:=rfl
section
variable (E:Env)(H:Hp)(Q:AV->Hp->Prop)
variable (i:Nat)(d:Dec)(hd:H[i]? =some d.av)
include hd
end
section
variable (E:Env)(H:Hp)(Q:AV->Hp->Prop)
end
end Go.Proofs.YtnnhdehmlkkfjaaGreatDoor
namespace Go.Proofs.YtnnhdehmlkkfjaaGreatDoor
open Go Go.RowKit Go.Proofs
section
variable (E:Env)(H:Hp)(Q:AV->Hp->Prop)
end
section
variable {r:Resp}{h:Mann}
end
section
variable (E:Env)(H:Hp)(Q:AV->Hp->Prop)
end
section
variable (E:Env)(H:Hp)(Q:AV->Hp->Prop)
end
section
variable (E:Env)(H:Hp)(Q:AV->Hp->Prop)
end
end Go.Proofs.YtnnhdehmlkkfjaaGreatDoor
namespace Go.Proofs.YtnnhdehmlkkfjaaGreatDoor
open Go Go.RowKit Go.Lib
def dgB(k:Nat):UInt8:=UInt8.ofNat (48+k)
theorem qoQ{u:Nat}(h:u<10):decDigits u=[dgB u]:=by rw[decDigits,dif_pos h];rfl
theorem qs1{u:Nat}(h:¬u<10):decDigits u=decDigits (u/10)++[dgB (u%10)]:=by rw[decDigits,dif_neg h];rfl
def decD(u:Nat):List UInt8:=if u=0 then []else decDigits u
theorem qoS(u:Nat)(h:u≠0):decD u=decD (u/10)++[dgB (u%10)]:=by
 unfold decD;rw[if_neg h];by_cases h10:u<10
 ·rw[qoQ h10,if_pos (by omega),Nat.mod_eq_of_lt h10];rfl
 ·rw[qs1 h10,if_neg (by omega)]
theorem qpU:∀k:Nat,k<10->IntKind.u8.wrap (48+(k:Int))=48+k:=by decide
end Go.Proofs.YtnnhdehmlkkfjaaGreatDoor
namespace Go.Proofs.YtnnhdehmlkkfjaaGreatDoor
open Go Go.RowKit Go.Proofs Go.Lib
def d3(n:Int):List UInt8:=[dgB (n.toNat/100),dgB (n.toNat/10%10),dgB (n.toNat%10)]
end Go.Proofs.YtnnhdehmlkkfjaaGreatDoor
namespace Go.Proofs.YtnnhdehmlkkfjaaGreatDoor
open Go Go.RowKit Go.Proofs
@[simp] theorem qrC (l:List Int):(ints l).length=l.length:=by simp[ints]
section
variable (E:Env)(H:Hp)(Q:AV->Hp->Prop)
end
end Go.Proofs.YtnnhdehmlkkfjaaGreatDoor
namespace Go.Proofs.YtnnhdehmlkkfjaaGreatDoor
open Go Go.RowKit Go.Proofs Go.Lib
section
variable {r:Resp}{h:Mann}
end
end Go.Proofs.YtnnhdehmlkkfjaaGreatDoor
namespace Go.Proofs.YtnnhdehmlkkfjaaGreatDoor
open Go Go.RowKit Go.Lib
section
open Go.Lib
variable (E:Env)(H:Hp)(Q:AV->Hp->Prop)
def qqh(n:Int)(H:Hp)(fr:List AV)(H':Hp):Prop:=H'=H/\∃(m:Int) (out:List UInt8),m.natAbs<=n.natAbs/\decD m.natAbs++out=decDigits n.natAbs/\∃x:Nat->AV,fr=[.int .i64 m,x 1,x 2,.bool (decide (n<0)),.str out,x 5,x 6,x 7,x 8,x 9,x 10,x 11,x 12,x 13,x 14,x 15,x 16,x 17,x 18,x 19,x 20,x 21,x 22,x 23,x 24,x 25,x 26,x 27,x 28,x 29,x 30]
theorem qi7(n:Int)(h0: -9223372036854775808<=n)(h1:n<=9223372036854775807)(hQ:Q (.str (itoa n)) H):PC Tryz.prog E 33 [.int .i64 n] H Q:=by
 have hlen:=(qog n h0 h1).2;refine qac Tryz.func33 rfl [] [] (by kernel_rfl) (fun hB=>?_);by_cases hz:n=0
 ·have e:itoa n=[48]:=by rw[hz];decide+kernel
  rw[e]at hQ;simp[Tryz.ntmps33,Tryz.results33,List.replicate_succ,hz];exact aQz hB (h6:=hQ)
 ·have tz:(n==0)=false:=by simpa using hz
  simp[Tryz.ntmps33,Tryz.results33,List.replicate_succ,tz];refine qaB (qqh n H) (fun fr _=>(ai (aget fr 0)).natAbs) ⟨rfl,n,[],Nat.le_refl _,by unfold decD;rw[if_neg (by omega)];simp,friz⟩ ?_;rintro fr H' ⟨rfl,m,out,hm,hout,x,rfl⟩
  have hol:out.length<=21:=by
   have:=congrArg List.length hout;rw[zqK]at this;omega
  by_cases hmz:m=0
  ·have tm:(m !=0)=false:=by simp[hmz]
   have e:out=decDigits n.natAbs:=by rw[<-hout,hmz];rfl
   have hml:out.length+1<=maxLen/\1+out.length<=maxLen:=by unfold maxLen;omega
   by_cases hn:n<0
   ·have ei:itoa n=45::out:=by unfold itoa;rw[if_pos hn,e]
    rw[ei]at hQ;simp[tm,hn,hml];exact aQz hB (h6:=hQ)
   ·have ei:itoa n=out:=by
     unfold itoa;rw[if_neg hn,e,show n.toNat=n.natAbs by omega]
    rw[ei]at hQ;simp[tm,hn];exact aQz hB (h6:=hQ)
  ·have tm:(m !=0)=true:=by simpa using hmz
   obtain⟨d,hd⟩:=exz (m.tmod 10);obtain⟨q,hq⟩:=exz (m.tdiv 10);have hda:d.natAbs=m.natAbs%10:=by rw[<-hd,Int.natAbs_tmod];rfl
   have hqa:q.natAbs=m.natAbs/10:=by rw[<-hq,Int.natAbs_tdiv];rfl
   have hwq:IntKind.i64.wrap q=q:=wiz;obtain⟨k,hk⟩:=exz (m.natAbs%10);have hk10:k<10:=by rw[<-hk];exact Nat.mod_lt _ (by omega)
   have hw48:IntKind.i64.wrap (48+(k:Int))=48+k:=wiz;have hu8:=qpU k hk10;have c1:(0:Int)<=48+k:=by omega
   have c2:(48:Int)+k<256:=by omega
   have htn:((48:Int)+k).toNat=48+k:=by omega
   have hml:out.length+1<=maxLen/\1+out.length<=maxLen:=by unfold maxLen;omega
   have hst:=qoS m.natAbs (by omega);rw[hk,<-hqa]at hst;have hnext:decD q.natAbs++(dgB k::out)=decDigits n.natAbs:=by rw[<-hout,hst];simp
   by_cases hneg:d<0
   ·have hnd:IntKind.i64.wrap (-d)=k:=by rw[qai (by omega) (by omega)];omega
    have hnd2:IntKind.i64.wrap (0-d)=k:=by rw[qai (by omega) (by omega)];omega
    simp[tm,hd,hneg,hnd,hnd2,hw48,hu8,c1,c2,htn,hml,hq,hwq];exact Klz ⟨rfl,q,dgB k::out,by omega,hnext,qam (by simp[dgB])⟩
   ·have hdk:d=k:=by omega
    simp[tm,hd,hneg,hdk,hw48,hu8,c1,c2,htn,hml,hq,hwq];exact Klz ⟨rfl,q,dgB k::out,by omega,hnext,qam (by simp[dgB])⟩
end
end Go.Proofs.YtnnhdehmlkkfjaaGreatDoor
namespace Go.Proofs.YtnnhdehmlkkfjaaGreatDoor
open Go Go.RowKit
theorem qaw(b:UInt8)(n:Nat)(hn:n<256)(z:Int)(hz:z=n)(h:b≠UInt8.ofNat n):((b.toNat:Int)==z)=false/\((b.toNat:Int) !=z)=true:=by
 subst hz;have:=qcZ b n hn h;exact⟨this,by unfold bne;rw[this];rfl⟩
def qcL(c:UInt8):Bool:=(97<=c.toNat&&c.toNat<=122)||(65<=c.toNat&&c.toNat<=90)||(48<=c.toNat&&c.toNat<=57)
def qby(c:UInt8):Bool:=qcL c||[45,46,95,126].contains c
def qbM(c:UInt8):Bool:=[33,36,38,39,40,41,42,43,44,59,61].contains c
def qc0(c:UInt8):Bool:=c==58||c==64
def qdi(c:UInt8):Int:=if qby c then 1 else if qbM c then 2 else if qc0 c then 4 else if c=47 then 8 else if c=63 then 16 else 0
def hexT(c:UInt8):Int:=if 48<=c.toNat/\c.toNat<=57 then c.toNat-48 else if 97<=c.toNat/\c.toNat<=102 then c.toNat-97+10 else if 65<=c.toNat/\c.toNat<=70 then c.toNat-65+10 else-1
def qbv:List UInt8->Bool
 |c::a::b::_=>c==37&&decide (0<=hexT a)&&decide (0<=hexT b)
 |_=>false
def qaF(may:UInt8->Bool)(s:List UInt8):Nat:=match s with
 |[]=>0
 |c::r=>if qbv (c::r)then 3+qaF may (r.drop 2)else if may c then 1+qaF may r else 0
termination_by s.length
def qb1(c:UInt8):Bool:=qby c||qbM c
def qcE(c:UInt8):Bool:=qby c||qbM c||qc0 c||c==47
def qdx(c:UInt8):Bool:=qby c||qbM c||qc0 c||c==47||c==63
def qcN(c:UInt8)(other:Int):Int:=if c=37 then 51 else other
def cut1 (c : UInt8) (s : List UInt8) : List UInt8 × List UInt8 × Bool := (s.takeWhile (· != c), (s.dropWhile (· != c)).drop 1, s.contains c)
def cut2(c:UInt8):List UInt8->List UInt8×List UInt8×Bool
 |a::b::r=>if a=c/\b=c then([],r,true)else((a::(cut2 c (b::r)).1),(cut2 c (b::r)).2)
 |s=>(s,[],false)
def qbc(c:UInt8):List UInt8->List (List UInt8)
 |[]=>[[]]
 |x::r=>if x=c then []::qbc c r else match qbc c r with
  |h::t=>(x::h)::t
  |[]=>[[x]]
def qeh(d:List UInt8):Bool:=(qae 10 255 d).2==0&&Go.Lib.itoa (qae 10 255 d).1==d
def dotB(g:List UInt8):Bool:=(qbc 46 g).all qeh&&(qbc 46 g).length==4
def goG(last:Bool):List (List UInt8)->Int->Int×Bool
 |[],n=>(n,true)
 |g::r,n=>if last&&r.isEmpty&&g.contains 46 then(n+2,dotB g)
  else if g.length<1\/4<g.length then(0,false)
  else if g.all (fun c=>decide (0<=hexT c))then goG last r (n+1)else(0,false)
def qbo(s:List UInt8)(last:Bool):Int×Bool:=if s=[]then(0,true)else goG last (qbc 58 s) 0
def qfD(s:List UInt8):Bool:=match cut2 58 s with
 |(_,_,false)=>(qbo s true).2&&(qbo s true).1==8
 |(a,b,true)=>(qbo a false).2&&(qbo b true).2&&decide ((qbo a false).1+(qbo b true).1<=7)
def qeu(s:List UInt8):Bool:=if s.head? =some 91 then s.getLast? ==some 93&&qfD ((s.drop 1).dropLast)else !s.isEmpty&&qaF qb1 s==s.length
def qbC (s : List UInt8) : List UInt8 × List UInt8 × Bool :=
  if s.head? = some 91 ∧ s.contains 93 then
    let i := (s.takeWhile (· != 93)).length
    (s.take (i + 1), (s.drop (i + 1)).drop 1, (s.drop (i + 1)).isEmpty || (s.drop (i + 1)).head? == some 58)
  else ((cut1 58 s).1, (cut1 58 s).2.1, true)
def qbp(s:List UInt8):List UInt8×Int×Int:=
 if(qbC s).2.2=false\/qeu (qbC s).1=false\/5<(qbC s).2.1.length then([],0,52)
 else if(qbC s).2.1=[]then(low (qbC s).1,-1,0)
 else if(qae 10 65535 (qbC s).2.1).2≠0 then([],0,52)else(low (qbC s).1,(qae 10 65535 (qbC s).2.1).1,0)
def behE(s:List UInt8):Int:=match s.drop (qaF qcE s)with
 |[]=>0
 |c::q=>if c≠63 then qcN c 53 else match q.drop (qaF qdx q)with
  |[]=>0
  |d::_=>qcN d 54
def tgtE(m s:List UInt8):Int:=match s with
 |[]=>50
 |c::_=>if m=[67,79,78,78,69,67,84]then(if(qbp s).2.2≠0\/(qbp s).2.1<0 then 52 else 0)
  else if c=47 then behE s
  else if s=[42]/\m=[79,80,84,73,79,78,83]then 0
  else if s.length<7\/low (s.take 7)≠[104,116,116,112,58,47,47]then 50
  else if(qbp ((s.drop 7).takeWhile fun c=>c !=47&&c !=63)).2.2≠0 then(qbp ((s.drop 7).takeWhile fun c=>c !=47&&c !=63)).2.2
  else behE ((s.drop 7).dropWhile fun c=>c !=47&&c !=63)
def qe3(l:List Fld)(old:Bool):List UInt8×Bool×Int:=match allB l [72,111,115,116]with
 |[]=>if old then([],false,0)else([],false,69)
 |[v]=>if v.any (fun b=>decide (b.toNat<33)||decide (126<b.toNat)||[34,35,47,60,62,63,64,92].contains b)then([],false,69)else(v,true,0)
 |_=>([],false,69)
inductive Md where
 |start|startEnd|method|target|line|fields|counted|chunked
deriving DecidableEq
structure Prs where
 lt:Int
 lh:Int
 lf:Int
 lb:Int
 nx:Option Md
 state:Int
 used:Int
 meth:List UInt8
 targ:List UInt8
 major:Int
 minor:Int
 fields:List Fld
 rbody:List UInt8
 trailers:List Fld
 fst_:Int
 ferr:Int
 fat:Int
 text:List UInt8
 head:Int
 begin_:Int
 left:Int
 body:List UInt8
 dec:Option Dec
 bodied:Bool
inductive SR where
 |go (p:Prs) (nx:Option Md)
 |bad (p:Prs) (st err at_:Int)
def qao(p:Prs)(st err:Int):SR:= .bad p st err p.used
def qa6(p:Prs)(c:UInt8):SR:=if c≠10 then qao p 400 111 else .go p (some .start)
def qbz(p:Prs)(c:UInt8):SR:=
 if tokB [c]then(if p.text.length=24 then qao p 501 110 else .go {p with text:=p.text++[c]} (some .method))
 else if c=32/\p.text≠[]then .go {p with meth:=p.text,text:=[]} (some .target)else qao p 400 110
def qcC(p:Prs)(c:UInt8):SR:=if c=13 then .go p (some .startEnd)else qbz {p with state:=1} c
def qb3(p:Prs)(c:UInt8):SR:=
 if 33<=c.toNat/\c.toNat<=126 then(if(p.text.length:Int)=p.lt then qao p 414 112 else .go {p with text:=p.text++[c]} (some .target))
 else if c=32/\p.text≠[]then .go {p with targ:=p.text,text:=[]} (some .line)else qao p 400 111
def qaJ(n:Nat)(c:UInt8):Bool:=
 if n<5 then([72,84,84,80,47]:List UInt8)[n]? ==some c else if n=5\/n=7 then decide (48<=c.toNat/\c.toNat<=57)else if n=6 then c==46 else if n=8 then c==13 else if n=9 then c==10 else false
def qcd(p:Prs)(c:UInt8):SR:=
 if qaJ p.text.length c=false then qao p 400 111
 else if p.text.length<9 then .go {p with text:=p.text++[c]} (some .line)
 else
  let p1:Prs:={p with text:=[],major:=(p.text.getD 5 0).toNat-48,minor:=(p.text.getD 7 0).toNat-48}
  if p1.major≠1\/1<p1.minor then qao p1 505 117
  else if tgtE p.meth p.targ≠0 then qao p1 400 (tgtE p.meth p.targ)
  else .go {p1 with state:=2,begin_:=p.used+1} (some .fields)
def qcK(p:Prs):SR:= .go {p with rbody:=p.body,state:=4} none
def qa1(p:Prs):SR:=
 let old:=decide (p.minor=0)
 let f:=qa9 p.fields old
 if f.2.2=67 then qao p 501 67
 else if f.2.2≠0 then qao p 400 f.2.2
 else if(qe3 p.fields old).2.2≠0 then qao p 400 (qe3 p.fields old).2.2
 else if(qe3 p.fields old).1≠[]/\(qbp (qe3 p.fields old).1).2.2≠0 then qao p 400 (qbp (qe3 p.fields old).1).2.2
 else if allB p.fields [69,120,112,101,99,116]≠[]/\((qbQ p.fields [69,120,112,101,99,116]).2≠0\/(qbQ p.fields [69,120,112,101,99,116]).1≠[[49,48,48,45,99,111,110,116,105,110,117,101]])then qao p 417 116
 else if p.lb<f.2.1 then qao p 413 114
 else if f.1=2 then .go {p with state:=3,dec:=some (newD p.lb p.lh p.lf)} (some .chunked)
 else if 0<f.2.1 then .go {p with state:=3,left:=f.2.1} (some .counted)
 else qcK {p with state:=3}
def qbA(p:Prs)(c:UInt8):SR:=
 if p.head=p.lh then qao p 431 113
 else if(p.text.getLast? ==some 13)≠(c==10)then qao {p with head:=p.head+1} 400 111
 else if c≠10 then .go {p with head:=p.head+1,text:=p.text++[c]} (some .fields)
 else
  let p1:Prs:={p with head:=p.head+1,text:=[]}
  let line:=p.text.dropLast
  if line=[]then qa1 p1
  else if(p.fields.length:Int)=p.lf then qao p1 431 113
  else if(qaO line).2.2≠0 then .bad p1 400 (qaO line).2.2 (p.begin_+(qaO line).2.1)
  else .go {p1 with fields:=p.fields++[(qaO line).1],begin_:=p.used+1} (some .fields)
def qbH(p:Prs)(c:UInt8):SR:=
 let p1:Prs:={p with body:=p.body++[c],bodied:=true,left:=p.left-1}
 if 0<p1.left then .go p1 (some .counted)else qcK p1
def qa2(p:Prs)(c:UInt8):SR:=match p.dec with
 |none=>qao {p with bodied:=true} 400 103
 |some d=>
  if d.done=true\/d.err≠0 then qao {p with bodied:=true} 400 103
  else
   let d1:=(qav d [c]).1
   let p1:Prs:={p with bodied:=true,dec:=some d1}
   if d1.err=102 then qao p1 413 102
   else if d1.err=104 then qao p1 431 104
   else if d1.err≠0 then qao p1 400 d1.err
   else if d1.done=false then .go p1 (some .chunked)
   else qcK {p1 with body:=d1.body,trailers:=d1.trailers}
def qbr(p:Prs)(m:Md)(c:UInt8):SR:=match m with
 | .start=>qcC p c
 | .startEnd=>qa6 p c
 | .method=>qbz p c
 | .target=>qb3 p c
 | .line=>qcd p c
 | .fields=>qbA p c
 | .counted=>qbH p c
 | .chunked=>qa2 p c
def SR.prs:SR->Prs
 | .go p nx=>{p with nx:=nx,used:=p.used+1}
 | .bad p st err at_=>{p with nx:=none,state:=5,used:=p.used+1,fst_:=st,ferr:=err,fat:=at_}
def qaf(p:Prs):List UInt8->Prs×Nat
 |[]=>(p,0)
 |c::r=>match p.nx with
  |none=>(p,0)
  |some m=>match qbr p m c with
   | .go p1 nx=>((qaf {p1 with nx:=nx,used:=p1.used+1} r).1,(qaf {p1 with nx:=nx,used:=p1.used+1} r).2+1)
   | .bad p1 st err at_=>((SR.bad p1 st err at_).prs,1)
def Md.fid:Md->FuncId
 | .start=>39
 | .startEnd=>60
 | .method=>61
 | .target=>87
 | .line=>119
 | .fields=>145
 | .counted=>198
 | .chunked=>197
def nxV(b:Nat):Option Md->AV
 |none=> .raw .nilFunc
 |some m=> .fn m.fid [.tup [.ptr (some (b,0))]]
def Prs.av(b j:Nat)(p:Prs):List AV:=[.int .i64 p.lt,.int .i64 p.lh,.int .i64 p.lf,.int .i64 p.lb,nxV b p.nx,.int .i64 p.state,.int .i64 p.used,.str p.meth,.str p.targ,.int .i64 p.major,.int .i64 p.minor,.sl true 2 (flds p.fields),.str p.rbody,.sl false 2 (flds p.trailers),
 .int .i64 p.fst_,.int .i64 p.ferr,.int .i64 p.fat,.sl true 1 (bts p.text),.str [],.int .i64 p.head,.int .i64 p.begin_,.int .i64 p.left,.sl true 1 (bts p.body),.ptr (p.dec.map fun _=>(j,0)),.bool p.bodied]
structure PB (H:Hp) (b j:Nat) (p:Prs):Prop where
 row:H[b]? =some (p.av b j)
 dec:∀d,p.dec=some d->j≠b/\H[j]? =some d.av
structure fitP (n:Nat) (p:Prs):Prop where
 a:p.text.length+fsz p.fields+p.fields.length+p.meth.length+p.targ.length<=n
 b:p.body.length<=n
 c:∀d,p.dec=some d->okD d/\d.total<=n
 lt:1<=p.lt/\p.lt<=65536
 lh:2<=p.lh/\p.lh<=1048576
 lf:0<=p.lf/\p.lf<=100
 lb:0<=p.lb/\p.lb<=1073741824
 head:0<=p.head/\p.head<=n
 left: -(n:Int)<=p.left/\p.left<=1073741824
 used:0<=p.used/\p.used<=n
 beg:0<=p.begin_/\p.begin_<=n
 asc:∀c∈p.targ,c.toNat<128
 tx:p.nx=some .target->∀c∈p.text,c.toNat<128
 ln:p.nx=some .line->∀k c,p.text[k]? =some c->qaJ k c=true
 tr:p.trailers.length<=n
 rb:p.rbody.length<=n
def OthP(K K':Hp)(b j:Nat)(d:Bool):Prop:=K.length<=K'.length/\∀i,i<K.length->i≠b->(d=true->i≠j)->K'[i]? =K[i]?
end Go.Proofs.YtnnhdehmlkkfjaaGreatDoor
namespace Go.Proofs.YtnnhdehmlkkfjaaGreatDoor
open Go Go.Shelf Go.Proofs
def lrenb:Go.Shelf.Ren:=⟨fun|99=>186|100=>210|101=>187|119=>214|120=>223|129=>182|137=>156|138=>248|143=>242|144=>235|145=>188|146=>234|151=>202|152=>192|153=>165|160=>154|161=>200|169=>75|171=>80|195=>249|197=>201|206=>207|207=>225|208=>208|217=>180|218=>250|219=>224|220=>209|221=>241|224=>215|225=>216|226=>193|227=>174|228=>194|231=>172|232=>173|233=>175|234=>176|235=>177|236=>178|243=>112|246=>141|260=>222|266=>204|267=>233|268=>247|271=>203|283=>158|284=>159|285=>160|286=>161|314=>240|317=>181|318=>183|319=>184|320=>185|337=>205|338=>206|n=>n,fun|0=>0|2=>2|3=>3|4=>4|5=>5|9=>9|20=>20|21=>21|31=>78|37=>82|46=>224|51=>139|53=>198|59=>142|70=>118|72=>120|105=>233|116=>213|117=>214|119=>255|124=>217|127=>157|138=>257|139=>258|146=>262|171=>197|173=>201|212=>221|213=>222|232=>246|233=>247|n=>n,fun|1=>2|3=>5|4=>6|17=>1|18=>3|19=>4|n=>n⟩
theorem laysb99:Go.Proofs.Lays.n99 Tryz.prog lrenb:={
 mixed:=by kernel_rfl
 f99:=lfz Tryz.func186
 f206:=lfz Tryz.func207
 t3:=Tryz.underlying3
 a3:=Tryz.isAgg3
 z3:=Tryz.sizeOf3
 v3:=Tryz.zeroValue3
 t4:=Tryz.underlying4
 a4:=Tryz.isAgg4
 z4:=Tryz.sizeOf4
 v4:=Tryz.zeroValue4
 t9:=Tryz.underlying9
 a9:=Tryz.isAgg9
 z9:=Tryz.sizeOf9
 v9:=Tryz.zeroValue9}
theorem laysb100:Go.Proofs.Lays.n100 Tryz.prog lrenb:={
 mixed:=by kernel_rfl
 f100:=lfz Tryz.func210
 f207:=lfz Tryz.func225
 t3:=Tryz.underlying3
 a3:=Tryz.isAgg3
 z3:=Tryz.sizeOf3
 v3:=Tryz.zeroValue3
 t4:=Tryz.underlying4
 a4:=Tryz.isAgg4
 z4:=Tryz.sizeOf4
 v4:=Tryz.zeroValue4
 t9:=Tryz.underlying9
 a9:=Tryz.isAgg9
 z9:=Tryz.sizeOf9
 v9:=Tryz.zeroValue9}
theorem laysb101:Go.Proofs.Lays.n101 Tryz.prog lrenb:={
 mixed:=by kernel_rfl
 f101:=lfz Tryz.func187
 f206:=lfz Tryz.func207
 f208:=lfz Tryz.func208
 t3:=Tryz.underlying3
 a3:=Tryz.isAgg3
 z3:=Tryz.sizeOf3
 v3:=Tryz.zeroValue3
 t4:=Tryz.underlying4
 a4:=Tryz.isAgg4
 z4:=Tryz.sizeOf4
 v4:=Tryz.zeroValue4
 t9:=Tryz.underlying9
 a9:=Tryz.isAgg9
 z9:=Tryz.sizeOf9
 v9:=Tryz.zeroValue9}
theorem laysb144:Go.Proofs.Lays.n144 Tryz.prog lrenb:={
 mixed:=by kernel_rfl
 f143:=lfz Tryz.func242
 f144:=lfz Tryz.func235
 f217:=lfz Tryz.func180
 f219:=lfz Tryz.func224
 f224:=lfz Tryz.func215
 f225:=lfz Tryz.func216
 f266:=lfz Tryz.func204
 f267:=lfz Tryz.func233
 f314:=lfz Tryz.func240
 t3:=Tryz.underlying3
 a3:=Tryz.isAgg3
 z3:=Tryz.sizeOf3
 v3:=Tryz.zeroValue3
 t4:=Tryz.underlying4
 a4:=Tryz.isAgg4
 z4:=Tryz.sizeOf4
 v4:=Tryz.zeroValue4
 t5:=Tryz.underlying5
 a5:=Tryz.isAgg5
 z5:=Tryz.sizeOf5
 v5:=Tryz.zeroValue5
 t9:=Tryz.underlying9
 a9:=Tryz.isAgg9
 z9:=Tryz.sizeOf9
 v9:=Tryz.zeroValue9
 t46:=Tryz.underlying224
 a46:=Tryz.isAgg224
 z46:=Tryz.sizeOf224
 v46:=Tryz.zeroValue224
 t51:=Tryz.underlying139
 a51:=Tryz.isAgg139
 z51:=Tryz.sizeOf139
 v51:=Tryz.zeroValue139
 t146:=Tryz.underlying262
 a146:=Tryz.isAgg262
 z146:=Tryz.sizeOf262
 v146:=Tryz.zeroValue262
 g1:=by kernel_rfl}
theorem laysb145:Go.Proofs.Lays.n145 Tryz.prog lrenb:={
 mixed:=by kernel_rfl
 f145:=lfz Tryz.func188
 f217:=lfz Tryz.func180
 f219:=lfz Tryz.func224
 f220:=lfz Tryz.func209
 f224:=lfz Tryz.func215
 f225:=lfz Tryz.func216
 f266:=lfz Tryz.func204
 f267:=lfz Tryz.func233
 f314:=lfz Tryz.func240
 t3:=Tryz.underlying3
 a3:=Tryz.isAgg3
 z3:=Tryz.sizeOf3
 v3:=Tryz.zeroValue3
 t4:=Tryz.underlying4
 a4:=Tryz.isAgg4
 z4:=Tryz.sizeOf4
 v4:=Tryz.zeroValue4
 t5:=Tryz.underlying5
 a5:=Tryz.isAgg5
 z5:=Tryz.sizeOf5
 v5:=Tryz.zeroValue5
 t9:=Tryz.underlying9
 a9:=Tryz.isAgg9
 z9:=Tryz.sizeOf9
 v9:=Tryz.zeroValue9
 t46:=Tryz.underlying224
 a46:=Tryz.isAgg224
 z46:=Tryz.sizeOf224
 v46:=Tryz.zeroValue224
 t51:=Tryz.underlying139
 a51:=Tryz.isAgg139
 z51:=Tryz.sizeOf139
 v51:=Tryz.zeroValue139
 t59:=Tryz.underlying142
 a59:=Tryz.isAgg142
 z59:=Tryz.sizeOf142
 v59:=Tryz.zeroValue142
 t146:=Tryz.underlying262
 a146:=Tryz.isAgg262
 z146:=Tryz.sizeOf262
 v146:=Tryz.zeroValue262
 g1:=by kernel_rfl}
theorem laysb146:Go.Proofs.Lays.n146 Tryz.prog lrenb:={
 mixed:=by kernel_rfl
 f138:=lfz Tryz.func248
 f143:=lfz Tryz.func242
 f146:=lfz Tryz.func234
 f195:=lfz Tryz.func249
 f197:=lfz Tryz.func201
 f217:=lfz Tryz.func180
 f218:=lfz Tryz.func250
 f219:=lfz Tryz.func224
 f221:=lfz Tryz.func241
 f224:=lfz Tryz.func215
 f225:=lfz Tryz.func216
 f260:=lfz Tryz.func222
 f266:=lfz Tryz.func204
 f267:=lfz Tryz.func233
 f268:=lfz Tryz.func247
 f314:=lfz Tryz.func240
 t0:=Tryz.underlying0
 a0:=Tryz.isAgg0
 z0:=Tryz.sizeOf0
 v0:=Tryz.zeroValue0
 t3:=Tryz.underlying3
 a3:=Tryz.isAgg3
 z3:=Tryz.sizeOf3
 v3:=Tryz.zeroValue3
 t4:=Tryz.underlying4
 a4:=Tryz.isAgg4
 z4:=Tryz.sizeOf4
 v4:=Tryz.zeroValue4
 t5:=Tryz.underlying5
 a5:=Tryz.isAgg5
 z5:=Tryz.sizeOf5
 v5:=Tryz.zeroValue5
 t9:=Tryz.underlying9
 a9:=Tryz.isAgg9
 z9:=Tryz.sizeOf9
 v9:=Tryz.zeroValue9
 t21:=Tryz.underlying21
 a21:=Tryz.isAgg21
 z21:=Tryz.sizeOf21
 v21:=Tryz.zeroValue21
 t31:=Tryz.underlying78
 a31:=Tryz.isAgg78
 z31:=Tryz.sizeOf78
 v31:=Tryz.zeroValue78
 t46:=Tryz.underlying224
 a46:=Tryz.isAgg224
 z46:=Tryz.sizeOf224
 v46:=Tryz.zeroValue224
 t51:=Tryz.underlying139
 a51:=Tryz.isAgg139
 z51:=Tryz.sizeOf139
 v51:=Tryz.zeroValue139
 t105:=Tryz.underlying233
 a105:=Tryz.isAgg233
 z105:=Tryz.sizeOf233
 v105:=Tryz.zeroValue233
 t119:=Tryz.underlying255
 a119:=Tryz.isAgg255
 z119:=Tryz.sizeOf255
 t138:=Tryz.underlying257
 a138:=Tryz.isAgg257
 z138:=Tryz.sizeOf257
 v138:=Tryz.zeroValue257
 t139:=Tryz.underlying258
 a139:=Tryz.isAgg258
 z139:=Tryz.sizeOf258
 v139:=Tryz.zeroValue258
 t146:=Tryz.underlying262
 a146:=Tryz.isAgg262
 z146:=Tryz.sizeOf262
 v146:=Tryz.zeroValue262
 g1:=by kernel_rfl
 g3:=by kernel_rfl
 g4:=by kernel_rfl}
theorem laysb153:Go.Proofs.Lays.n153 Tryz.prog lrenb:={
 mixed:=by kernel_rfl
 f119:=lfz Tryz.func214
 f137:=lfz Tryz.func156
 f152:=lfz Tryz.func192
 f153:=lfz Tryz.func165
 f217:=lfz Tryz.func180
 f224:=lfz Tryz.func215
 f225:=lfz Tryz.func216
 f226:=lfz Tryz.func193
 f227:=lfz Tryz.func174
 f228:=lfz Tryz.func194
 f266:=lfz Tryz.func204
 t0:=Tryz.underlying0
 a0:=Tryz.isAgg0
 z0:=Tryz.sizeOf0
 v0:=Tryz.zeroValue0
 t3:=Tryz.underlying3
 a3:=Tryz.isAgg3
 z3:=Tryz.sizeOf3
 v3:=Tryz.zeroValue3
 t4:=Tryz.underlying4
 a4:=Tryz.isAgg4
 z4:=Tryz.sizeOf4
 v4:=Tryz.zeroValue4
 t5:=Tryz.underlying5
 a5:=Tryz.isAgg5
 z5:=Tryz.sizeOf5
 v5:=Tryz.zeroValue5
 t9:=Tryz.underlying9
 a9:=Tryz.isAgg9
 z9:=Tryz.sizeOf9
 v9:=Tryz.zeroValue9
 t21:=Tryz.underlying21
 a21:=Tryz.isAgg21
 z21:=Tryz.sizeOf21
 v21:=Tryz.zeroValue21
 t46:=Tryz.underlying224
 a46:=Tryz.isAgg224
 z46:=Tryz.sizeOf224
 v46:=Tryz.zeroValue224
 t116:=Tryz.underlying213
 a116:=Tryz.isAgg213
 z116:=Tryz.sizeOf213
 t117:=Tryz.underlying214
 a117:=Tryz.isAgg214
 z117:=Tryz.sizeOf214
 v117:=Tryz.zeroValue214
 t124:=Tryz.underlying217
 a124:=Tryz.isAgg217
 z124:=Tryz.sizeOf217
 v124:=Tryz.zeroValue217}
end Go.Proofs.YtnnhdehmlkkfjaaGreatDoor
namespace Go.Proofs.YtnnhdehmlkkfjaaGreatDoor
open Go Go.RowKit Go.Shelf
theorem hp1(l:List UInt8)(c:UInt8):Lib.hasPrefix l [c]=(l.head? ==some c):=by
 cases l with
 |nil=>rfl
 |cons a r=>
  by_cases h:a=c
  ·subst h;simp[Lib.hasPrefix,List.isPrefixOf]
  ·have h':(c==a)=false:=by simpa using fun e=>h e.symm
   simp[Lib.hasPrefix,List.isPrefixOf,h',h]
theorem hsf1(l:List UInt8)(c:UInt8):Lib.hasSuffix l [c]=(l.getLast? ==some c):=by
 have h:Lib.hasSuffix l [c]=Lib.hasPrefix l.reverse [c]:=by simp[Lib.hasSuffix,Lib.hasPrefix,List.isSuffixOf]
 rw[h,hp1,List.head?_reverse]
theorem tp1(l:List UInt8)(c:UInt8):Lib.trimPrefix l [c]=if l.head? =some c then l.drop 1 else l:=by
 unfold Lib.trimPrefix;rw[hp1];simp
theorem qkD(b c:UInt8)(l:List UInt8):Lib.indexByte (b::l) c=if b=c then 0 else if Lib.indexByte l c= -1 then-1 else Lib.indexByte l c+1:=by
 simp[Lib.indexByte]
theorem qdT(l:List UInt8)(c:UInt8):decide (0<=Lib.indexByte l c)=l.contains c:=by
 induction l with
 |nil=>rfl
 |cons b l ih=>
  rw[qkD,List.contains_cons,<-ih];have:=Lib.indexByte_ge l c;by_cases h:b=c
  ·subst h;simp
  ·have h':(c==b)=false:=by simpa using fun e=>h e.symm
   rw[if_neg h,h',Bool.false_or];by_cases h2:Lib.indexByte l c= -1
   ·rw[if_pos h2,h2]
   ·rw[if_neg h2,Bool.eq_iff_iff];simp;omega
theorem qfw (l : List UInt8) (c : UInt8) : (0 ≤ Lib.indexByte l c → (Lib.indexByte l c).toNat = (l.takeWhile (· != c)).length ∧ l.dropWhile (· != c) ≠ []) ∧ (Lib.indexByte l c < 0 → l.takeWhile (· != c) = l ∧ l.dropWhile (· != c) = []) := by
  induction l with
  | nil => exact ⟨fun h => by simp [Lib.indexByte] at h, fun _ => ⟨rfl, rfl⟩⟩
  | cons b l ih =>
    rw [qkD]
    have := Lib.indexByte_ge l c
    by_cases h : b = c
    · subst h; simp
    · have h' : (b != c) = true := by simpa using h
      rw [if_neg h, List.takeWhile_cons_of_pos (by simpa using h), List.dropWhile_cons_of_pos (by simpa using h)]
      by_cases h2 : Lib.indexByte l c = -1
      · rw [if_pos h2]
        refine ⟨fun h3 => absurd h3 (by decide), fun _ => ?_⟩
        obtain ⟨i1, i2⟩ := ih.2 (by omega)
        exact ⟨by rw [i1], i2⟩
      · rw [if_neg h2]
        obtain ⟨i1, i2⟩ := ih.1 (by omega)
        refine ⟨fun _ => ⟨by simp only [zqL]; omega, i2⟩, fun h3 => by omega⟩
theorem ix1(l:List UInt8)(c:UInt8):Lib.index l [c]=Lib.indexByte l c:=by
 induction l with
 |nil=>rfl
 |cons b l ih=>
  rw[qkD,Lib.index,ih];by_cases h:b=c
  ·subst h;simp[List.isPrefixOf]
  ·have h':(c==b)=false:=by simpa using fun e=>h e.symm
   simp[List.isPrefixOf,h',h]
theorem qb2(p:UInt8->Bool):∀l:List UInt8,l.take (l.takeWhile p).length=l.takeWhile p/\l.drop (l.takeWhile p).length=l.dropWhile p
 |[]=>⟨rfl,rfl⟩
 |b::l=>by
  by_cases h:p b=true
  ·rw[List.takeWhile_cons_of_pos h,List.dropWhile_cons_of_pos h];simp[qb2 p l]
  ·rw[List.takeWhile_cons_of_neg h,List.dropWhile_cons_of_neg h];simp
theorem qlR (l : List UInt8) (c : UInt8) : Lib.cut l [c] = cut1 c l := by
  unfold Lib.cut cut1
  rw [ix1, ← qdT]
  obtain ⟨h1, h2⟩ := qfw l c
  obtain ⟨t1, t2⟩ := qb2 (· != c) l
  by_cases h : 0 ≤ Lib.indexByte l c
  · rw [if_pos h, (h1 h).1, t1, ← List.drop_drop, t2]
    simp [h]
  · rw [if_neg h, (h2 (by omega)).1, (h2 (by omega)).2]
    simp [h]
theorem ix2(c:UInt8):∀l:List UInt8,Lib.cut l [c,c]=cut2 c l
 |[]=>rfl
 |[a]=>by simp[Lib.cut,cut2,Lib.index,List.isPrefixOf]
 |a::b::r=>by
  have ih:=ix2 c (b::r);unfold Lib.cut at ih⊢;rw[cut2,<-ih,Lib.index];have hg:=Lib.index_ge (b::r) [c,c];by_cases h:a=c/\b=c
  ·obtain⟨rfl,rfl⟩:=h;simp[List.isPrefixOf]
  ·rw[if_neg h]
   have hp:([c,c]:List UInt8).isPrefixOf (a::b::r)=false:=by
    simp only[List.isPrefixOf,Bool.and_true];rw[Bool.eq_false_iff];intro e;simp at e;exact h ⟨e.1.symm,e.2.symm⟩
   rw[hp];simp only[Bool.false_eq_true,if_false,beq_iff_eq];by_cases h2:Lib.index (b::r) [c,c]= -1
   ·rw[if_pos h2,h2];simp
   ·rw[if_neg h2,if_pos (by omega),if_pos (by omega)];have e1:(Lib.index (b::r) [c,c]+1).toNat=(Lib.index (b::r) [c,c]).toNat+1:=by omega
    rw[e1];simp[Nat.add_right_comm]
theorem qqb (c : UInt8) : ∀ l : List UInt8, qbc c l = if l.contains c then l.takeWhile (· != c) :: qbc c ((l.dropWhile (· != c)).drop 1) else [l]
  | [] => rfl
  | b :: l => by
    have ih := qqb c l
    rw [qbc]
    by_cases h : b = c
    · subst h
      simp
    · have h' : (c == b) = false := by simpa using fun e => h e.symm
      have hb : (b != c) = true := by simpa using h
      rw [if_neg h, List.contains_cons, h', Bool.false_or, List.takeWhile_cons_of_pos (p := (· != c)) hb, List.dropWhile_cons_of_pos (p := (· != c)) hb, ih]
      by_cases h2 : l.contains c = true
      · rw [if_pos h2, if_pos h2]
      · rw [if_neg h2, if_neg h2]
def ME(E:Env):Prop:=E.Fix 2/\∃m:Int,E.w0.cell? ⟨2,0,none⟩=some (.int .i64 m)
theorem ME.cell{E:Env}(h:ME E){w:World}(hw:∀b,E.Fix b->w.heap[b]? =E.w0.heap[b]?):∃m:Int,w.cell? ⟨2,0,none⟩=some (.int .i64 m):=by
 obtain⟨h1,m,h2⟩:=h;exact⟨m,(World.cell?_of_block (a:=⟨2,0,none⟩) (hw _ h1)).trans h2⟩
section
variable (E:Env){H:Hp}(Q:AV->Hp->Prop)
theorem qfP(l:List UInt8)(c:UInt8)(hQ:Q (.bool (l.head? ==some c)) H):PC Tryz.prog E 186 [.str l,.str [c]] H Q:=by
 refine qar (v:= .bool (l.head? ==some c)) (by kernel_rfl) (fun _=>True) (fun w hw=>trivial) (fun w β Rd cargs hS hsz hargs=>?_) (.bool _) rfl hQ;obtain⟨u,v,rfl,hu,hv⟩:=args2 hsz hargs;obtain⟨s,rfl,rfl,hs⟩:=qax hu;obtain⟨t,rfl,ht,_⟩:=qax hv;refine(Any.strings_HasPrefix laysb99 s t w).mono ?_;rintro e w' ⟨rfl,rfl⟩;rw[ht,hp1];exact⟨_,rfl,Frm.refl _ _,.bool _⟩
theorem qjB(l:List UInt8)(c:UInt8)(hQ:Q (.bool (l.getLast? ==some c)) H):PC Tryz.prog E 210 [.str l,.str [c]] H Q:=by
 refine qar (v:= .bool (l.getLast? ==some c)) (by kernel_rfl) (fun _=>True) (fun w hw=>trivial) (fun w β Rd cargs hS hsz hargs=>?_) (.bool _) rfl hQ;obtain⟨u,v,rfl,hu,hv⟩:=args2 hsz hargs;obtain⟨s,rfl,rfl,hs⟩:=qax hu;obtain⟨t,rfl,ht,_⟩:=qax hv;refine(Any.strings_HasSuffix laysb100 s t w (by unfold maxLen at hs;omega)).mono ?_;rintro e w' ⟨rfl,rfl⟩;rw[ht,hsf1];exact⟨_,rfl,Frm.refl _ _,.bool _⟩
theorem qeK(l:List UInt8)(c:UInt8)(hQ:Q (.str (if l.head? =some c then l.drop 1 else l)) H):PC Tryz.prog E 187 [.str l,.str [c]] H Q:=by
 refine qar (v:= .str (if l.head? =some c then l.drop 1 else l)) (by kernel_rfl) (fun _=>True) (fun w hw=>trivial) (fun w β Rd cargs hS hsz hargs=>?_) (.str _) rfl hQ;obtain⟨u,v,rfl,hu,hv⟩:=args2 hsz hargs;obtain⟨s,rfl,rfl,hs⟩:=qax hu;obtain⟨t,rfl,ht,_⟩:=qax hv;refine(Any.strings_TrimPrefix laysb101 s t w).mono ?_;rintro e w' ⟨rfl,rfl⟩;rw[ht,tp1];refine⟨_,rfl,Frm.refl _ _,qdP _ ?_⟩;rw[<-qad]at hs;split
 ·rw[zqI];omega
 ·exact hs
theorem qo0(hM:ME E)(l sep:List UInt8)(hl:l.length<=1073741824)(hQ:Q (.tup [.str (Lib.cut l sep).1,.str (Lib.cut l sep).2.1,.bool (Lib.cut l sep).2.2]) H):PC Tryz.prog E 188 [.str l,.str sep] H Q:=by
 refine qar (v:= .tup [.str (Lib.cut l sep).1,.str (Lib.cut l sep).2.1,.bool (Lib.cut l sep).2.2]) (by kernel_rfl) (fun w=>∃m:Int,w.cell? ⟨2,0,none⟩=some (.int .i64 m)) (fun w hw=>hM.cell hw) (fun w β Rd cargs hS hsz hargs=>?_) (by simp) rfl hQ;obtain⟨m,hm⟩:=hS;obtain⟨u,v,rfl,hu,hv⟩:=args2 hsz hargs;obtain⟨s,rfl,rfl,hs⟩:=qax hu;obtain⟨t,rfl,rfl,_⟩:=qax hv;rw[qad]at hl;refine(Any.strings_Cut laysb145 s t m w (by omega) hm).mono ?_;rintro e w' ⟨rfl,k,rfl⟩
 have hle:(Lib.cut s.data.toList t.data.toList).1.length<=s.size/\(Lib.cut s.data.toList t.data.toList).2.1.length<=s.size:=by
  rw[<-qad];unfold Lib.cut;split
  ·simp;omega
  ·simp
 refine⟨_,rfl,Frm.drewN _ _ _,.tup _ _ rfl (by simp[AV.free]) fun k x u hx hu=>?_⟩
 match k with
 |0=>simp at hx hu;subst hx;subst hu;exact qdP _ (by omega)
 |1=>simp at hx hu;subst hx;subst hu;exact qdP _ (by omega)
 |2=>simp at hx hu;subst hx;subst hu;exact .bool _
 |k+3=>simp at hx
theorem qkQ(l:List UInt8)(c:UInt8)(hQ:Q (.bool (l.contains c)) H):PC Tryz.prog E 235 [.str l,.str [c]] H Q:=by
 refine qar (v:= .bool (l.contains c)) (by kernel_rfl) (fun _=>True) (fun w hw=>trivial) (fun w β Rd cargs hS hsz hargs=>?_) (.bool _) rfl hQ;obtain⟨u,v,rfl,hu,hv⟩:=args2 hsz hargs;obtain⟨s,rfl,rfl,hs⟩:=qax hu;obtain⟨⟨⟨tl⟩⟩,rfl,ht,_⟩:=qax hv;have ht':tl=[c]:=ht;subst ht';refine(Any.strings_Contains_one laysb144 s c w).mono ?_;rintro e w' ⟨rfl,rfl⟩;rw[qdT];exact⟨_,rfl,Frm.refl _ _,.bool _⟩
theorem qkC(l cs:List UInt8)(hl:l.length<=1073741824)(hcl:cs.length<=1024)(ha:∀b∈l,b.toNat<128)(hc:∀b∈cs,b.toNat<128)(hQ:Q (.int .i64 (Lib.indexAny l cs)) H):PC Tryz.prog E 165 [.str l,.str cs] H Q:=by
 refine qar (v:= .int .i64 (Lib.indexAny l cs)) (by kernel_rfl) (fun _=>True) (fun w hw=>trivial) (fun w β Rd cargs hS hsz hargs=>?_) (.int _ _) rfl hQ;obtain⟨u,v,rfl,hu,hv⟩:=args2 hsz hargs;obtain⟨s,rfl,rfl,hs⟩:=qax hu;obtain⟨t,rfl,rfl,_⟩:=qax hv;rw[qad]at hl hcl;have h116:(Tryz.prog.info? (lrenb.t 116)).map (fun i=>(i.zero,i.size))=some (some (.agg (Array.replicate 256 (.bool false))),256):=by kernel_rfl
 refine(Any.strings_IndexAny_laid laysb153 h116 s t w (by omega) (by omega) (fun j b hb=>ha b (zqH hb)) (fun j b hb=>hc b (zqH hb))).mono ?_;rintro e w' ⟨rfl,hb⟩;exact⟨_,rfl,qbY hb,.int _ _⟩
end
end Go.Proofs.YtnnhdehmlkkfjaaGreatDoor
