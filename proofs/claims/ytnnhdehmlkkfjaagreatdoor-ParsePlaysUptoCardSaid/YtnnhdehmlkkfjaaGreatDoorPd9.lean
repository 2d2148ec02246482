/- Part 9 of the texts below the law. -/
import Derived.Test.YtnnhdehmlkkfjaaGreatDoorPd8
set_option maxRecDepth 100000
set_option maxHeartbeats 16000000
set_option linter.unusedVariables false
set_option linter.unusedSimpArgs false
set_option linter.unusedSectionVars false
namespace Go.Proofs.YtnnhdehmlkkfjaaGreatDoor
open Go Go.RowKit
section
variable (E:Env){H:Hp}(Q:AV->Hp->Prop)
theorem qe9(c:UInt8)(hQ:Q (.int .i64 (hexT c)) H):PC Tryz.prog E 227 [.int .u8 (c.toNat:Int)] H Q:=by
 refine qac Tryz.func227 rfl [] [] (by kernel_rfl) (fun hB=>?_);have h0:=c.toNat_lt;unfold hexT at hQ;rcases(by omega:(0<=c.toNat/\c.toNat<=47)\/(48<=c.toNat/\c.toNat<=57)\/(58<=c.toNat/\c.toNat<=64)\/(65<=c.toNat/\c.toNat<=70)\/(71<=c.toNat/\c.toNat<=96)\/(97<=c.toNat/\c.toNat<=102)\/(103<=c.toNat/\c.toNat<=255))with hr|hr|hr|hr|hr|hr|hr
 ·have f0:¬(48:Int)<=c.toNat:=by omega
  have f1:(c.toNat:Int)<=57:=by omega
  have f2:¬(97:Int)<=c.toNat:=by omega
  have f3:(c.toNat:Int)<=102:=by omega
  have f4:¬(65:Int)<=c.toNat:=by omega
  have f5:(c.toNat:Int)<=70:=by omega
  rw[if_neg (by omega),if_neg (by omega),if_neg (by omega)]at hQ;simp[Tryz.ntmps227,Tryz.results227,List.replicate_succ,f0,f1,f2,f3,f4,f5];exact aQz hB (h6:=hQ)
 ·have f0:(48:Int)<=c.toNat:=by omega
  have f1:(c.toNat:Int)<=57:=by omega
  have f2:¬(97:Int)<=c.toNat:=by omega
  have f3:(c.toNat:Int)<=102:=by omega
  have f4:¬(65:Int)<=c.toNat:=by omega
  have f5:(c.toNat:Int)<=70:=by omega
  have w:IntKind.u8.wrap ((c.toNat:Int)-48)=c.toNat-48:=by rw[IntKind.wrap_u8];omega
  have w2:IntKind.i64.wrap ((c.toNat:Int)-48)=c.toNat-48:=wiz;rw[if_pos (by omega)]at hQ;simp[Tryz.ntmps227,Tryz.results227,List.replicate_succ,f0,f1,f2,f3,f4,f5,w,w2];exact aQz hB (h6:=hQ)
 ·have f0:(48:Int)<=c.toNat:=by omega
  have f1:¬(c.toNat:Int)<=57:=by omega
  have f2:¬(97:Int)<=c.toNat:=by omega
  have f3:(c.toNat:Int)<=102:=by omega
  have f4:¬(65:Int)<=c.toNat:=by omega
  have f5:(c.toNat:Int)<=70:=by omega
  rw[if_neg (by omega),if_neg (by omega),if_neg (by omega)]at hQ;simp[Tryz.ntmps227,Tryz.results227,List.replicate_succ,f0,f1,f2,f3,f4,f5];exact aQz hB (h6:=hQ)
 ·have f0:(48:Int)<=c.toNat:=by omega
  have f1:¬(c.toNat:Int)<=57:=by omega
  have f2:¬(97:Int)<=c.toNat:=by omega
  have f3:(c.toNat:Int)<=102:=by omega
  have f4:(65:Int)<=c.toNat:=by omega
  have f5:(c.toNat:Int)<=70:=by omega
  have w:IntKind.u8.wrap ((c.toNat:Int)-65)=c.toNat-65:=by rw[IntKind.wrap_u8];omega
  have w2:IntKind.i64.wrap ((c.toNat:Int)-65)=c.toNat-65:=wiz;have w3:IntKind.i64.wrap ((c.toNat:Int)-65+10)=c.toNat-65+10:=wiz;rw[if_neg (by omega),if_neg (by omega),if_pos (by omega)]at hQ;simp[Tryz.ntmps227,Tryz.results227,List.replicate_succ,f0,f1,f2,f3,f4,f5,w,w2,w3];exact aQz hB (h6:=hQ)
 ·have f0:(48:Int)<=c.toNat:=by omega
  have f1:¬(c.toNat:Int)<=57:=by omega
  have f2:¬(97:Int)<=c.toNat:=by omega
  have f3:(c.toNat:Int)<=102:=by omega
  have f4:(65:Int)<=c.toNat:=by omega
  have f5:¬(c.toNat:Int)<=70:=by omega
  rw[if_neg (by omega),if_neg (by omega),if_neg (by omega)]at hQ;simp[Tryz.ntmps227,Tryz.results227,List.replicate_succ,f0,f1,f2,f3,f4,f5];exact aQz hB (h6:=hQ)
 ·have f0:(48:Int)<=c.toNat:=by omega
  have f1:¬(c.toNat:Int)<=57:=by omega
  have f2:(97:Int)<=c.toNat:=by omega
  have f3:(c.toNat:Int)<=102:=by omega
  have f4:(65:Int)<=c.toNat:=by omega
  have f5:¬(c.toNat:Int)<=70:=by omega
  have w:IntKind.u8.wrap ((c.toNat:Int)-97)=c.toNat-97:=by rw[IntKind.wrap_u8];omega
  have w2:IntKind.i64.wrap ((c.toNat:Int)-97)=c.toNat-97:=wiz;have w3:IntKind.i64.wrap ((c.toNat:Int)-97+10)=c.toNat-97+10:=wiz;rw[if_neg (by omega),if_pos (by omega)]at hQ;simp[Tryz.ntmps227,Tryz.results227,List.replicate_succ,f0,f1,f2,f3,f4,f5,w,w2,w3];exact aQz hB (h6:=hQ)
 ·have f0:(48:Int)<=c.toNat:=by omega
  have f1:¬(c.toNat:Int)<=57:=by omega
  have f2:(97:Int)<=c.toNat:=by omega
  have f3:¬(c.toNat:Int)<=102:=by omega
  have f4:(65:Int)<=c.toNat:=by omega
  have f5:¬(c.toNat:Int)<=70:=by omega
  rw[if_neg (by omega),if_neg (by omega),if_neg (by omega)]at hQ;simp[Tryz.ntmps227,Tryz.results227,List.replicate_succ,f0,f1,f2,f3,f4,f5];exact aQz hB (h6:=hQ)
theorem qqX(c:UInt8)(hQ:Q (.int .i64 (qdi c)) H):PC Tryz.prog E 213 [.int .u8 (c.toNat:Int)] H Q:=by
 refine qac Tryz.func213 rfl [] [] (by kernel_rfl) (fun hB=>?_);have h0:=c.toNat_lt;unfold qdi qby qbM qc0 at hQ;have i1:=qdT [45,46,95,126] c;have i2:=qdT [33,36,38,39,40,41,42,43,44,59,61] c;rcases(by omega:(0<=c.toNat/\c.toNat<=47)\/(48<=c.toNat/\c.toNat<=57)\/(58<=c.toNat/\c.toNat<=64)\/(65<=c.toNat/\c.toNat<=90)\/(91<=c.toNat/\c.toNat<=96)\/(97<=c.toNat/\c.toNat<=122)\/(123<=c.toNat/\c.toNat<=255))with hr|hr|hr|hr|hr|hr|hr
 ·have f0:¬(97:Int)<=c.toNat:=by omega
  have f1:(c.toNat:Int)<=122:=by omega
  have f2:¬(65:Int)<=c.toNat:=by omega
  have f3:(c.toNat:Int)<=90:=by omega
  have f4:¬(48:Int)<=c.toNat:=by omega
  have f5:(c.toNat:Int)<=57:=by omega
  have g:qcL c=false:=by unfold qcL;simp;omega
  rw[g,Bool.false_or]at hQ;simp[Tryz.ntmps213,Tryz.results213,List.replicate_succ,f0,f1,f2,f3,f4,f5];refine qaz E _ _ _ c ?_;by_cases g1:([45,46,95,126]:List UInt8).contains c=true
  ·have j1:0<=Lib.indexByte [45,46,95,126] c:=by rw[g1]at i1;simpa using i1
   rw[if_pos g1]at hQ;simp[qal,KP,qag,j1];exact aQz hB (h6:=hQ)
  ·have j1:¬0<=Lib.indexByte [45,46,95,126] c:=fun h=>g1 (by rw[<-i1];simpa using h);rw[if_neg g1]at hQ;simp[qal,KP,qag,j1];refine qaz E _ _ _ c ?_;by_cases g2:([33,36,38,39,40,41,42,43,44,59,61]:List UInt8).contains c=true
   ·have j2:0<=Lib.indexByte [33,36,38,39,40,41,42,43,44,59,61] c:=by rw[g2]at i2;simpa using i2
    rw[if_pos g2]at hQ;simp[qal,KP,qag,j2];exact aQz hB (h6:=hQ)
   ·have j2:¬0<=Lib.indexByte [33,36,38,39,40,41,42,43,44,59,61] c:=fun h=>g2 (by rw[<-i2];simpa using h);rw[if_neg g2]at hQ;by_cases e1:c=58
    ·subst e1;simp[qal,KP,qag,j2];exact aQz hB (h6:=hQ)
    ·have k1:=(qaw c 58 (by decide) 58 rfl e1).1;by_cases e2:c=64
     ·subst e2;simp[qal,KP,qag,j2];exact aQz hB (h6:=hQ)
     ·have k2:=(qaw c 64 (by decide) 64 rfl e2).1;rw[if_neg (by simp[e1,e2])]at hQ;by_cases e3:c=47
      ·subst e3;simp[qal,KP,qag,j2];exact aQz hB (h6:=hQ)
      ·have k3:=(qaw c 47 (by decide) 47 rfl e3).1;rw[if_neg e3]at hQ;by_cases e4:c=63
       ·subst e4;simp[qal,KP,qag,j2];exact aQz hB (h6:=hQ)
       ·have k4:=(qaw c 63 (by decide) 63 rfl e4).1;rw[if_neg e4]at hQ;simp[qal,KP,qag,j2,k1,k2,k3,k4];exact aQz hB (h6:=hQ)
 ·have f0:¬(97:Int)<=c.toNat:=by omega
  have f1:(c.toNat:Int)<=122:=by omega
  have f2:¬(65:Int)<=c.toNat:=by omega
  have f3:(c.toNat:Int)<=90:=by omega
  have f4:(48:Int)<=c.toNat:=by omega
  have f5:(c.toNat:Int)<=57:=by omega
  have g:qcL c=true:=by unfold qcL;simp;omega
  rw[g,Bool.true_or,if_pos rfl]at hQ;simp[Tryz.ntmps213,Tryz.results213,List.replicate_succ,f0,f1,f2,f3,f4,f5];exact aQz hB (h6:=hQ)
 ·have f0:¬(97:Int)<=c.toNat:=by omega
  have f1:(c.toNat:Int)<=122:=by omega
  have f2:¬(65:Int)<=c.toNat:=by omega
  have f3:(c.toNat:Int)<=90:=by omega
  have f4:(48:Int)<=c.toNat:=by omega
  have f5:¬(c.toNat:Int)<=57:=by omega
  have g:qcL c=false:=by unfold qcL;simp;omega
  rw[g,Bool.false_or]at hQ;simp[Tryz.ntmps213,Tryz.results213,List.replicate_succ,f0,f1,f2,f3,f4,f5];refine qaz E _ _ _ c ?_;by_cases g1:([45,46,95,126]:List UInt8).contains c=true
  ·have j1:0<=Lib.indexByte [45,46,95,126] c:=by rw[g1]at i1;simpa using i1
   rw[if_pos g1]at hQ;simp[qal,KP,qag,j1];exact aQz hB (h6:=hQ)
  ·have j1:¬0<=Lib.indexByte [45,46,95,126] c:=fun h=>g1 (by rw[<-i1];simpa using h);rw[if_neg g1]at hQ;simp[qal,KP,qag,j1];refine qaz E _ _ _ c ?_;by_cases g2:([33,36,38,39,40,41,42,43,44,59,61]:List UInt8).contains c=true
   ·have j2:0<=Lib.indexByte [33,36,38,39,40,41,42,43,44,59,61] c:=by rw[g2]at i2;simpa using i2
    rw[if_pos g2]at hQ;simp[qal,KP,qag,j2];exact aQz hB (h6:=hQ)
   ·have j2:¬0<=Lib.indexByte [33,36,38,39,40,41,42,43,44,59,61] c:=fun h=>g2 (by rw[<-i2];simpa using h);rw[if_neg g2]at hQ;by_cases e1:c=58
    ·subst e1;simp[qal,KP,qag,j2];exact aQz hB (h6:=hQ)
    ·have k1:=(qaw c 58 (by decide) 58 rfl e1).1;by_cases e2:c=64
     ·subst e2;simp[qal,KP,qag,j2];exact aQz hB (h6:=hQ)
     ·have k2:=(qaw c 64 (by decide) 64 rfl e2).1;rw[if_neg (by simp[e1,e2])]at hQ;by_cases e3:c=47
      ·subst e3;simp[qal,KP,qag,j2];exact aQz hB (h6:=hQ)
      ·have k3:=(qaw c 47 (by decide) 47 rfl e3).1;rw[if_neg e3]at hQ;by_cases e4:c=63
       ·subst e4;simp[qal,KP,qag,j2];exact aQz hB (h6:=hQ)
       ·have k4:=(qaw c 63 (by decide) 63 rfl e4).1;rw[if_neg e4]at hQ;simp[qal,KP,qag,j2,k1,k2,k3,k4];exact aQz hB (h6:=hQ)
 ·have f0:¬(97:Int)<=c.toNat:=by omega
  have f1:(c.toNat:Int)<=122:=by omega
  have f2:(65:Int)<=c.toNat:=by omega
  have f3:(c.toNat:Int)<=90:=by omega
  have f4:(48:Int)<=c.toNat:=by omega
  have f5:¬(c.toNat:Int)<=57:=by omega
  have g:qcL c=true:=by unfold qcL;simp;omega
  rw[g,Bool.true_or,if_pos rfl]at hQ;simp[Tryz.ntmps213,Tryz.results213,List.replicate_succ,f0,f1,f2,f3,f4,f5];exact aQz hB (h6:=hQ)
 ·have f0:¬(97:Int)<=c.toNat:=by omega
  have f1:(c.toNat:Int)<=122:=by omega
  have f2:(65:Int)<=c.toNat:=by omega
  have f3:¬(c.toNat:Int)<=90:=by omega
  have f4:(48:Int)<=c.toNat:=by omega
  have f5:¬(c.toNat:Int)<=57:=by omega
  have g:qcL c=false:=by unfold qcL;simp;omega
  rw[g,Bool.false_or]at hQ;simp[Tryz.ntmps213,Tryz.results213,List.replicate_succ,f0,f1,f2,f3,f4,f5];refine qaz E _ _ _ c ?_;by_cases g1:([45,46,95,126]:List UInt8).contains c=true
  ·have j1:0<=Lib.indexByte [45,46,95,126] c:=by rw[g1]at i1;simpa using i1
   rw[if_pos g1]at hQ;simp[qal,KP,qag,j1];exact aQz hB (h6:=hQ)
  ·have j1:¬0<=Lib.indexByte [45,46,95,126] c:=fun h=>g1 (by rw[<-i1];simpa using h);rw[if_neg g1]at hQ;simp[qal,KP,qag,j1];refine qaz E _ _ _ c ?_;by_cases g2:([33,36,38,39,40,41,42,43,44,59,61]:List UInt8).contains c=true
   ·have j2:0<=Lib.indexByte [33,36,38,39,40,41,42,43,44,59,61] c:=by rw[g2]at i2;simpa using i2
    rw[if_pos g2]at hQ;simp[qal,KP,qag,j2];exact aQz hB (h6:=hQ)
   ·have j2:¬0<=Lib.indexByte [33,36,38,39,40,41,42,43,44,59,61] c:=fun h=>g2 (by rw[<-i2];simpa using h);rw[if_neg g2]at hQ;by_cases e1:c=58
    ·subst e1;simp[qal,KP,qag,j2];exact aQz hB (h6:=hQ)
    ·have k1:=(qaw c 58 (by decide) 58 rfl e1).1;by_cases e2:c=64
     ·subst e2;simp[qal,KP,qag,j2];exact aQz hB (h6:=hQ)
     ·have k2:=(qaw c 64 (by decide) 64 rfl e2).1;rw[if_neg (by simp[e1,e2])]at hQ;by_cases e3:c=47
      ·subst e3;simp[qal,KP,qag,j2];exact aQz hB (h6:=hQ)
      ·have k3:=(qaw c 47 (by decide) 47 rfl e3).1;rw[if_neg e3]at hQ;by_cases e4:c=63
       ·subst e4;simp[qal,KP,qag,j2];exact aQz hB (h6:=hQ)
       ·have k4:=(qaw c 63 (by decide) 63 rfl e4).1;rw[if_neg e4]at hQ;simp[qal,KP,qag,j2,k1,k2,k3,k4];exact aQz hB (h6:=hQ)
 ·have f0:(97:Int)<=c.toNat:=by omega
  have f1:(c.toNat:Int)<=122:=by omega
  have f2:(65:Int)<=c.toNat:=by omega
  have f3:¬(c.toNat:Int)<=90:=by omega
  have f4:(48:Int)<=c.toNat:=by omega
  have f5:¬(c.toNat:Int)<=57:=by omega
  have g:qcL c=true:=by unfold qcL;simp;omega
  rw[g,Bool.true_or,if_pos rfl]at hQ;simp[Tryz.ntmps213,Tryz.results213,List.replicate_succ,f0,f1,f2,f3,f4,f5];exact aQz hB (h6:=hQ)
 ·have f0:(97:Int)<=c.toNat:=by omega
  have f1:¬(c.toNat:Int)<=122:=by omega
  have f2:(65:Int)<=c.toNat:=by omega
  have f3:¬(c.toNat:Int)<=90:=by omega
  have f4:(48:Int)<=c.toNat:=by omega
  have f5:¬(c.toNat:Int)<=57:=by omega
  have g:qcL c=false:=by unfold qcL;simp;omega
  rw[g,Bool.false_or]at hQ;simp[Tryz.ntmps213,Tryz.results213,List.replicate_succ,f0,f1,f2,f3,f4,f5];refine qaz E _ _ _ c ?_;by_cases g1:([45,46,95,126]:List UInt8).contains c=true
  ·have j1:0<=Lib.indexByte [45,46,95,126] c:=by rw[g1]at i1;simpa using i1
   rw[if_pos g1]at hQ;simp[qal,KP,qag,j1];exact aQz hB (h6:=hQ)
  ·have j1:¬0<=Lib.indexByte [45,46,95,126] c:=fun h=>g1 (by rw[<-i1];simpa using h);rw[if_neg g1]at hQ;simp[qal,KP,qag,j1];refine qaz E _ _ _ c ?_;by_cases g2:([33,36,38,39,40,41,42,43,44,59,61]:List UInt8).contains c=true
   ·have j2:0<=Lib.indexByte [33,36,38,39,40,41,42,43,44,59,61] c:=by rw[g2]at i2;simpa using i2
    rw[if_pos g2]at hQ;simp[qal,KP,qag,j2];exact aQz hB (h6:=hQ)
   ·have j2:¬0<=Lib.indexByte [33,36,38,39,40,41,42,43,44,59,61] c:=fun h=>g2 (by rw[<-i2];simpa using h);rw[if_neg g2]at hQ;by_cases e1:c=58
    ·subst e1;simp[qal,KP,qag,j2];exact aQz hB (h6:=hQ)
    ·have k1:=(qaw c 58 (by decide) 58 rfl e1).1;by_cases e2:c=64
     ·subst e2;simp[qal,KP,qag,j2];exact aQz hB (h6:=hQ)
     ·have k2:=(qaw c 64 (by decide) 64 rfl e2).1;rw[if_neg (by simp[e1,e2])]at hQ;by_cases e3:c=47
      ·subst e3;simp[qal,KP,qag,j2];exact aQz hB (h6:=hQ)
      ·have k3:=(qaw c 47 (by decide) 47 rfl e3).1;rw[if_neg e3]at hQ;by_cases e4:c=63
       ·subst e4;simp[qal,KP,qag,j2];exact aQz hB (h6:=hQ)
       ·have k4:=(qaw c 63 (by decide) 63 rfl e4).1;rw[if_neg e4]at hQ;simp[qal,KP,qag,j2,k1,k2,k3,k4];exact aQz hB (h6:=hQ)
theorem qnm(s:List UInt8)(i:Nat)(hi:i<s.length)(hl:s.length<=1073741824)(hQ:∀v,Q (.tup [.int .u8 v,.bool (qbv (s.drop i))]) H):PC Tryz.prog E 212 [.str s,.int .i64 (i:Int)] H Q:=by
 refine qac Tryz.func212 rfl [] [] (by kernel_rfl) (fun hB=>?_);have w2:IntKind.i64.wrap ((i:Int)+2)=i+2:=wiz;have w1:IntKind.i64.wrap ((i:Int)+1)=i+1:=wiz;by_cases h:i+2<s.length
 ·obtain⟨a,ha⟩:∃a,s[i]? =some a:=⟨_,zqD hi⟩
  obtain⟨b,hb⟩:∃b,s[i+1]? =some b:=⟨_,zqD (by omega)⟩
  obtain⟨c,hc⟩:∃c,s[i+2]? =some c:=⟨_,zqD h⟩
  have la:=qaq ha;have lb:=qaq hb;have lc:=qaq hc;have n1:¬(s.length:Int)<=i+2:=by omega
  have q1:((i:Int)+1).toNat=i+1:=by omega
  have q2:((i:Int)+2).toNat=i+2:=by omega
  have q3:(0:Int)<=i+1:=by omega
  have q4:(0:Int)<=i+2:=by omega
  have hd:s.drop i=a::b::c::s.drop (i+3):=by rw[qas s i a ha,qas s (i+1) b hb,qas s (i+2) c hc]
  rw[hd]at hQ;by_cases h37:a=37
  ·subst h37;simp[Tryz.ntmps212,Tryz.results212,List.replicate_succ,w2,w1,n1,la,lb,lc,q1,q2,q3,q4];refine qe9 E _ b ?_;simp[qal,KP,qag,w2,w1,lb,lc,q1,q2,q3,q4];refine qe9 E _ c ?_;by_cases x1:0<=hexT b
   ·have e:qbv (37::b::c::s.drop (i+3))=decide (0<=hexT c):=by simp[qbv,x1]
    rw[e]at hQ;simp[qal,KP,qag,x1];exact aQz hB (h6:=(hQ _))
   ·have e:qbv (37::b::c::s.drop (i+3))=false:=by simp[qbv,x1]
    rw[e]at hQ;simp[qal,KP,qag,x1];exact aQz hB (h6:=(hQ _))
  ·have hb2:=(qaw a 37 (by decide) 37 rfl h37).2;simp[Tryz.ntmps212,Tryz.results212,List.replicate_succ,w2,w1,n1,la,lb,lc,q1,q2,q3,q4,hb2];have e:qbv (a::b::c::s.drop (i+3))=false:=by simp[qbv,h37]
   rw[e]at hQ;exact aQz hB (h6:=(hQ 0))
 ·have n1:(s.length:Int)<=i+2:=by omega
  have e:qbv (s.drop i)=false:=by
   have:(s.drop i).length<=2:=by rw[zqI];omega
   match s.drop i,this with
   |[],_=>rfl
   |[_],_=>rfl
   |[_,_],_=>rfl
  rw[e]at hQ;simp[Tryz.ntmps212,Tryz.results212,List.replicate_succ,w2,n1];exact aQz hB (h6:=(hQ 0))
theorem qbm(may:UInt8->Bool)(c:UInt8)(r:List UInt8):qaF may (c::r)=if qbv (c::r)then 3+qaF may (r.drop 2)else if may c then 1+qaF may r else 0:=by
 rw[qaF]
theorem qeI{l:List UInt8}(h:qbv l=true):3<=l.length:=by
 match l,h with
 |_::_::_::_,_=>simp
def sgI(H:Hp)(s:List UInt8)(mask:Int)(may:UInt8->Bool)(fr:List AV)(K:Hp):Prop:=K=H/\∃i:Nat,i<=s.length/\qaF may s=i+qaF may (s.drop i)/\
 ∃x:Nat->AV,fr=[.str s,.int .i64 mask,x 2,x 3,x 4,.int .i64 (i:Int),x 6,x 7,x 8,x 9,x 10,x 11,x 12,x 13,x 14,x 15,x 16,x 17,x 18,x 19,x 20,x 21,x 22,x 23,x 24,x 25,x 26,x 27,x 28,x 29,x 30]
theorem qfY(s:List UInt8)(mask:Int)(may:UInt8->Bool)(hm:∀c:UInt8,(IntKind.i64.wrap (((qdi c%2^IntKind.i64.bits).toNat&&&(mask%2^IntKind.i64.bits).toNat:Nat):Int)==0)=!may c)(hl:s.length<=1073741824)(hQ:Q (.int .i64 (qaF may s)) H):PC Tryz.prog E 190 [.str s,.int .i64 mask] H Q:=by
 refine qac Tryz.func190 rfl [] [] (by kernel_rfl) (fun hB=>?_);simp[Tryz.ntmps190,Tryz.results190,List.replicate_succ];refine qaB (sgI H s mask may) (fun fr _=>s.length-(ai (aget fr 5)).toNat) ⟨rfl,0,by omega,by simp,friz⟩ ?_;rintro fr K ⟨rfl,i,hi,hS,x,rfl⟩;by_cases h:i<s.length
 ·obtain⟨c,hc⟩:∃c,s[i]? =some c:=⟨_,zqD h⟩
  have la:=qaq hc;have hd:=qas s i c hc;have w3:IntKind.i64.wrap ((i:Int)+3)=i+3:=wiz;have w1:IntKind.i64.wrap ((i:Int)+1)=i+1:=wiz;simp[h];refine qnm E _ s i h hl (fun v=>?_);rw[hd,qbm]at hS;rw[hd];by_cases ht:qbv (c::s.drop (i+1))=true
  ·have h3:=qeI ht;rw[<-hd,zqI]at h3;simp[qal,KP,ht,w3];rw[if_pos ht,List.drop_drop]at hS;exact Klz ⟨rfl,i+3,by omega,by rw[hS,show i+1+2=i+3 by omega];omega,friz⟩
  ·have ht':qbv (c::s.drop (i+1))=false:=by simpa using ht
   simp[qal,KP,ht',la];refine qqX E _ c ?_;rw[if_neg ht]at hS;have hmc:=hm c;cases hmay:may c with
   |true=>
    rw[hmay]at hmc hS;simp[qal,KP,qag,w1,hmc];exact Klz ⟨rfl,i+1,by omega,by rw[hS,if_pos rfl];omega,friz⟩
   |false=>
    rw[hmay]at hmc hS;rw[if_neg (by simp)]at hS;simp[qal,KP,qag,w1,hmc];rw[hS]at hQ;exact aQz hB (h6:=(by simpa using hQ))
 ·simp[h];have e:i=s.length:=by omega
  have hS2:qaF may s=i:=by rw[hS,e,List.drop_length];simp[qaF]
  rw[hS2]at hQ;exact aQz hB (h6:=hQ)
end
theorem qqA:∀n,n<256->hexT (UInt8.ofNat n)=dig (UInt8.ofNat n):=by decide
theorem qqz(c:UInt8):hexT c=dig c:=by
 have:=qqA c.toNat c.toNat_lt;simpa using this
theorem num4(g:List UInt8)(h:qaU 16 g=true)(hl:g.length<=4):qbe 16 g<=65535:=by
 unfold qbe;unfold qaU at h
 match g,hl,h with
 |[],_,_=>simp
 |[a],_,h=>simp at h⊢;omega
 |[a,b],_,h=>simp at h⊢;omega
 |[a,b,c],_,h=>simp at h⊢;omega
 |[a,b,c,d],_,h=>simp at h⊢;omega
 |_::_::_::_::_::_,hl,_=>simp at hl
theorem qkq(g:List UInt8):qaU 16 g=g.all fun c=>decide (0<=hexT c):=by
 unfold qaU;congr 1;funext c;rw[qqz];have:=qhZ c;rw[Bool.eq_iff_iff];simp;omega
theorem hexOk(g:List UInt8):((qae 16 65535 g).2=0/\g.length<=4)↔(1<=g.length/\g.length<=4/\g.all (fun c=>decide (0<=hexT c))=true):=by
 unfold qae;rw[<-qkq];by_cases h1:g=[]
 ·subst h1;simp
 ·have hp:1<=g.length:=List.length_pos_iff.2 h1;rw[if_neg h1];cases h2:qaU 16 g with
  |false=>simp
  |true=>
   rw[if_neg (by simp)];by_cases h4:g.length<=4
   ·have:=num4 g h2 h4;rw[if_neg (by omega)];simp[h4,hp]
   ·simp[h4]
def hexP(g:List UInt8):Bool:=decide ((qae 16 65535 g).2=0/\g.length<=4)
theorem qsS(g:List UInt8)(h:g.contains 46=true):g.all (fun c=>decide (0<=hexT c))=false:=by
 rw[Bool.eq_false_iff];intro ha;have h46:(46:UInt8)∈g:=by simpa using h
 have:=List.all_eq_true.1 ha 46 h46;revert this;decide
theorem nodot(g:List UInt8)(h:g.contains 46=false):dotB g=false:=by
 unfold dotB;rw[qqb,if_neg (by rw[h];simp)];simp
def goD'(last:Bool):List (List UInt8)->Int->Int
 |[],n=>n
 |g::r,n=>if hexP g then goD' last r (n+1)else if last&&r.isEmpty&&dotB g then goD' last r (n+2)else-1
theorem qop(last:Bool):∀(l:List (List UInt8)) (n:Int),goD' last l n=if(goG last l n).2 then(goG last l n).1 else-1
 |[],n=>by simp[goD',goG]
 |g::r,n=>by
  have hx:=hexOk g;rw[goD',goG,qop last r];unfold hexP;by_cases hd:g.contains 46=true
  ·have ha:=qsS g hd;have h0:¬((qae 16 65535 g).2=0/\g.length<=4):=fun h=>by have:=(hx.1 h).2.2;rw[ha]at this;cases this
   rw[if_neg (by simpa using h0)];by_cases hl:(last&&r.isEmpty)=true
   ·rw[hl,hd];have hr:r=[]:=by simp at hl;exact hl.2
    subst hr;cases hb:dotB g<;>simp[goD']
   ·have hl':(last&&r.isEmpty)=false:=by simpa using hl
    rw[hl',ha];simp
  ·have hd':g.contains 46=false:=by simpa using hd
   rw[hd',nodot g hd'];simp only[Bool.and_false];simp only[Bool.false_eq_true,if_false];by_cases h0:(qae 16 65535 g).2=0/\g.length<=4
   ·obtain⟨k1,k2,k3⟩:=hx.1 h0;have q:¬(g.length<1\/4<g.length):=by omega
    have q2:decide ((qae 16 65535 g).2=0/\g.length<=4)=true:=by simpa using h0
    simp only[q2,if_neg q,k3,if_true]
   ·rw[if_neg (by simpa using h0)];by_cases h5:g.length<1\/4<g.length
    ·rw[if_pos h5];simp
    ·rw[if_neg h5]
     have:(g.all fun c=>decide (0<=hexT c))=false:=by
      rw[Bool.eq_false_iff];exact fun h=>h0 (hx.2 ⟨by omega,by omega,h⟩)
     rw[this];simp
theorem qoo(last:Bool):∀(l:List (List UInt8)) (n:Int),0<=n->0<=(goG last l n).1/\(goG last l n).1<=n+2+l.length
 |[],n,h=>by simp[goG];omega
 |g::r,n,h=>by
  have ih:=qoo last r (n+1) (by omega);rw[goG];simp only[zqL];split
  ·simp only;omega
  ·split
   ·simp only;omega
   ·split
    ·omega
    ·simp only;omega
def grpD(s:List UInt8)(last:Bool):Int:=if s=[]then 0 else goD' last (qbc 58 s) 0
theorem qiq(s:List UInt8)(last:Bool):grpD s last=if(qbo s last).2 then(qbo s last).1 else-1:=by
 unfold grpD qbo;by_cases h:s=[]
 ·rw[if_pos h,if_pos h];rfl
 ·rw[if_neg h,if_neg h,qop]
theorem qec(s:List UInt8)(last:Bool):0<=(qbo s last).1:=by
 unfold qbo;split
 ·simp
 ·exact(qoo last _ 0 (by omega)).1
theorem addrD(s:List UInt8):qfD s=match cut2 58 s with
  |(_,_,false)=>grpD s true==8
  |(a,b,true)=>decide (0<=grpD a false)&&decide (0<=grpD b true)&&decide (grpD a false+grpD b true<=7):=by
 unfold qfD;rcases hc:cut2 58 s with⟨a,b,h⟩;have n1:=qec a false;have n2:=qec b true;have n3:=qec s true;cases h with
 |false=>
  simp only;rw[qiq];cases h1:(qbo s true).2<;>simp
 |true=>
  simp only;rw[qiq,qiq];cases h1:(qbo a false).2<;>cases h2:(qbo b true).2<;>simp[n1,n2]
theorem dwi(p:UInt8->Bool):∀l:List UInt8,(l.dropWhile p).dropWhile p=l.dropWhile p
 |[]=>rfl
 |a::l=>by
  by_cases h:p a=true
  ·rw[List.dropWhile_cons_of_pos h];exact dwi p l
  ·rw[List.dropWhile_cons_of_neg h,List.dropWhile_cons_of_neg h]
theorem qc3(may:UInt8->Bool):qaF may []=0:=by rw[qaF]
theorem ql6 (c : UInt8) (r : List UInt8) (stop : UInt8) (hs : hexT stop < 0) (hc : c ≠ stop) : qbv (c :: r.takeWhile (· != stop)) = qbv (c :: r) := by
  match r with
  | [] => rfl
  | [a] =>
    by_cases ha : a = stop
    · subst ha; simp [qbv]
    · rw [List.takeWhile_cons_of_pos (by simpa using ha)]; rfl
  | a :: b :: r =>
    by_cases ha : a = stop
    · subst ha
      have : ¬ 0 ≤ hexT a := by omega
      simp [qbv, this]
    · rw [List.takeWhile_cons_of_pos (by simpa using ha)]
      by_cases hb : b = stop
      · subst hb
        have : ¬ 0 ≤ hexT b := by omega
        simp [qbv, this]
      · rw [List.takeWhile_cons_of_pos (by simpa using hb)]; rfl
theorem qeo (may : UInt8 → Bool) (stop : UInt8) (hm : may stop = false) (hs : hexT stop < 0) (h37 : stop ≠ 37) : ∀ (k : Nat) (s : List UInt8), s.length ≤ k → qaF may (s.takeWhile (· != stop)) = qaF may s
  | _, [], _ => rfl
  | 0, _ :: _, h => by simp at h
  | k + 1, c :: r, h => by
    simp only [zqL] at h
    by_cases hc : c = stop
    · subst hc
      have ht : qbv (c :: r) = false := by
        match r with
        | [] => rfl
        | [_] => rfl
        | _ :: _ :: _ => simp [qbv, h37]
      rw [qbm, if_neg (by rw [ht]; simp), if_neg (by rw [hm]; simp)]
      simp [qc3]
    · rw [List.takeWhile_cons_of_pos (by simpa using hc), qbm, qbm, ql6 c r stop hs hc]
      by_cases ht : qbv (c :: r) = true
      · rw [if_pos ht, if_pos ht]
        have e : (r.takeWhile (· != stop)).drop 2 = (r.drop 2).takeWhile (· != stop) := by
          match r, ht with
          | a :: b :: r, ht =>
            simp [qbv] at ht
            have ha : a ≠ stop := fun e => by subst e; omega
            have hb : b ≠ stop := fun e => by subst e; omega
            rw [List.takeWhile_cons_of_pos (by simpa using ha), List.takeWhile_cons_of_pos (by simpa using hb)]
            rfl
        rw [e, qeo may stop hm hs h37 k _ (by rw [zqI]; omega)]
      · rw [if_neg ht, if_neg ht]
        by_cases hy : may c = true
        · rw [if_pos hy, if_pos hy, qeo may stop hm hs h37 k r (by omega)]
        · rw [if_neg hy, if_neg hy]
theorem qc4(may:UInt8->Bool):∀(k:Nat) (s:List UInt8),s.length<=k->qaF may s<=s.length
 |_,[],_=>by simp[qc3]
 |0,_::_,h=>by simp at h
 |k+1,c::r,h=>by
  simp only[zqL]at h⊢;rw[qbm];split
  ·rename_i ht;have:=qeI ht;simp only[zqL]at this;have h1:=qc4 may k (r.drop 2) (by rw[zqI];omega);rw[zqI]at h1;omega
  ·split
   ·have h1:=qc4 may k r (by omega);omega
   ·omega
def qcM(may:UInt8->Bool)(other:Int)(s:List UInt8):Int:=match s.drop (qaF may s)with
 |[]=>0
 |c::_=>qcN c other
theorem behD (s : List UInt8) : behE s = if qcM qcE 53 (s.takeWhile (· != 63)) ≠ 0 then qcM qcE 53 (s.takeWhile (· != 63)) else qcM qdx 54 ((s.dropWhile (· != 63)).drop 1) := by
  obtain ⟨t1, t2⟩ := qb2 (· != 63) s
  obtain ⟨p, hp⟩ := exz (s.takeWhile (· != 63))
  obtain ⟨q, hq⟩ := exz (s.dropWhile (· != 63))
  have hn := qeo qcE 63 (by decide) (by decide) (by decide) _ s (Nat.le_refl _)
  have hs : s = p ++ q := by rw [← hp, ← hq, List.takeWhile_append_dropWhile]
  have hl := qc4 qcE _ p (Nat.le_refl _)
  have hpn : ∀ c ∈ p, c ≠ 63 := fun c hc => by
    rw [← hp] at hc
    have := List.all_takeWhile (p := (· != (63 : UInt8))) (l := s)
    have := List.all_eq_true.1 this c hc
    simpa using this
  rw [hp] at hn ⊢
  rw [hq]
  unfold behE
  rw [← hn]
  have e : s.drop (qaF qcE p) = p.drop (qaF qcE p) ++ q := by
    rw [hs, List.drop_append_of_le_length hl]
  rw [e]
  unfold qcM
  cases hd : p.drop (qaF qcE p) with
  | nil =>
    simp only [List.nil_append]
    rw [if_neg (by simp)]
    cases q with
    | nil => simp [qc3]
    | cons c q =>
      have hc : c = 63 := by
        have : ¬ (c != 63) = true := by
          intro h
          have h2 := List.dropWhile_cons_of_pos (p := (· != (63 : UInt8))) (l := q) h
          have h3 : (s.dropWhile (· != 63)).dropWhile (· != 63) = s.dropWhile (· != 63) := dwi _ _
          rw [hq, h2] at h3
          have := congrArg List.length h3
          have h4 : (q.dropWhile (· != 63)).length ≤ q.length := by rw [← (qb2 (· != 63) q).2, zqI]; omega
          simp only [zqL] at this
          omega
        simpa using this
      subst hc
      simp
      try (cases List.drop (qaF qdx q) q <;> rfl)
  | cons d r =>
    simp only [List.cons_append]
    have hd63 : d ≠ 63 := hpn d (List.mem_of_mem_drop (by rw [hd]; exact .head _))
    have hw : qcN d 53 ≠ 0 := by unfold qcN; split <;> decide
    rw [if_pos hd63, if_pos hw]
def qfC(s:List UInt8):List UInt8×Int×Int:=
 let fin (host port:List UInt8):List UInt8×Int×Int:=if port=[]then(low host,-1,0)else if(qae 10 65535 port).2≠0\/5<port.length then([],0,52)else(low host,(qae 10 65535 port).1,0)
 if s.head? =some 91 then
  let c:=cut1 93 (s.drop 1)
  if c.2.2=false\/qfD c.1=false\/(c.2.1≠[]/\c.2.1.head? ≠some 58)then([],0,52)else fin (s.take (c.1.length+2)) (c.2.1.drop 1)
 else
  let c:=cut1 58 s
  if c.1=[]\/qaF qb1 c.1≠c.1.length then([],0,52)else fin c.1 c.2.1
theorem ql0(host port:List UInt8):(if 5<port.length then([],0,52)else if port=[]then(low host,-1,0)else if(qae 10 65535 port).2≠0 then([],0,52)else(low host,(qae 10 65535 port).1,0):List UInt8×Int×Int)=
  (if port=[]then(low host,-1,0)else if(qae 10 65535 port).2≠0\/5<port.length then([],0,52)else(low host,(qae 10 65535 port).1,0)):=by
 by_cases h1:port=[]
 ·subst h1;simp
 ·rw[if_neg h1,if_neg h1];by_cases h2:5<port.length
  ·simp[h2]
  ·rw[if_neg h2];simp[h2]
theorem qq7 (s inner rest : List UInt8) (hs : s = 91 :: (inner ++ 93 :: rest)) (hin : (93 : UInt8) ∉ inner) : qbC s = (91 :: (inner ++ [93]), rest.drop 1, rest.isEmpty || rest.head? == some 58) := by
  unfold qbC
  have hc : s.contains 93 = true := by rw [hs]; simp
  have htw : s.takeWhile (· != 93) = 91 :: inner := by
    rw [hs, List.takeWhile_cons_of_pos (by decide), List.takeWhile_append_of_pos (fun x hx => by simpa using fun e : x = 93 => hin (by rw [← e]; exact hx)), List.takeWhile_cons_of_neg (by simp), List.append_nil]
  rw [if_pos ⟨by rw [hs]; rfl, hc⟩, htw]
  have h1 : s.take (inner.length + 1 + 1) = 91 :: (inner ++ [93]) := by rw [hs]; simp [List.take_append, zqE]
  have h2 : s.drop (inner.length + 1 + 1) = rest := by rw [hs]; simp
  simp only [zqL, h1, h2]
theorem qq6 (s : List UInt8) : qbp s = qfC s := by
  by_cases h91 : s.head? = some 91
  · obtain ⟨t, rfl⟩ : ∃ t, s = 91 :: t := by
      cases s with
      | nil => simp at h91
      | cons a t => simp at h91; exact ⟨t, by rw [h91]⟩
    have hD : qfC (91 :: t) = (let c := cut1 93 t
        if c.2.2 = false ∨ qfD c.1 = false ∨ (c.2.1 ≠ [] ∧ c.2.1.head? ≠ some 58) then ([], 0, 52) else
          if c.2.1.drop 1 = [] then (low ((91 :: t).take (c.1.length + 2)), -1, 0) else if (qae 10 65535 (c.2.1.drop 1)).2 ≠ 0 ∨ 5 < (c.2.1.drop 1).length then ([], 0, 52) else (low ((91 :: t).take (c.1.length + 2)), (qae 10 65535 (c.2.1.drop 1)).1, 0)) := by
      unfold qfC
      dsimp only
      rw [if_pos h91]
      rfl
    rw [hD]
    cases h93 : t.contains 93 with
    | false =>
      have e0 : (cut1 93 t).2.2 = false := h93
      dsimp only
      rw [if_pos (.inl e0)]
      have hcut : qbC (91 :: t) = ((cut1 58 (91 :: t)).1, (cut1 58 (91 :: t)).2.1, true) := by
        unfold qbC
        rw [if_neg]
        rintro ⟨_, h⟩
        rw [List.contains_cons, h93] at h
        simp at h
      have hh : qeu (cut1 58 (91 :: t)).1 = false := by
        have e1 : (cut1 58 (91 :: t)).1 = 91 :: t.takeWhile (· != 58) := by simp [cut1]
        rw [e1]
        unfold qeu
        rw [if_pos (show ((91 : UInt8) :: t.takeWhile (· != 58)).head? = some 91 from rfl)]
        have : (((91 : UInt8) :: t.takeWhile (· != 58)).getLast? == some 93) = false := by
          rw [Bool.eq_false_iff]
          intro h
          have h2 : ((91 : UInt8) :: t.takeWhile (· != 58)).getLast? = some 93 := by simpa using h
          have h3 := List.mem_of_getLast? h2
          simp only [List.mem_cons] at h3
          rcases h3 with h3 | h3
          · cases h3
          · have h4 : (93 : UInt8) ∈ t := (List.takeWhile_sublist _).subset h3
            have : t.contains 93 = true := by simpa using h4
            rw [h93] at this
            cases this
        rw [this]; rfl
      unfold qbp
      rw [hcut]
      dsimp only
      rw [if_pos (.inr (.inl hh))]
    | true =>
      obtain ⟨t1, t2⟩ := qb2 (· != 93) t
      obtain ⟨inner, hin⟩ := exz (t.takeWhile (· != 93))
      have hni : (93 : UInt8) ∉ inner := fun h => by
        have := List.all_takeWhile (p := (· != (93 : UInt8))) (l := t)
        rw [hin] at this
        have := List.all_eq_true.1 this 93 h
        simp at this
      rw [hin] at t1 t2
      have hne : t.dropWhile (· != 93) ≠ [] := by
        have := qdT t 93
        rw [h93] at this
        exact ((qfw t 93).1 (by simpa using this)).2
      obtain ⟨z, rest, hz⟩ : ∃ z rest, t.dropWhile (· != 93) = z :: rest := by
        cases h : t.dropWhile (· != 93) with
        | nil => exact absurd h hne
        | cons z r => exact ⟨z, r, rfl⟩
      have hz93 : z = 93 := by
        have h3 : (t.dropWhile (· != 93)).dropWhile (· != 93) = t.dropWhile (· != 93) := dwi _ _
        refine Classical.byContradiction fun hn => ?_
        rw [hz, List.dropWhile_cons_of_pos (by simpa using hn)] at h3
        have := congrArg List.length h3
        have h4 : (rest.dropWhile (· != 93)).length ≤ rest.length := by rw [← (qb2 (· != 93) rest).2, zqI]; omega
        simp only [zqL] at this
        omega
      subst hz93
      have ht : t = inner ++ 93 :: rest := by
        have := List.take_append_drop inner.length t
        rw [t1, t2, hz] at this
        exact this.symm
      have hc1 : (cut1 93 t).1 = inner := hin
      have hc2 : (cut1 93 t).2.1 = rest := by show (t.dropWhile (· != 93)).drop 1 = rest; rw [hz]; rfl
      have hc3 : (cut1 93 t).2.2 = true := h93
      have htk : ((91 : UInt8) :: t).take (inner.length + 2) = 91 :: (inner ++ [93]) := by rw [ht]; simp [List.take_append, zqE]
      dsimp only
      rw [hc1, hc2, hc3, htk]
      unfold qbp
      rw [qq7 _ inner rest (by rw [ht]) hni]
      dsimp only
      have hhost : qeu (91 :: (inner ++ [93])) = qfD inner := by
        unfold qeu
        rw [if_pos (show ((91 : UInt8) :: (inner ++ [93])).head? = some 91 from rfl)]
        have g1 : ((91 : UInt8) :: (inner ++ [93])).getLast? = some 93 := by rw [← List.cons_append, List.getLast?_append]; rfl
        rw [g1]
        simp
      rw [hhost]
      have hor : ((rest.isEmpty || rest.head? == some 58) = false) ↔ (rest ≠ [] ∧ rest.head? ≠ some 58) := by
        cases rest <;> simp
      by_cases hA : (rest.isEmpty || rest.head? == some 58) = false
      · rw [if_pos (.inl hA), if_pos (.inr (.inr (hor.1 hA)))]
      · by_cases hB : qfD inner = false
        · rw [if_pos (.inr (.inl hB)), if_pos (.inr (.inl hB))]
        · rw [if_neg (show ¬ (true = false ∨ qfD inner = false ∨ (rest ≠ [] ∧ rest.head? ≠ some 58)) from fun h => h.elim (by simp) fun h => h.elim hB fun h => hA (hor.2 h)), ← ql0]
          by_cases h5 : 5 < (rest.drop 1).length
          · rw [if_pos (.inr (.inr h5)), if_pos h5]
          · rw [if_neg (fun h => h.elim hA fun h => h.elim hB h5), if_neg h5]
  · have hcut : qbC s = ((cut1 58 s).1, (cut1 58 s).2.1, true) := by
      unfold qbC
      rw [if_neg (fun h => h91 h.1)]
    have hh : qeu (cut1 58 s).1 = false ↔ ((cut1 58 s).1 = [] ∨ qaF qb1 (cut1 58 s).1 ≠ (cut1 58 s).1.length) := by
      have h0 : (cut1 58 s).1.head? ≠ some 91 := by
        intro h
        apply h91
        cases s with
        | nil => simp [cut1] at h
        | cons a t =>
          by_cases ha : a = 58
          · subst ha; simp [cut1] at h
          · simp [cut1, ha] at h; rw [h]; rfl
      unfold qeu
      rw [if_neg h0]
      by_cases he : (cut1 58 s).1 = []
      · simp [he]
      · simp [he]
    unfold qbp qfC
    rw [hcut, if_neg h91]
    dsimp only
    by_cases hB : qeu (cut1 58 s).1 = false
    · rw [if_pos (.inr (.inl hB)), if_pos (hh.1 hB)]
    · rw [if_neg (fun h => hB (hh.2 h)), ← ql0]
      by_cases h5 : 5 < (cut1 58 s).2.1.length
      · rw [if_pos (.inr (.inr h5)), if_pos h5]
      · rw [if_neg (fun h => h.elim (by simp) fun h => h.elim hB h5), if_neg h5]
theorem qg9(s:List UInt8):(qbp s).2.2=0\/(qbp s).2.2=52:=by
 unfold qbp;split
 ·exact .inr rfl
 ·split
  ·exact .inl rfl
  ·split
   ·exact .inr rfl
   ·exact .inl rfl
end Go.Proofs.YtnnhdehmlkkfjaaGreatDoor
namespace Go.Proofs.YtnnhdehmlkkfjaaGreatDoor
open Go Go.RowKit Go.Shelf
theorem qey(c:UInt8):(qby c=true/\qdi c=1)\/(qby c=false/\qbM c=true/\qdi c=2)\/(qby c=false/\qbM c=false/\qc0 c=true/\qdi c=4)\/(qby c=false/\qbM c=false/\qc0 c=false/\c=47/\qdi c=8)\/(qby c=false/\qbM c=false/\qc0 c=false/\c=63/\qdi c=16)\/(qby c=false/\qbM c=false/\qc0 c=false/\c≠47/\c≠63/\qdi c=0):=by
 unfold qdi;by_cases h1:qby c=true
 ·exact .inl ⟨h1,by rw[if_pos h1]⟩
 ·have h1':qby c=false:=by simpa using h1
  rw[if_neg h1];by_cases h2:qbM c=true
  ·exact .inr (.inl ⟨h1',h2,by rw[if_pos h2]⟩)
  ·have h2':qbM c=false:=by simpa using h2
   rw[if_neg h2];by_cases h3:qc0 c=true
   ·exact .inr (.inr (.inl ⟨h1',h2',h3,by rw[if_pos h3]⟩))
   ·have h3':qc0 c=false:=by simpa using h3
    rw[if_neg h3];by_cases h4:c=47
    ·exact .inr (.inr (.inr (.inl ⟨h1',h2',h3',h4,by rw[if_pos h4]⟩)))
    ·rw[if_neg h4];by_cases h5:c=63
     ·exact .inr (.inr (.inr (.inr (.inl ⟨h1',h2',h3',h5,by rw[if_pos h5]⟩))))
     ·exact .inr (.inr (.inr (.inr (.inr ⟨h1',h2',h3',h4,h5,by rw[if_neg h5]⟩))))
theorem qn4(c:UInt8):(IntKind.i64.wrap (((qdi c%2^IntKind.i64.bits).toNat&&&((3:Int)%2^IntKind.i64.bits).toNat:Nat):Int)==0)=!qb1 c:=by
 unfold qb1;rcases qey c with⟨h1,h⟩|⟨h1,h2,h⟩|⟨h1,h2,h3,h⟩|⟨h1,h2,h3,h4,h⟩|⟨h1,h2,h3,h4,h⟩|⟨h1,h2,h3,h4,h5,h⟩
 ·rw[h,h1];simp;decide
 ·rw[h,h1,h2];decide
 ·rw[h,h1,h2];decide
 ·rw[h,h1,h2];decide
 ·rw[h,h1,h2];decide
 ·rw[h,h1,h2];decide
theorem qn3(c:UInt8):(IntKind.i64.wrap (((qdi c%2^IntKind.i64.bits).toNat&&&((15:Int)%2^IntKind.i64.bits).toNat:Nat):Int)==0)=!qcE c:=by
 unfold qcE;rcases qey c with⟨h1,h⟩|⟨h1,h2,h⟩|⟨h1,h2,h3,h⟩|⟨h1,h2,h3,h4,h⟩|⟨h1,h2,h3,h4,h⟩|⟨h1,h2,h3,h4,h5,h⟩
 ·rw[h,h1];simp;decide
 ·rw[h,h1,h2];simp;decide
 ·rw[h,h1,h2,h3];simp;decide
 ·rw[h,h1,h2,h3,h4];decide
 ·rw[h,h1,h2,h3,h4];decide
 ·have e:(c==47)=false:=by simpa using h4
  rw[h,h1,h2,h3,e];decide
theorem qjk(c:UInt8):(IntKind.i64.wrap (((qdi c%2^IntKind.i64.bits).toNat&&&((31:Int)%2^IntKind.i64.bits).toNat:Nat):Int)==0)=!qdx c:=by
 unfold qdx;rcases qey c with⟨h1,h⟩|⟨h1,h2,h⟩|⟨h1,h2,h3,h⟩|⟨h1,h2,h3,h4,h⟩|⟨h1,h2,h3,h4,h⟩|⟨h1,h2,h3,h4,h5,h⟩
 ·rw[h,h1];simp;decide
 ·rw[h,h1,h2];simp;decide
 ·rw[h,h1,h2,h3];simp;decide
 ·rw[h,h1,h2,h3,h4];decide
 ·rw[h,h1,h2,h3,h4];decide
 ·have e:(c==47)=false:=by simpa using h4
  have e2:(c==63)=false:=by simpa using h5
  rw[h,h1,h2,h3,e,e2];decide
theorem qiV (c : UInt8) : ∀ (k : Nat) (l : List UInt8), l.length ≤ k → Lib.splitK [c] 0 (Lib.count l [c]) l = qbc c l
  | 0, l, h => by
    have : l = [] := List.length_eq_zero_iff.1 (by omega)
    subst this
    rfl
  | k + 1, l, h => by
    rw [qqb]
    have hg := Lib.indexByte_ge l c
    have hb := qdT l c
    obtain ⟨t1, t2⟩ := qb2 (· != c) l
    by_cases hc : l.contains c = true
    · rw [hc] at hb
      have h0 : 0 ≤ Lib.indexByte l c := by simpa using hb
      obtain ⟨e1, e2⟩ := (qfw l c).1 h0
      have hi : Lib.index l [c] = ((l.takeWhile (· != c)).length : Nat) := by rw [ix1]; omega
      rw [if_pos hc, Lib.count_hit (by simp) hi, Nat.add_comm, Lib.splitK, hi]
      rw [if_neg (by simp)]
      simp only [Int.toNat_natCast, Nat.add_zero, zqL, List.length_nil, Nat.zero_add]
      rw [t1, ← List.drop_drop, t2]
      have hlen : ((l.dropWhile (· != c)).drop 1).length ≤ k := by
        have h3 : (l.dropWhile (· != c)).length ≤ l.length := by rw [← t2, zqI]; omega
        have h4 : 0 < (l.dropWhile (· != c)).length := List.length_pos_iff.2 e2
        rw [zqI]
        omega
      rw [qiV c k _ hlen]
    · have hc' : l.contains c = false := by simpa using hc
      rw [hc'] at hb
      have h0 : ¬ 0 ≤ Lib.indexByte l c := by simpa using hb
      have hi : Lib.index l [c] = -1 := by rw [ix1]; omega
      rw [if_neg hc, Lib.count_miss hi]
      rfl
section
variable (E:Env){H:Hp}(Q:AV->Hp->Prop)
theorem qgn(sep:ByteArray)(m:Nat):∀(k:Nat) (s:ByteArray),s.size<=m->∀x∈Lib.splitB sep 0 k s,x.size<=m
 |0,s,h,x,hx=>by simp[Lib.splitB]at hx;subst hx;exact h
 |k+1,s,h,x,hx=>by
  unfold Lib.splitB at hx;split at hx
  ·simp at hx;subst hx;exact h
  ·simp only[List.mem_cons]at hx;rcases hx with rfl|hx
   ·simp only[ByteArray.size_extract];omega
   ·exact qgn sep m k _ (by simp only[ByteArray.size_extract];omega) x hx
theorem qlb(hM:ME E)(l:List UInt8)(c:UInt8)(hl:l.length<=1073741824)(hQ:Q (.sl false 1 (strs (qbc c l))) H):PC Tryz.prog E 234 [.str l,.str [c]] H Q:=by
 refine⟨by kernel_rfl,fun w β Rd Ow cargs hHR hOw hsz hargs=>?_⟩;obtain⟨m,hm⟩:=hM.cell (w:=w) fun b hb=>(hHR.fix b hb).1;obtain⟨u,v,rfl,hu,hv⟩:=args2 hsz (fun t x u hx hu=>(hargs t x u hx hu).1);obtain⟨s,rfl,rfl,hs⟩:=qax hu;obtain⟨⟨⟨tl⟩⟩,rfl,ht,_⟩:=qax hv;have ht':tl=[c]:=ht;subst ht';rw[qad]at hl;have h11:1<=(⟨#[c]⟩:ByteArray).size:=Nat.le_refl _;have hi9:(Tryz.prog.info? (lrenb.t 9)).map (fun i=>(i.zero,i.size,i.bytes))=some (some (.string ByteArray.empty),1,16):=by kernel_rfl
 refine(Any.strings_Split laysb146 hi9 s ⟨#[c]⟩ m w (by omega) hm h11).mono ?_;rintro e w' ⟨rfl,rfl⟩;have hlen:=Lib.splitB_all ⟨#[c]⟩ h11 0 _ s rfl;have hdata:=Lib.splitB_data ⟨#[c]⟩ 0 (Lib.countB s ⟨#[c]⟩) s;have hcs:Lib.splitK (⟨#[c]⟩:ByteArray).data.toList 0 (Lib.countB s ⟨#[c]⟩) s.data.toList=qbc c s.data.toList:=qiV c _ _ (Nat.le_refl _);rw[hcs]at hdata;obtain⟨L,hL⟩:=exz (Lib.splitB ⟨#[c]⟩ 0 (Lib.countB s ⟨#[c]⟩) s);have hle:=Lib.countB_le ⟨#[c]⟩ h11 s.size s (Nat.le_refl _);have hsz2:=qgn ⟨#[c]⟩ s.size (Lib.countB s ⟨#[c]⟩) s (Nat.le_refl _);rw[hL]at hlen hdata hsz2⊢;obtain⟨n,hn⟩:=exz (Lib.countB s ⟨#[c]⟩);rw[hn]at hlen hle⊢;have hN:(strs (qbc c s.data.toList)).length=n+1:=by rw[<-hdata];simp[strs,hlen]
 have hrel:Rel (w.alloc (.cells (L.map Value.string).toArray (lrenb.t 9))) β (fun g o=>Rd g o\/g=w.heap.size) (.sl false 1 (strs (qbc c s.data.toList))) (.slice (some ⟨w.heap.size,0,none⟩) (n+1) (n+1)):=by
  refine .sl false 1 _ _ (L.map Value.string) (fun r hr=>?_) ?_ (fun g o n' c' hv j hj=>?_) (fun h=>by cases h) (fun r hr x hx=>?_) (fun j x u hx hu=>?_)
  ·simp[strs]at hr;obtain⟨_,_,rfl⟩:=hr;rfl
  ·rw[hN];refine⟨by simp[hlen],_,n+1,rfl,Nat.le_refl _,by unfold maxLen;omega,fun _=>⟨_,_,rfl,fun j hj=>?_⟩⟩;rw[Nat.zero_add,World.cell?_alloc_new];simp
  ·cases hv;exact .inr rfl
  ·simp[strs]at hr;obtain⟨_,_,rfl⟩:=hr;simp at hx;subst hx;exact⟨rfl,rfl⟩
  ·have hf:(strs (qbc c s.data.toList)).flatten=L.map fun b=>AV.str b.data.toList:=by
    rw[<-hdata];clear hdata hN hL hsz2 hlen hx hu
    induction L with
    |nil=>rfl
    |cons a L ih=>simp[strs]at ih⊢;exact ih
   rw[hf,List.getElem?_map]at hx;rw[List.getElem?_map]at hu;cases hj:L[j]? with
   |none=>rw[hj]at hx;cases hx
   |some b=>
    rw[hj]at hx hu;simp at hx hu;subst hx;subst hu;exact .str _ _ rfl (by have:=hsz2 b (zqH hj);unfold maxLen;omega)
 refine⟨_,_,H,β,_,Ow,rfl,hQ,qdy hHR (Frm.alloc _ _ _) (fun g _=>g=w.heap.size) (fun g o h=>⟨by omega,by simp;omega⟩) hrel (.sl _ _ _ fun r hr x hx=>?_) rfl⟩;simp[strs]at hr;obtain⟨_,_,rfl⟩:=hr;simp at hx;subst hx;exact .str _
end
def PE(E:Env):Prop:=SE2 E/\ME E
theorem SE2.env{E E':Env}(h:SE2 E)(h0:E'.w0=E.w0)(hF:E'.Fix=E.Fix):SE2 E':=⟨⟨by rw[hF];exact h.1.1,by rw[h0];exact h.1.2⟩,by rw[hF];exact h.2.1,by rw[h0];exact h.2.2⟩
theorem ME.env{E E':Env}(h:ME E)(h0:E'.w0=E.w0)(hF:E'.Fix=E.Fix):ME E':=⟨by rw[hF];exact h.1,by rw[h0];exact h.2⟩
theorem PE.env{E E':Env}(h:PE E)(h0:E'.w0=E.w0)(hF:E'.Fix=E.Fix):PE E':=⟨h.1.env h0 hF,h.2.env h0 hF⟩
theorem qlL{α:Type}(l:List α)(k:Nat)(x:α)(h:l[k]? =some x):l.drop k=x::l.drop (k+1):=by
 have hlt:=(zqC.1 h).1;rw[List.drop_eq_getElem_cons hlt,(zqC.1 h).2]
theorem qc2(c:UInt8):∀l:List UInt8,(qbc c l).length<=l.length+1/\∀g∈qbc c l,g.length<=l.length
 |[]=>by simp[qbc]
 |x::r=>by
  obtain⟨h1,h2⟩:=qc2 c r;rw[qbc];split
  ·refine⟨by simp;omega,fun g hg=>?_⟩;rcases List.mem_cons.1 hg with rfl|hg
   ·simp
   ·have:=h2 g hg;simp;omega
  ·split
   ·rename_i h t he;rw[he]at h1 h2;refine⟨by simp at h1⊢;omega,fun g hg=>?_⟩;rcases List.mem_cons.1 hg with rfl|hg
    ·have:=h2 h (.head _);simp;omega
    ·have:=h2 g (.tail _ hg);simp;omega
   ·exact⟨by simp,fun g hg=>by simp at hg;subst hg;simp⟩
theorem qcx(l:List UInt8)(m:Int)(hm:0<=m):0<=(qae 10 m l).1/\(qae 10 m l).1<=m:=by
 unfold qae
 repeat' split
 all_goals first
  |exact⟨Int.le_refl _,hm⟩
  |skip
 rename_i h1 h2 h3;exact⟨qbl 10 (by decide) l (by simpa using h2),by simp only;omega⟩
theorem qlQ(c:UInt8):∀l:List UInt8,(cut2 c l).1.length<=l.length/\(cut2 c l).2.1.length<=l.length
 |[]=>by simp[cut2]
 |[a]=>by simp[cut2]
 |a::b::r=>by
  obtain⟨h1,h2⟩:=qlQ c (b::r);rw[cut2];split
  ·simp;omega
  ·simp only[zqL]at h1 h2⊢;omega
section
open Go.Lib
variable (E:Env){H:Hp}(Q:AV->Hp->Prop)
theorem qmn(hE:SE2 E)(n:Int)(h0: -9223372036854775808<=n)(h1:n<=9223372036854775807)(hQ:Q (.str (itoa n)) H):PC Tryz.prog E 56 [.int .i64 n] H Q:=by
 refine qac Tryz.func56 rfl [] [] (by kernel_rfl) (fun hB=>?_);simp[Tryz.ntmps56,Tryz.results56,List.replicate_succ];refine qsG E H _ hE n h0 h1 ?_;simp;exact aQz hB (h6:=hQ)
theorem qeG(s:List UInt8)(i:Nat)(c:UInt8)(other:Int)(hc:s[i]? =some c)(hQ:Q (.int .i64 (qcN c other)) H):PC Tryz.prog E 191 [.str s,.int .i64 (i:Int),.int .i64 other] H Q:=by
 refine qac Tryz.func191 rfl [] [] (by kernel_rfl) (fun hB=>?_);have la:=qaq hc;unfold qcN at hQ;by_cases h:c=37
 ·subst h;simp[Tryz.ntmps191,Tryz.results191,List.replicate_succ,la];exact aQz hB (h6:=hQ)
 ·have hb:=(qaw c 37 (by decide) 37 rfl h).1;rw[if_neg h]at hQ;simp[Tryz.ntmps191,Tryz.results191,List.replicate_succ,la,hb];exact aQz hB (h6:=hQ)
def dtI(H:Hp)(s:List UInt8)(L:List (List UInt8))(fr:List AV)(K:Hp):Prop:=K=H/\∃i:Nat,i<=L.length/\(L.take i).all qeh=true/\
 ∃x:Nat->AV,fr=[.str s,x 1,x 2,.sl false 1 (strs L),x 4,x 5,x 6,x 7,x 8,x 9,.sl false 1 (strs L),.int .i64 (L.length:Int),.int .i64 (i:Int),x 13,x 14,x 15,x 16,x 17,x 18,x 19,x 20,x 21,x 22,x 23,x 24,x 25,x 26,x 27,x 28,x 29,x 30,x 31,x 32]
theorem qkB(hE:PE E)(s:List UInt8)(hl:s.length<=1073741824)(hQ:Q (.bool (dotB s)) H):PC Tryz.prog E 236 [.str s] H Q:=by
 refine qac Tryz.func236 rfl [] [] (by kernel_rfl) (fun hB=>?_);simp[Tryz.ntmps236,Tryz.results236,List.replicate_succ];refine qlb E _ hE.2 s 46 hl ?_;obtain⟨h1,h2⟩:=qc2 46 s;obtain⟨L,hL⟩:=exz (qbc 46 s);unfold dotB at hQ;rw[hL]at h1 h2 hQ⊢;simp;refine qaB (dtI H s L) (fun fr _=>L.length-(ai (aget fr 12)).toNat) ⟨rfl,0,by omega,by simp,friz⟩ ?_;rintro fr K ⟨rfl,i,hi,hS,x,rfl⟩;by_cases h:i<L.length
 ·obtain⟨g,hg⟩:∃g,L[i]? =some g:=⟨_,zqD h⟩
  have hat:=qcB hg;have hgl:=h2 g (zqH hg);have w1:IntKind.i64.wrap ((i:Int)+1)=i+1:=wiz;have hst:=qb0 qeh L i g hg;have hsp:=qdH qeh L i g hg;simp[h,hat];refine qcA E _ _ g 255 (by simp only[cap];omega) (by decide) (by decide) ?_;have hr:=qcx g 255 (by decide);by_cases he:(qae 10 255 g).2=0
  ·simp[he];refine qmn E _ hE.1 _ (by omega) (by omega) ?_;by_cases hd:itoa (qae 10 255 g).1=g
   ·have hok:qeh g=true:=by unfold qeh;simp[he,hd]
    simp[hd,w1];exact Klz ⟨rfl,i+1,by omega,by rw[hst,hS,hok];rfl,friz⟩
   ·have hok:qeh g=false:=by unfold qeh;simp[he,hd]
    have hd':(itoa (qae 10 255 g).1==g)=false:=by simpa using hd
    have hd2:(itoa (qae 10 255 g).1 !=g)=true:=by simpa using hd
    rw[hsp hok]at hQ;simp[hd',hd2];exact aQz hB (h6:=(by simpa using hQ))
  ·have hok:qeh g=false:=by unfold qeh;simp[he]
   have he1:((qae 10 255 g).2==0)=false:=by simpa using he
   have he2:((qae 10 255 g).2 !=0)=true:=by simpa using he
   rw[hsp hok]at hQ;simp[he1,he2];exact aQz hB (h6:=(by simpa using hQ))
 ·obtain rfl:i=L.length:=by omega
  rw[List.take_length]at hS;rw[hS,Bool.true_and]at hQ;simp;refine aQz hB (h6:=?_);have:((L.length:Int)==4)=(L.length==4):=by rw[Bool.eq_iff_iff];simp;omega
  rw[this];exact hQ
def grI(H:Hp)(s:List UInt8)(last:Bool)(L:List (List UInt8))(fr:List AV)(K:Hp):Prop:=K=H/\∃i:Nat,i<=L.length/\goG last L 0=goG last (L.drop i) (i:Int)/\
 ∃x:Nat->AV,fr=[.str s,.bool last,x 2,x 3,x 4,x 5,.int .i64 (i:Int),.sl false 1 (strs L),x 8,x 9,x 10,x 11,x 12,x 13,x 14,.sl false 1 (strs L),.int .i64 (L.length:Int),.int .i64 (i:Int),x 18,x 19,x 20,x 21,x 22,x 23,x 24,x 25,x 26,x 27,x 28,x 29,x 30,x 31,x 32,x 33,x 34,x 35,x 36,x 37,x 38,x 39,x 40,x 41,x 42,x 43,x 44,x 45,x 46,x 47,x 48,x 49,x 50,x 51,x 52,x 53,x 54,x 55,x 56,x 57,x 58,x 59,x 60]
def grI2(H:Hp)(s:List UInt8)(last:Bool)(L:List (List UInt8))(g:List UInt8)(i:Nat)(fr:List AV)(K:Hp):Prop:=K=H/\∃k:Nat,k<=g.length/\(g.take k).all (fun c=>decide (0<=hexT c))=true/\
 ∃x:Nat->AV,fr=[.str s,.bool last,x 2,x 3,x 4,x 5,.int .i64 (i:Int),.sl false 1 (strs L),x 8,.str g,x 10,x 11,x 12,x 13,x 14,.sl false 1 (strs L),.int .i64 (L.length:Int),.int .i64 (i:Int),x 18,x 19,x 20,x 21,x 22,x 23,x 24,x 25,x 26,x 27,x 28,x 29,x 30,x 31,x 32,x 33,x 34,x 35,x 36,x 37,x 38,x 39,x 40,x 41,x 42,x 43,x 44,x 45,x 46,.int .i64 (g.length:Int),.int .i64 (k:Int),x 49,x 50,x 51,x 52,x 53,x 54,x 55,x 56,x 57,x 58,x 59,x 60]
theorem qgI(hE:PE E)(s:List UInt8)(last:Bool)(hl:s.length<=1073741824)(hQ:∀v ok,qbo s last=(v,ok)->Q (.tup [.int .i64 v,.bool ok]) H):PC Tryz.prog E 226 [.str s,.bool last] H Q:=by
 refine qac Tryz.func226 rfl [] [] (by kernel_rfl) (fun hB=>?_);by_cases h0:s=[]
 ·subst h0;simp[Tryz.ntmps226,Tryz.results226,List.replicate_succ];exact aQz hB (h6:=(hQ 0 true rfl))
 have h0':(s==[])=false:=by simpa using h0
 simp[Tryz.ntmps226,Tryz.results226,List.replicate_succ,h0'];refine qlb E _ hE.2 s 58 hl ?_;obtain⟨h1,h2⟩:=qc2 58 s;have fin:∀v ok,goG last (qbc 58 s) 0=(v,ok)->Q (.tup [.int .i64 v,.bool ok]) H:=fun v ok h=>hQ v ok (by unfold qbo;rw[if_neg h0];exact h);obtain⟨L,hL⟩:=exz (qbc 58 s);rw[hL]at h1 h2 fin⊢;clear hQ;simp;refine qaB (grI H s last L) (fun fr _=>L.length-(ai (aget fr 17)).toNat) ⟨rfl,0,by omega,by simp,friz⟩ ?_;rintro fr K ⟨rfl,i,hi,hS,x,rfl⟩;by_cases h:i<L.length
 ·obtain⟨g,hg⟩:∃g,L[i]? =some g:=⟨_,zqD h⟩
  have hat:=qcB hg;have hgl:=h2 g (zqH hg);have w1:IntKind.i64.wrap ((i:Int)+1)=i+1:=wiz;have w2:IntKind.i64.wrap ((i:Int)+2)=i+2:=wiz;have w3:IntKind.i64.wrap ((L.length:Int)-1)=L.length-1:=wiz;rw[qlL L i g hg,goG]at hS
  have hem:(L.drop (i+1)).isEmpty=((i:Int)==(L.length:Int)-1):=by
   rw[Bool.eq_iff_iff];simp;omega
  rw[hem]at hS;by_cases hcd:(last&&((i:Int)==(L.length:Int)-1))=true
  ·have hla:last=true:=by simp only[Bool.and_eq_true]at hcd;exact hcd.1
   have his:((i:Int)==(L.length:Int)-1)=true:=by simp only[Bool.and_eq_true]at hcd;exact hcd.2
   subst hla;rw[his]at hS;simp[h,hat,w3,his];refine qkQ E _ g 46 ?_;cases hc46:g.contains 46 with
   |true=>
    rw[hc46,if_pos (by simp)]at hS;simp[w2];refine qkB E _ hE g (by omega) ?_;simp;exact aQz hB (h6:=(fin _ _ hS))
   |false=>
    rw[hc46,if_neg (by simp)]at hS;simp;clear his hcd;by_cases hlen:g.length<1\/4<g.length
    ·rw[if_pos hlen]at hS;by_cases q1:g.length<1
     ·have q2:g=[]:=List.length_eq_zero_iff.1 (by omega);simp[q2];exact aQz hB (h6:=(fin _ _ hS))
     ·have q2:¬(g.length:Int)<1:=by omega
      have q3:(4:Int)<g.length:=by omega
      simp[q2,q3];exact aQz hB (h6:=(fin _ _ hS))
    ·rw[if_neg hlen]at hS;have q2:¬(g.length:Int)<1:=by omega
     have q3:¬(4:Int)<g.length:=by omega
     simp[q2,q3];refine qaB (grI2 _ s true L g i) (fun fr _=>g.length-(ai (aget fr 48)).toNat) ⟨rfl,0,by omega,by simp,friz⟩ ?_;rintro fr K ⟨rfl,k,hk,hA,y,rfl⟩;by_cases hkl:k<g.length
     ·obtain⟨c,hc⟩:∃c,g[k]? =some c:=⟨_,zqD hkl⟩
      have la:=qaq hc;have wk:IntKind.i64.wrap ((k:Int)+1)=k+1:=wiz;simp[hkl,la];refine qe9 E _ c ?_;by_cases hx:0<=hexT c
      ·have hx':¬hexT c<0:=by omega
       have ha:=qb0 (fun c=>decide (0<=hexT c)) g k c hc;simp[hx',wk];exact Klz ⟨rfl,k+1,by omega,by rw[ha,hA];simpa using hx,friz⟩
      ·have hx':hexT c<0:=by omega
       have ha:=qdH (fun c=>decide (0<=hexT c)) g k c hc (by simpa using hx);rw[ha,if_neg (by simp)]at hS;simp[hx'];exact aQz hB (h6:=(fin _ _ hS))
     ·obtain rfl:k=g.length:=by omega
      rw[List.take_length]at hA;rw[hA,if_pos rfl]at hS;simp[w1];exact Klz ⟨rfl,i+1,by omega,by rw[hS];simp,friz⟩
  ·have hcd':(last&&((i:Int)==(L.length:Int)-1))=false:=by simpa using hcd
   rw[hcd',Bool.false_and,if_neg (by simp)]at hS
   have hpath:last=false\/(last=true/\((i:Int)==(L.length:Int)-1)=false):=by
    cases last
    ·exact .inl rfl
    ·exact .inr ⟨rfl,by simpa using hcd'⟩
   clear hcd hcd';by_cases hlen:g.length<1\/4<g.length
   ·rw[if_pos hlen]at hS;by_cases q1:g.length<1
    ·have q2:(g.length:Int)<1:=by omega
     rcases hpath with rfl|⟨rfl,his⟩
     ·simp[h,hat,w3,q2];exact aQz hB (h6:=(fin _ _ hS))
     ·simp[h,hat,w3,q2,his];exact aQz hB (h6:=(fin _ _ hS))
    ·have q2:¬(g.length:Int)<1:=by omega
     have q3:(4:Int)<g.length:=by omega
     rcases hpath with rfl|⟨rfl,his⟩
     ·simp[h,hat,w3,q2,q3];exact aQz hB (h6:=(fin _ _ hS))
     ·simp[h,hat,w3,q2,q3,his];exact aQz hB (h6:=(fin _ _ hS))
   ·rw[if_neg hlen]at hS;have q2:¬(g.length:Int)<1:=by omega
    have q3:¬(4:Int)<g.length:=by omega
    rcases hpath with rfl|⟨rfl,his⟩
    ·simp[h,hat,w3,q2,q3];refine qaB (grI2 _ s false L g i) (fun fr _=>g.length-(ai (aget fr 48)).toNat) ⟨rfl,0,by omega,by simp,friz⟩ ?_;rintro fr K ⟨rfl,k,hk,hA,y,rfl⟩;by_cases hkl:k<g.length
     ·obtain⟨c,hc⟩:∃c,g[k]? =some c:=⟨_,zqD hkl⟩
      have la:=qaq hc;have wk:IntKind.i64.wrap ((k:Int)+1)=k+1:=wiz;simp[hkl,la];refine qe9 E _ c ?_;by_cases hx:0<=hexT c
      ·have hx':¬hexT c<0:=by omega
       have ha:=qb0 (fun c=>decide (0<=hexT c)) g k c hc;simp[hx',wk];exact Klz ⟨rfl,k+1,by omega,by rw[ha,hA];simpa using hx,friz⟩
      ·have hx':hexT c<0:=by omega
       have ha:=qdH (fun c=>decide (0<=hexT c)) g k c hc (by simpa using hx);rw[ha,if_neg (by simp)]at hS;simp[hx'];exact aQz hB (h6:=(fin _ _ hS))
     ·obtain rfl:k=g.length:=by omega
      rw[List.take_length]at hA;rw[hA,if_pos rfl]at hS;simp[w1];exact Klz ⟨rfl,i+1,by omega,by rw[hS];simp,friz⟩
    ·simp[h,hat,w3,q2,q3,his];refine qaB (grI2 _ s true L g i) (fun fr _=>g.length-(ai (aget fr 48)).toNat) ⟨rfl,0,by omega,by simp,friz⟩ ?_;rintro fr K ⟨rfl,k,hk,hA,y,rfl⟩;by_cases hkl:k<g.length
     ·obtain⟨c,hc⟩:∃c,g[k]? =some c:=⟨_,zqD hkl⟩
      have la:=qaq hc;have wk:IntKind.i64.wrap ((k:Int)+1)=k+1:=wiz;simp[hkl,la];refine qe9 E _ c ?_;by_cases hx:0<=hexT c
      ·have hx':¬hexT c<0:=by omega
       have ha:=qb0 (fun c=>decide (0<=hexT c)) g k c hc;simp[hx',wk];exact Klz ⟨rfl,k+1,by omega,by rw[ha,hA];simpa using hx,friz⟩
      ·have hx':hexT c<0:=by omega
       have ha:=qdH (fun c=>decide (0<=hexT c)) g k c hc (by simpa using hx);rw[ha,if_neg (by simp)]at hS;simp[hx'];exact aQz hB (h6:=(fin _ _ hS))
     ·obtain rfl:k=g.length:=by omega
      rw[List.take_length]at hA;rw[hA,if_pos rfl]at hS;simp[w1];exact Klz ⟨rfl,i+1,by omega,by rw[hS];simp,friz⟩
 ·obtain rfl:i=L.length:=by omega
  rw[List.drop_length,goG]at hS;simp;exact aQz hB (h6:=(fin _ _ hS))
theorem qev(s:List UInt8)(last:Bool)(hl:s.length<=1073741824):0<=(qbo s last).1/\(qbo s last).1<=2147483648:=by
 refine⟨qec s last,?_⟩;unfold qbo;split
 ·simp
 ·have:=(qoo last (qbc 58 s) 0 (by omega)).2;have:=(qc2 58 s).1;omega
theorem qjz(hE:PE E)(s:List UInt8)(hl:s.length<=1073741824)(hQ:Q (.bool (qfD s)) H):PC Tryz.prog E 211 [.str s] H Q:=by
 refine qac Tryz.func211 rfl [] [] (by kernel_rfl) (fun hB=>?_);simp[Tryz.ntmps211,Tryz.results211,List.replicate_succ];refine qo0 E _ hE.2 s [58,58] hl ?_;rw[ix2];unfold qfD at hQ;have hln:=qlQ 58 s;rcases hcut:cut2 58 s with⟨a,b,there⟩;rw[hcut]at hQ hln;simp only at hln;cases there with
 |false=>
  dsimp only at hQ;simp;refine qgI E _ hE s true hl (fun v ok hg=>?_);rw[hg]at hQ;cases ok
  ·simp;exact aQz hB (h6:=hQ)
  ·simp;exact aQz hB (h6:=(by simpa using hQ))
 |true=>
  dsimp only at hQ;simp;have r1:=qev a false (by omega);have r2:=qev b true (by omega);refine qgI E _ hE a false (by omega) (fun v ok hg=>?_);rw[hg]at hQ r1;simp;refine qgI E _ hE b true (by omega) (fun u ok2 hg2=>?_);rw[hg2]at hQ r2;simp only at r1 r2;have w:IntKind.i64.wrap (v+u)=v+u:=wiz;cases ok
  ·simp;exact aQz hB (h6:=(by simpa using hQ))
  ·cases ok2
   ·simp;exact aQz hB (h6:=(by simpa using hQ))
   ·simp[w];exact aQz hB (h6:=(by simpa using hQ))
theorem qe1(hE:PE E)(s:List UInt8)(hl:s.length<=1073741824)(hQ:Q (.bool (qeu s)) H):PC Tryz.prog E 189 [.str s] H Q:=by
 refine qac Tryz.func189 rfl [] [] (by kernel_rfl) (fun hB=>?_);simp[Tryz.ntmps189,Tryz.results189,List.replicate_succ];refine qfP E _ s 91 ?_;unfold qeu at hQ;by_cases h91:s.head? =some 91
 ·rw[if_pos h91]at hQ;simp[h91];refine qjB E _ s 93 ?_;by_cases h93:s.getLast? =some 93
  ·have h2:2<=s.length:=by
    match s,h91,h93 with
    |[a],h91,h93=>simp at h91 h93;rw[h91]at h93;cases h93
    |_::_::_,_,_=>simp
   have w:IntKind.i64.wrap ((s.length:Int)-1)=((s.length-1:Nat):Int):=by rw[qai (by omega) (by omega)];omega
   have q1:1<=s.length-1:=by omega
   have e:(s.tail.take (s.length-1-1))=s.tail.dropLast:=by rw[List.dropLast_eq_take,List.length_tail]
   rw[h93]at hQ;simp[h93,w,q1,e];refine qjz E _ hE _ (by simp;omega) ?_;simp;exact aQz hB (h6:=(by simpa using hQ))
  ·have h93':(s.getLast? ==some 93)=false:=by simpa using h93
   rw[h93']at hQ;simp[h93'];exact aQz hB (h6:=(by simpa using hQ))
 ·rw[if_neg h91]at hQ;have h91':(s.head? ==some 91)=false:=by simpa using h91
  by_cases hne:s=[]
  ·subst hne;simp;exact aQz hB (h6:=(by simpa using hQ))
  ·have hne':(s !=[])=true:=by simpa using hne
   have hie:s.isEmpty=false:=by simpa using hne
   simp[h91',hne'];refine qfY E _ s 3 qb1 qn4 hl ?_;have e:((qaF qb1 s:Int)==(s.length:Int))=(qaF qb1 s==s.length):=by rw[Bool.eq_iff_iff];simp;omega
   rw[hie,Bool.not_false,Bool.true_and,<-e]at hQ;simp;exact aQz hB (h6:=hQ)
def finA(host port:List UInt8):List UInt8×Int×Int:=
 if qeu host=false\/5<port.length then([],0,52)else if port=[]then(low host,-1,0)else if(qae 10 65535 port).2≠0 then([],0,52)else(low host,(qae 10 65535 port).1,0)
theorem qon{s:List UInt8}{c:UInt8}(h:s.head? =some c):lat s 0=some c:=by
 cases s with
 |nil=>cases h
 |cons a r=>simpa[lat]using h
theorem qcV (hE : PE E) (s : List UInt8) (hl : s.length ≤ 1073741824) (hQ : ∀ h p e, qbp s = (h, p, e) → -1 ≤ p → p ≤ 65535 → h.length ≤ 1073741824 → Q (.tup [.str h, .int .i64 p, .int .i64 e]) H) : PC Tryz.prog E 163 [.str s] H Q := by
  refine qac Tryz.func163 rfl [] [] (by kernel_rfl) (fun hB => ?_)
  have bad : qbp s = ([], 0, 52) → Q (.tup [.str [], .int .i64 0, .int .i64 52]) H := fun h => hQ _ _ _ h (by decide) (by decide) (by simp)
  simp [Tryz.ntmps163, Tryz.results163, List.replicate_succ]
  refine qaz E _ _ s 93 ?_
  simp
  refine qfP E _ s 91 ?_
  obtain ⟨i1, i2⟩ := qfw s 93
  have ic := qdT s 93
  obtain ⟨t1, t2⟩ := qb2 (· != 93) s
  by_cases hb : s.head? = some 91 ∧ s.contains 93
  · obtain ⟨h91, h93⟩ := hb
    have h0 : 0 ≤ Lib.indexByte s 93 := by rw [h93] at ic; simpa using ic
    obtain ⟨e1, e2⟩ := i1 h0
    obtain ⟨n, hn⟩ := exz ((s.takeWhile (· != 93)).length)
    rw [hn] at e1 t1 t2
    have hib : Lib.indexByte s 93 = n := by omega
    have hn0 : 0 < n := by
      cases s with
      | nil => cases h91
      | cons a r =>
        simp at h91
        subst h91
        rw [List.takeWhile_cons_of_pos (by decide)] at hn
        rw [← hn]; simp
    have hnl : n < s.length := by
      have : s.drop n ≠ [] := by rw [t2]; exact e2
      rw [Ne, List.drop_eq_nil_iff] at this
      omega
    have w : IntKind.i64.wrap ((n : Int) + 1) = ((n + 1 : Nat) : Int) := by rw [qai (by omega) (by omega)]; omega
    have q1 : n + 1 ≤ s.length := by omega
    have htk : (s.drop (n + 1)).take (s.length - (n + 1)) = s.drop (n + 1) := zqE (by simp)
    have hcutA : qbC s = (s.take (n + 1), (s.drop (n + 1)).drop 1, (s.drop (n + 1)).isEmpty || (s.drop (n + 1)).head? == some 58) := by
      unfold qbC
      rw [if_pos ⟨h91, h93⟩, hn]
    have hlr : (s.drop (n + 1)).length = s.length - (n + 1) := zqI
    obtain ⟨R, hR⟩ := exz (s.drop (n + 1))
    obtain ⟨T, hT⟩ := exz (s.take (n + 1))
    have hTl : T.length ≤ s.length := by rw [← hT, zqJ]; omega
    rw [hR] at hcutA htk hlr
    rw [hT] at hcutA
    have hl1 : ((R.drop 1).length) ≤ s.length := by rw [zqI]; omega
    by_cases hR0 : R = []
    · subst hR0
      have hA : qbp s = finA T [] := by unfold qbp finA; rw [hcutA]; simp
      simp [h91, hib, hn0, w, q1, htk, hT, hR, -Int.natCast_add]
      refine qeK E _ [] 58 ?_
      obtain ⟨port, hport⟩ := exz ((if ([] : List UInt8).head? = some 58 then List.drop 1 ([] : List UInt8) else []))
      rw [hport]
      have hp00 : port = [] := hport.symm
      rw [← hp00] at hA
      have hpl : port.length ≤ s.length := by rw [hp00]; simp
      clear hport hp00
      simp
      refine qe1 E _ hE T (by omega) ?_
      cases hh : qeu T with
      | false =>
        simp
        exact aQz hB (h6 := (bad (by rw [hA]; unfold finA; rw [if_pos (.inl hh)])))
      | true =>
        by_cases h5 : 5 < port.length
        · have h5' : (5 : Int) < port.length := by omega
          simp [h5']
          exact aQz hB (h6 := (bad (by rw [hA]; unfold finA; rw [if_pos (.inr h5)])))
        · have h5' : ¬ (5 : Int) < port.length := by omega
          by_cases hp0 : port = []
          · have hA2 : qbp s = (low T, -1, 0) := by rw [hA]; unfold finA; rw [if_neg (by rw [hh]; simp [h5]), if_pos hp0]
            simp [h5', hp0]
            refine qbO E _ _ T (by simp only [cap]; omega) ?_
            simp
            exact aQz hB (h6 := (hQ _ _ _ hA2 (by decide) (by decide) (by rw [qaL]; omega)))
          · have hp0' : (port != []) = true := by simpa using hp0
            have hr := qcx port 65535 (by decide)
            simp [h5', hp0']
            refine qcA E _ _ port 65535 (by simp only [cap]; omega) (by decide) (by decide) ?_
            by_cases he : (qae 10 65535 port).2 = 0
            · have hA2 : qbp s = (low T, (qae 10 65535 port).1, 0) := by rw [hA]; unfold finA; rw [if_neg (by rw [hh]; simp [h5]), if_neg hp0, if_neg (by simp [he])]
              simp [he]
              refine qbO E _ _ T (by simp only [cap]; omega) ?_
              simp
              exact aQz hB (h6 := (hQ _ _ _ hA2 (by omega) (by omega) (by rw [qaL]; omega)))
            · have he' : ((qae 10 65535 port).2 != 0) = true := by simpa using he
              have he2 : ((qae 10 65535 port).2 == 0) = false := by simpa using he
              simp [he', he2]
              exact aQz hB (h6 := (bad (by rw [hA]; unfold finA; rw [if_neg (by rw [hh]; simp [h5]), if_neg hp0, if_pos he])))
    · have hR0' : (R != []) = true := by simpa using hR0
      by_cases h58 : R.head? = some 58
      · have ha := qon h58
        have hRl : 0 < R.length := List.length_pos_iff.2 hR0
        have hA : qbp s = finA T (R.drop 1) := by unfold qbp finA; rw [hcutA, h58]; simp
        simp [h91, hib, hn0, w, q1, htk, hT, hR, hR0', ha, hRl, -Int.natCast_add]
        refine qeK E _ R 58 ?_
        rw [if_pos h58]
        obtain ⟨port, hport⟩ : ∃ p : List UInt8, R.drop 1 = p := ⟨_, rfl⟩
        rw [hport] at hA hl1 ⊢
        have hpl : port.length ≤ s.length := hl1
        simp
        refine qe1 E _ hE T (by omega) ?_
        cases hh : qeu T with
        | false =>
          simp
          exact aQz hB (h6 := (bad (by rw [hA]; unfold finA; rw [if_pos (.inl hh)])))
        | true =>
          by_cases h5 : 5 < port.length
          · have h5' : (5 : Int) < port.length := by omega
            simp [h5']
            exact aQz hB (h6 := (bad (by rw [hA]; unfold finA; rw [if_pos (.inr h5)])))
          · have h5' : ¬ (5 : Int) < port.length := by omega
            by_cases hp0 : port = []
            · have hA2 : qbp s = (low T, -1, 0) := by rw [hA]; unfold finA; rw [if_neg (by rw [hh]; simp [h5]), if_pos hp0]
              simp [h5', hp0]
              refine qbO E _ _ T (by simp only [cap]; omega) ?_
              simp
              exact aQz hB (h6 := (hQ _ _ _ hA2 (by decide) (by decide) (by rw [qaL]; omega)))
            · have hp0' : (port != []) = true := by simpa using hp0
              have hr := qcx port 65535 (by decide)
              simp [h5', hp0']
              refine qcA E _ _ port 65535 (by simp only [cap]; omega) (by decide) (by decide) ?_
              by_cases he : (qae 10 65535 port).2 = 0
              · have hA2 : qbp s = (low T, (qae 10 65535 port).1, 0) := by rw [hA]; unfold finA; rw [if_neg (by rw [hh]; simp [h5]), if_neg hp0, if_neg (by simp [he])]
                simp [he]
                refine qbO E _ _ T (by simp only [cap]; omega) ?_
                simp
                exact aQz hB (h6 := (hQ _ _ _ hA2 (by omega) (by omega) (by rw [qaL]; omega)))
              · have he' : ((qae 10 65535 port).2 != 0) = true := by simpa using he
                have he2 : ((qae 10 65535 port).2 == 0) = false := by simpa using he
                simp [he', he2]
                exact aQz hB (h6 := (bad (by rw [hA]; unfold finA; rw [if_neg (by rw [hh]; simp [h5]), if_neg hp0, if_pos he])))
      · obtain ⟨a, r, hRa⟩ : ∃ a r, R = a :: r := by
          cases R with
          | nil => exact absurd rfl hR0
          | cons a r => exact ⟨a, r, rfl⟩
        have ha58 : a ≠ 58 := fun e => h58 (by rw [hRa, e]; rfl)
        have hb2 := (qaw a 58 (by decide) 58 rfl ha58).2
        have ha : lat R 0 = some a := by rw [hRa]; rfl
        have hRl : 0 < R.length := List.length_pos_iff.2 hR0
        simp [h91, hib, hn0, w, q1, htk, hT, hR, hR0', ha, hRl, hb2, -Int.natCast_add]
        refine aQz hB (h6 := (bad ?_))
        unfold qbp
        rw [hcutA, if_pos]
        left
        have h58' : (R.head? == some 58) = false := by simpa using h58
        have hie : R.isEmpty = false := by simpa using hR0
        rw [hie, h58']; rfl
  · have hA : qbp s = finA (cut1 58 s).1 (cut1 58 s).2.1 := by
      unfold qbp finA qbC
      rw [if_neg hb]
      simp
    have hcl : (cut1 58 s).1.length ≤ s.length ∧ (cut1 58 s).2.1.length ≤ s.length := by
      obtain ⟨u1, u2⟩ := qb2 (· != 58) s
      unfold cut1
      simp only
      rw [← u1, ← u2, zqJ, zqI, zqI]
      omega
    have go : ∀ g : Prop, g → g := fun _ h => h
    obtain ⟨T, hT⟩ := exz ((cut1 58 s).1)
    obtain ⟨port, hport⟩ := exz ((cut1 58 s).2.1)
    rw [hT, hport] at hA hcl
    have hpl := hcl.2
    have hTl := hcl.1
    by_cases h91 : s.head? = some 91
    · have h93 : s.contains 93 = false := by simpa using fun h => hb ⟨h91, h⟩
      rw [h93] at ic
      have h0 : ¬ 0 < Lib.indexByte s 93 := by
        have : ¬ 0 ≤ Lib.indexByte s 93 := by simpa using ic
        omega
      simp [h91, h0]
      refine qo0 E _ hE.2 s [58] hl ?_
      rw [qlR, hT, hport]
      simp
      refine qe1 E _ hE T (by omega) ?_
      cases hh : qeu T with
      | false =>
        simp
        exact aQz hB (h6 := (bad (by rw [hA]; unfold finA; rw [if_pos (.inl hh)])))
      | true =>
        by_cases h5 : 5 < port.length
        · have h5' : (5 : Int) < port.length := by omega
          simp [h5']
          exact aQz hB (h6 := (bad (by rw [hA]; unfold finA; rw [if_pos (.inr h5)])))
        · have h5' : ¬ (5 : Int) < port.length := by omega
          by_cases hp0 : port = []
          · have hA2 : qbp s = (low T, -1, 0) := by rw [hA]; unfold finA; rw [if_neg (by rw [hh]; simp [h5]), if_pos hp0]
            simp [h5', hp0]
            refine qbO E _ _ T (by simp only [cap]; omega) ?_
            simp
            exact aQz hB (h6 := (hQ _ _ _ hA2 (by decide) (by decide) (by rw [qaL]; omega)))
          · have hp0' : (port != []) = true := by simpa using hp0
            have hr := qcx port 65535 (by decide)
            simp [h5', hp0']
            refine qcA E _ _ port 65535 (by simp only [cap]; omega) (by decide) (by decide) ?_
            by_cases he : (qae 10 65535 port).2 = 0
            · have hA2 : qbp s = (low T, (qae 10 65535 port).1, 0) := by rw [hA]; unfold finA; rw [if_neg (by rw [hh]; simp [h5]), if_neg hp0, if_neg (by simp [he])]
              simp [he]
              refine qbO E _ _ T (by simp only [cap]; omega) ?_
              simp
              exact aQz hB (h6 := (hQ _ _ _ hA2 (by omega) (by omega) (by rw [qaL]; omega)))
            · have he' : ((qae 10 65535 port).2 != 0) = true := by simpa using he
              have he2 : ((qae 10 65535 port).2 == 0) = false := by simpa using he
              simp [he', he2]
              exact aQz hB (h6 := (bad (by rw [hA]; unfold finA; rw [if_neg (by rw [hh]; simp [h5]), if_neg hp0, if_pos he])))
    · have h91' : (s.head? == some 91) = false := by simpa using h91
      simp [h91']
      refine qo0 E _ hE.2 s [58] hl ?_
      rw [qlR, hT, hport]
      simp
      refine qe1 E _ hE T (by omega) ?_
      cases hh : qeu T with
      | false =>
        simp
        exact aQz hB (h6 := (bad (by rw [hA]; unfold finA; rw [if_pos (.inl hh)])))
      | true =>
        by_cases h5 : 5 < port.length
        · have h5' : (5 : Int) < port.length := by omega
          simp [h5']
          exact aQz hB (h6 := (bad (by rw [hA]; unfold finA; rw [if_pos (.inr h5)])))
        · have h5' : ¬ (5 : Int) < port.length := by omega
          by_cases hp0 : port = []
          · have hA2 : qbp s = (low T, -1, 0) := by rw [hA]; unfold finA; rw [if_neg (by rw [hh]; simp [h5]), if_pos hp0]
            simp [h5', hp0]
            refine qbO E _ _ T (by simp only [cap]; omega) ?_
            simp
            exact aQz hB (h6 := (hQ _ _ _ hA2 (by decide) (by decide) (by rw [qaL]; omega)))
          · have hp0' : (port != []) = true := by simpa using hp0
            have hr := qcx port 65535 (by decide)
            simp [h5', hp0']
            refine qcA E _ _ port 65535 (by simp only [cap]; omega) (by decide) (by decide) ?_
            by_cases he : (qae 10 65535 port).2 = 0
            · have hA2 : qbp s = (low T, (qae 10 65535 port).1, 0) := by rw [hA]; unfold finA; rw [if_neg (by rw [hh]; simp [h5]), if_neg hp0, if_neg (by simp [he])]
              simp [he]
              refine qbO E _ _ T (by simp only [cap]; omega) ?_
              simp
              exact aQz hB (h6 := (hQ _ _ _ hA2 (by omega) (by omega) (by rw [qaL]; omega)))
            · have he' : ((qae 10 65535 port).2 != 0) = true := by simpa using he
              have he2 : ((qae 10 65535 port).2 == 0) = false := by simpa using he
              simp [he', he2]
              exact aQz hB (h6 := (bad (by rw [hA]; unfold finA; rw [if_neg (by rw [hh]; simp [h5]), if_neg hp0, if_pos he])))
def tgV(fm pt:Int)(h pa qu:List UInt8)(hq:Bool):AV:= .agg [.int .i64 fm,.str h,.int .i64 pt,.str pa,.str qu,.bool hq]
theorem qg8(fm pt:Int)(h pa qu:List UInt8)(hq:Bool)(s:List UInt8)(at_:Nat)(hat:at_<=s.length)(hl:s.length<=1073741824)(hhl:h.length<=1073741824)
  (hQ:∀fm pt h pa qu hq v,Q (.tup [tgV fm pt h pa qu hq,.int .i64 v,.int .i64 (behE (s.drop at_))]) H):PC Tryz.prog E 164 [tgV fm pt h pa qu hq,.str s,.int .i64 (at_:Int)] H Q:=by
 refine qac Tryz.func164 rfl [] [] (by kernel_rfl) (fun hB=>?_);obtain⟨u,hu⟩:=exz (s.drop at_);have hul:u.length=s.length-at_:=by rw[<-hu,zqI]
 have htk:u.take (s.length-at_)=u:=zqE (by omega);have hnl:=qc4 qcE _ u (Nat.le_refl _);rw[hu]at hQ;have hQ':∀e,behE u=e->∀fm pt h pa qu hq v,Q (.tup [.agg [.int .i64 fm,.str h,.int .i64 pt,.str pa,.str qu,.bool hq],.int .i64 v,.int .i64 e]) H:=fun e he fm pt h pa qu hq v=>he▸hQ fm pt h pa qu hq v;clear hQ;simp[Tryz.ntmps164,Tryz.results164,List.replicate_succ,tgV,hat,hu,htk];refine qfY E _ u 15 qcE qn3 (by omega) ?_;obtain⟨n,hn⟩:=exz (qaF qcE u);rw[hn]at hnl⊢;obtain⟨k,hk⟩:=exz (at_+n);have w1:IntKind.i64.wrap ((at_:Int)+(n:Int))=(k:Int):=by rw[qai (by omega) (by omega)];omega
 have w2:IntKind.i64.wrap ((k:Int)+1)=((k+1:Nat):Int):=by rw[qai (by omega) (by omega)];omega
 have q1:at_<=k:=by omega
 have q2:k<=s.length:=by omega
 have hdk:u.drop n=s.drop k:=by rw[<-hu,List.drop_drop,hk]
 have htl:(u.take (k-at_)).length<=1073741824:=by rw[zqJ];omega
 obtain⟨P,hP⟩:=exz (u.take (k-at_));rw[hP]at htl;by_cases hP0:P=[]
 ·simp[w1,q1,q2,hu,hP,hP0];have hnn:True:=trivial;by_cases he:k=s.length
  ·have hb:behE u=0:=by unfold behE;rw[hn,hdk,he,List.drop_length]
   simp[he];exact aQy hB (h6:=(hQ' _ hb fm pt h [47] qu hq 0))
  ·have hks:k<s.length:=by omega
   have he':((k:Int)==(s.length:Int))=false:=by simp;omega
   obtain⟨c,hc⟩:∃c,s[k]? =some c:=⟨_,zqD hks⟩
   have la:=qaq hc;have hcd:=qas s k c hc;by_cases h63:c=63
   ·subst h63;have q3:k+1<=s.length:=hks;obtain⟨v,hv⟩:=exz (s.drop (k+1));have hvl:v.length=s.length-(k+1):=by rw[<-hv,zqI]
    have htv:v.take (s.length-(k+1))=v:=zqE (by omega);simp[he,he',la,w2,q3,hv,htv,-Int.natCast_add];refine qfY E _ v 31 qdx qjk (by omega) ?_;have hml:=qc4 qdx _ v (Nat.le_refl _);obtain⟨m,hm⟩:=exz (qaF qdx v);rw[hm]at hml⊢;obtain⟨k2,hk2⟩:=exz (k+1+m);have w3:IntKind.i64.wrap (((k+1:Nat):Int)+(m:Int))=(k2:Int):=by rw[qai (by omega) (by omega)];omega
    have q4:k+1<=k2:=by omega
    have q5:k2<=s.length:=by omega
    have hdv:v.drop m=s.drop k2:=by rw[<-hv,List.drop_drop,hk2]
    have hbe:behE u=match s.drop k2 with|[]=>0|d::_=>qcN d 54:=by
     unfold behE;rw[hn,hdk,hcd,hv];simp only;rw[hm,hdv,if_neg (by simp)]
     try (cases List.drop k2 s<;>rfl)
    have htl2:(v.take (k2-(k+1))).length<=1073741824:=by rw[zqJ];omega
    by_cases hlt:k2<s.length
    ·obtain⟨d,hd⟩:∃d,s[k2]? =some d:=⟨_,zqD hlt⟩
     rw[qas s k2 d hd]at hbe;simp[w3,q4,q5,hv,hlt,-Int.natCast_add];refine qeG E _ s k2 d 54 hd ?_;simp;exact aQy hB (h6:=(hQ' _ hbe 0 0 [] [] [] false k2))
    ·have:k2=s.length:=by omega
     rw[this,List.drop_length]at hbe;simp[w3,q4,q5,hv,hlt,-Int.natCast_add];exact aQy hB (h6:=(hQ' _ hbe fm pt h [47] (v.take (k2-(k+1))) true 0))
   ·have hb2:=(qaw c 63 (by decide) 63 rfl h63).2
    have hbe:behE u=qcN c 53:=by
     unfold behE;rw[hn,hdk,hcd];simp only;rw[if_pos h63]
    simp[he,he',la,hb2];refine qeG E _ s k c 53 hc ?_;simp;exact aQy hB (h6:=(hQ' _ hbe 0 0 [] [] [] false k))
 ·have hP0':(P==[])=false:=by simpa using hP0
  simp[w1,q1,q2,hu,hP,hP0'];have hnn:True:=trivial;by_cases he:k=s.length
  ·have hb:behE u=0:=by unfold behE;rw[hn,hdk,he,List.drop_length]
   simp[he];exact aQy hB (h6:=(hQ' _ hb fm pt h P qu hq 0))
  ·have hks:k<s.length:=by omega
   have he':((k:Int)==(s.length:Int))=false:=by simp;omega
   obtain⟨c,hc⟩:∃c,s[k]? =some c:=⟨_,zqD hks⟩
   have la:=qaq hc;have hcd:=qas s k c hc;by_cases h63:c=63
   ·subst h63;have q3:k+1<=s.length:=hks;obtain⟨v,hv⟩:=exz (s.drop (k+1));have hvl:v.length=s.length-(k+1):=by rw[<-hv,zqI]
    have htv:v.take (s.length-(k+1))=v:=zqE (by omega);simp[he,he',la,w2,q3,hv,htv,-Int.natCast_add];refine qfY E _ v 31 qdx qjk (by omega) ?_;have hml:=qc4 qdx _ v (Nat.le_refl _);obtain⟨m,hm⟩:=exz (qaF qdx v);rw[hm]at hml⊢;obtain⟨k2,hk2⟩:=exz (k+1+m);have w3:IntKind.i64.wrap (((k+1:Nat):Int)+(m:Int))=(k2:Int):=by rw[qai (by omega) (by omega)];omega
    have q4:k+1<=k2:=by omega
    have q5:k2<=s.length:=by omega
    have hdv:v.drop m=s.drop k2:=by rw[<-hv,List.drop_drop,hk2]
    have hbe:behE u=match s.drop k2 with|[]=>0|d::_=>qcN d 54:=by
     unfold behE;rw[hn,hdk,hcd,hv];simp only;rw[hm,hdv,if_neg (by simp)]
     try (cases List.drop k2 s<;>rfl)
    have htl2:(v.take (k2-(k+1))).length<=1073741824:=by rw[zqJ];omega
    by_cases hlt:k2<s.length
    ·obtain⟨d,hd⟩:∃d,s[k2]? =some d:=⟨_,zqD hlt⟩
     rw[qas s k2 d hd]at hbe;simp[w3,q4,q5,hv,hlt,-Int.natCast_add];refine qeG E _ s k2 d 54 hd ?_;simp;exact aQy hB (h6:=(hQ' _ hbe 0 0 [] [] [] false k2))
    ·have:k2=s.length:=by omega
     rw[this,List.drop_length]at hbe;simp[w3,q4,q5,hv,hlt,-Int.natCast_add];exact aQy hB (h6:=(hQ' _ hbe fm pt h P (v.take (k2-(k+1))) true 0))
   ·have hb2:=(qaw c 63 (by decide) 63 rfl h63).2
    have hbe:behE u=qcN c 53:=by
     unfold behE;rw[hn,hdk,hcd];simp only;rw[if_pos h63]
    simp[he,he',la,hb2];refine qeG E _ s k c 53 hc ?_;simp;exact aQy hB (h6:=(hQ' _ hbe 0 0 [] [] [] false k))
theorem qsJ(l:List UInt8):(0<=Lib.indexAny l [47,63]->(Lib.indexAny l [47,63]).toNat=(l.takeWhile fun c=>c !=47&&c !=63).length)/\(Lib.indexAny l [47,63]<0->l.takeWhile (fun c=>c !=47&&c !=63)=l):=by
 induction l with
 |nil=>exact⟨fun h=>by simp[Lib.indexAny]at h,fun _=>rfl⟩
 |cons b l ih=>
  have hg:=Lib.indexAny_ge [47,63] l;rw[Lib.indexAny];by_cases hb:b=47\/b=63
  ·have hc:([47,63]:List UInt8).contains b=true:=by rcases hb with rfl|rfl<;>rfl
   rw[hc,if_pos rfl,List.takeWhile_cons_of_neg (by rcases hb with rfl|rfl<;>simp)];simp
  ·have hc:([47,63]:List UInt8).contains b=false:=by
    rw[Bool.eq_false_iff];intro h;simp at h;exact hb h
   rw[hc,if_neg (by simp),List.takeWhile_cons_of_pos (by simp;exact⟨fun e=>hb (.inl e),fun e=>hb (.inr e)⟩)];by_cases h2:Lib.indexAny l [47,63]= -1
   ·rw[if_pos (by simpa using h2)];exact⟨fun h3=>absurd h3 (by decide),fun _=>by rw[ih.2 (by omega)]⟩
   ·rw[if_neg (by simpa using h2)];refine⟨fun _=>?_,fun h3=>by omega⟩;have:=ih.1 (by omega);simp only[zqL];omega
theorem qnq(hE:PE E)(m s:List UInt8)(hl:s.length<=4194304)(hasc:∀c∈s,c.toNat<128)(hQ:∀fm pt h pa qu hq v,Q (.tup [tgV fm pt h pa qu hq,.int .i64 v,.int .i64 (tgtE m s)]) H):PC Tryz.prog E 144 [.str m,.str s] H Q:=by
 refine qac Tryz.func144 rfl [] [] (by kernel_rfl) (fun hB=>?_);have hQ':∀e,tgtE m s=e->∀fm pt h pa qu hq v,Q (.tup [.agg [.int .i64 fm,.str h,.int .i64 pt,.str pa,.str qu,.bool hq],.int .i64 v,.int .i64 e]) H:=fun e he fm pt h pa qu hq v=>he▸hQ fm pt h pa qu hq v;clear hQ;cases s with
 |nil=>
  simp[Tryz.ntmps144,Tryz.results144,List.replicate_succ];exact aQy hB (h6:=(hQ' 50 rfl 0 0 [] [] [] false 0))
 |cons c r=>
  obtain⟨s,hs⟩:∃s,s=c::r:=⟨_,rfl⟩
  have hT:tgtE m s=if m=[67,79,78,78,69,67,84]then(if(qbp s).2.2≠0\/(qbp s).2.1<0 then 52 else 0)
    else if c=47 then behE s
    else if s=[42]/\m=[79,80,84,73,79,78,83]then 0
    else if s.length<7\/low (s.take 7)≠[104,116,116,112,58,47,47]then 50
    else if(qbp ((s.drop 7).takeWhile fun c=>c !=47&&c !=63)).2.2≠0 then(qbp ((s.drop 7).takeWhile fun c=>c !=47&&c !=63)).2.2
    else behE ((s.drop 7).dropWhile fun c=>c !=47&&c !=63):=by rw[hs];rfl
  have hne:(s==[])=false:=by rw[hs];rfl
  have hla:lat s 0=some c:=by rw[hs];rfl
  have hlp:0<s.length:=by rw[hs];simp
  rw[<-hs]at hl hasc hQ'⊢;by_cases hm:m=[67,79,78,78,69,67,84]
  ·rw[if_pos hm]at hT;simp[Tryz.ntmps144,Tryz.results144,List.replicate_succ,hne,hm];refine qcV E _ hE s (by omega) (fun h p e hA p1 p2 hhl=>?_);rw[hA]at hT;simp only at hT;by_cases he:e=0
   ·subst he;by_cases hp:p<0
    ·rw[if_pos (.inr hp)]at hT;simp[hp];exact aQy hB (h6:=(hQ' 52 hT 0 0 [] [] [] false 0))
    ·rw[if_neg (by simp;omega)]at hT;simp[hp];exact aQy hB (h6:=(hQ' 0 hT 3 p h [] [] false 0))
   ·have he':(e==0)=false:=by simpa using he
    have he2:(e !=0)=true:=by simpa using he
    rw[if_pos (.inl he)]at hT;simp[he',he2];exact aQy hB (h6:=(hQ' 52 hT 0 0 [] [] [] false 0))
  ·have hm':(m==[67,79,78,78,69,67,84])=false:=by simpa using hm
   rw[if_neg hm]at hT;by_cases h47:c=47
   ·subst h47;rw[if_pos rfl]at hT;simp[Tryz.ntmps144,Tryz.results144,List.replicate_succ,hne,hm',hla,hlp];refine qg8 E _ 1 (-1) [] [] [] false s 0 (by omega) (by omega) (by simp) (fun fm pt h pa qu hq v=>?_);rw[List.drop_zero];simp[tgV];exact aQy hB (h6:=(hQ' _ hT fm pt h pa qu hq v))
   ·have b47:=(qaw c 47 (by decide) 47 rfl h47).1;rw[if_neg h47]at hT;by_cases hast:s=[42]/\m=[79,80,84,73,79,78,83]
    ·obtain⟨ha1,ha2⟩:=hast;rw[if_pos ⟨ha1,ha2⟩]at hT;have ha1':(s==[42])=true:=by simpa using ha1
     have ha2':(m==[79,80,84,73,79,78,83])=true:=by simpa using ha2
     simp[Tryz.ntmps144,Tryz.results144,List.replicate_succ,hne,hm',hla,hlp,b47,ha1',ha2'];exact aQy hB (h6:=(hQ' _ hT 4 (-1) [] [] [] false 0))
    ·rw[if_neg hast]at hT
     have hpath:(s==[42])=false\/((s==[42])=true/\(m==[79,80,84,73,79,78,83])=false):=by
      by_cases h1:s=[42]
      ·exact .inr ⟨by simpa using h1,by simpa using fun h=>hast ⟨h1,h⟩⟩
      ·exact .inl (by simpa using h1)
     by_cases h7:s.length<7
     ·rw[if_pos (.inl h7)]at hT;have h7':(s.length:Int)<7:=by omega
      rcases hpath with hp|⟨hp,hp2⟩
      ·simp[Tryz.ntmps144,Tryz.results144,List.replicate_succ,hne,hm',hla,hlp,b47,hp,h7'];exact aQy hB (h6:=(hQ' _ hT 0 0 [] [] [] false 0))
      ·simp[Tryz.ntmps144,Tryz.results144,List.replicate_succ,hne,hm',hla,hlp,b47,hp,hp2,h7'];exact aQy hB (h6:=(hQ' _ hT 0 0 [] [] [] false 0))
     ·have h7':¬(s.length:Int)<7:=by omega
      have h7'':7<=s.length:=by omega
      have hp:(s==[42])=false:=by
       rcases hpath with hp|⟨hp,_⟩
       ·exact hp
       ·have:s=[42]:=by simpa using hp
        rw[this]at h7;simp at h7
      have htk7:(s.drop 7).take (s.length-7)=s.drop 7:=zqE (by simp);simp[Tryz.ntmps144,Tryz.results144,List.replicate_succ,hne,hm',hla,hlp,b47,hp,h7',h7''];refine qlp E _ _ (s.take 7) [104,116,116,112,58,47,47] (by rw[zqJ];simp only[cap];omega) (by decide) ?_;have hlow:low [104,116,116,112,58,47,47]=[104,116,116,112,58,47,47]:=by decide
      rw[hlow];by_cases hsch:low (s.take 7)=[104,116,116,112,58,47,47]
      ·rw[if_neg (fun h=>h.elim h7 (fun h=>h hsch))]at hT;obtain⟨R,hR⟩:=exz (s.drop 7);have hRl:R.length=s.length-7:=by rw[<-hR,zqI]
       rw[hR]at hT htk7;simp[hsch,h7'',htk7,hR];refine qkC E _ R [47,63] (by omega) (by decide) (fun b hb=>hasc b (by rw[<-hR]at hb;exact List.mem_of_mem_drop hb)) (by decide) ?_;obtain⟨k1,k2⟩:=qsJ R;obtain⟨a1,a2⟩:=qb2 (fun c=>c !=47&&c !=63) R;obtain⟨n,hn⟩:=exz ((R.takeWhile fun c=>c !=47&&c !=63).length);rw[hn]at a1 a2 k1
       have hnl:n<=R.length:=by
        rw[<-hn,<-a1,zqJ];omega
       have hge:=Lib.indexAny_ge [47,63] R;rw[<-a1,<-a2]at hT;have w7:IntKind.i64.wrap (7+(n:Int))=((7+n:Nat):Int):=by rw[qai (by omega) (by omega)];omega
       have hdd:s.drop (7+n)=R.drop n:=by rw[<-hR,List.drop_drop]
       have h7n:7+n<=s.length:=by omega
       have htl:(R.take n).length<=1073741824:=by rw[zqJ];omega
       rcases(by omega:0<=Lib.indexAny R [47,63]\/Lib.indexAny R [47,63]<0)with hi|hi
       ·have hi2:Lib.indexAny R [47,63]=n:=by have:=k1 hi;omega
        have hnn:¬(n:Int)<0:=by omega
        rw[hi2];simp[hnl];refine qcV E _ hE (R.take n) htl (fun h p e hA p1 p2 hhl=>?_);rw[hA]at hT;simp only at hT;by_cases he:e=0
        ·subst he;rw[if_neg (by simp)]at hT;simp[w7,-Int.natCast_add];refine qg8 E _ 2 p h [] [] false s (7+n) h7n (by omega) hhl (fun fm pt h pa qu hq v=>?_);rw[hdd];simp[tgV];exact aQy hB (h6:=(hQ' _ hT fm pt h pa qu hq v))
        ·have he':(e==0)=false:=by simpa using he
         have he2:(e !=0)=true:=by simpa using he
         rw[if_pos he]at hT;simp[he',he2];exact aQy hB (h6:=(hQ' _ hT 0 0 [] [] [] false 7))
       ·have hnR:R.length=n:=by rw[<-hn,k2 hi]
        have hi2:Lib.indexAny R [47,63]= -1:=by omega
        have htR:R.take R.length=R:=List.take_length;have hnn:(R.length:Int)=(n:Int):=by omega
        rw[hi2];simp[hnR];refine qcV E _ hE (R.take n) htl (fun h p e hA p1 p2 hhl=>?_);rw[hA]at hT;simp only at hT;by_cases he:e=0
        ·subst he;rw[if_neg (by simp)]at hT;simp[w7,-Int.natCast_add];refine qg8 E _ 2 p h [] [] false s (7+n) h7n (by omega) hhl (fun fm pt h pa qu hq v=>?_);rw[hdd];simp[tgV];exact aQy hB (h6:=(hQ' _ hT fm pt h pa qu hq v))
        ·have he':(e==0)=false:=by simpa using he
         have he2:(e !=0)=true:=by simpa using he
         rw[if_pos he]at hT;simp[he',he2];exact aQy hB (h6:=(hQ' _ hT 0 0 [] [] [] false 7))
      ·have hsch':(low (s.take 7)==[104,116,116,112,58,47,47])=false:=by simpa using hsch
       rw[if_pos (.inr hsch)]at hT;simp[hsch'];exact aQy hB (h6:=(hQ' _ hT 0 0 [] [] [] false 0))
theorem qff(l:List Fld)(n:List UInt8):∀v∈allB l n,v.length<=fsz l:=by
 intro v hv;unfold allB at hv;obtain⟨f,hf,rfl⟩:=List.mem_map.1 hv;have hf2:=(List.mem_filter.1 hf).1;obtain⟨i,hi,he⟩:=List.mem_iff_getElem.1 hf2;have:=qkG (l:=l) (i:=i) (f:=f) (by rw[<-he];exact zqD hi);omega
def fhI(H:Hp)(l:List Fld)(old:Bool)(v:List UInt8)(fr:List AV)(K:Hp):Prop:=K=H/\∃i:Nat,i<=v.length/\(v.take i).any (fun b=>decide (b.toNat<33)||decide (126<b.toNat)||[34,35,47,60,62,63,64,92].contains b)=false/\
 ∃x:Nat->AV,fr=[.sl false 2 (flds l),.bool old,x 2,x 3,x 4,x 5,x 6,.sl false 1 (strs [v]),x 8,x 9,x 10,x 11,x 12,x 13,x 14,x 15,x 16,x 17,x 18,x 19,x 20,x 21,.int .i64 (v.length:Int),.int .i64 (i:Int),x 24,x 25,x 26,x 27,x 28,x 29,x 30,x 31,x 32,x 33,x 34,x 35,x 36,x 37,x 38,x 39,x 40,x 41,x 42,x 43,x 44,x 45]
theorem qqI(l:List Fld)(old:Bool)(hl:fsz l+l.length<=4194304)(hQ:∀h ok e,qe3 l old=(h,ok,e)->Q (.tup [.str h,.bool ok,.int .i64 e]) H):PC Tryz.prog E 195 [.sl false 2 (flds l),.bool old] H Q:=by
 refine qac Tryz.func195 rfl [] [] (by kernel_rfl) (fun hB=>?_);simp[Tryz.ntmps195,Tryz.results195,List.replicate_succ];refine qjV E _ _ l [72,111,115,116] (by omega) (by decide) ?_;unfold qe3 at hQ;have hsz:=qff l [72,111,115,116];rcases hal:allB l [72,111,115,116]with _|⟨v,_|⟨w,t⟩⟩
 ·rw[hal]at hQ;cases old
  ·simp[strs];exact aQz hB (h6:=(hQ _ _ _ rfl))
  ·simp[strs];exact aQz hB (h6:=(hQ _ _ _ rfl))
 ·rw[hal]at hQ hsz;dsimp only at hQ;have hvl:=hsz v (.head _);have hat:lat (strs [v]) 0=some [AV.str v]:=rfl;simp[hat];refine qaB (fhI _ l old v) (fun fr _=>v.length-(ai (aget fr 23)).toNat) ⟨rfl,0,by omega,by simp,qam (by simp[strs])⟩ ?_;rintro fr K ⟨rfl,i,hi,hA,x,rfl⟩;by_cases h:i<v.length
  ·obtain⟨b,hb⟩:∃b,v[i]? =some b:=⟨_,zqD h⟩
   have la:=qaq hb;have w1:IntKind.i64.wrap ((i:Int)+1)=i+1:=wiz
   have hst:(v.take (i+1)).any (fun b=>decide (b.toNat<33)||decide (126<b.toNat)||[34,35,47,60,62,63,64,92].contains b)=((v.take i).any (fun b=>decide (b.toNat<33)||decide (126<b.toNat)||[34,35,47,60,62,63,64,92].contains b)||(decide (b.toNat<33)||decide (126<b.toNat)||[34,35,47,60,62,63,64,92].contains b)):=by
    rw[List.take_add_one,hb,List.any_append];simp
   have hsp:(decide (b.toNat<33)||decide (126<b.toNat)||[34,35,47,60,62,63,64,92].contains b)=true->v.any (fun b=>decide (b.toNat<33)||decide (126<b.toNat)||[34,35,47,60,62,63,64,92].contains b)=true:=fun hh=>List.any_eq_true.2 ⟨b,zqH hb,hh⟩;have i1:=qdT [34,35,47,60,62,63,64,92] b;by_cases h33:b.toNat<33
   ·have g1:(b.toNat:Int)<33:=by omega
    rw[hsp (by simp[h33])]at hQ;simp[h,hat,la,g1];exact aQz hB (h6:=(hQ _ _ _ rfl))
   ·have g1:¬(b.toNat:Int)<33:=by omega
    by_cases h126:126<b.toNat
    ·have g2:(126:Int)<b.toNat:=by omega
     rw[hsp (by simp[h126])]at hQ;simp[h,hat,la,g1,g2];exact aQz hB (h6:=(hQ _ _ _ rfl))
    ·have g2:¬(126:Int)<b.toNat:=by omega
     simp[h,hat,la,g1,g2];refine qaz E _ _ _ b ?_;cases hc:([34,35,47,60,62,63,64,92]:List UInt8).contains b with
     |true=>
      rw[hc]at i1;have j1:0<=Lib.indexByte [34,35,47,60,62,63,64,92] b:=by simpa using i1
      rw[hsp (by rw[hc];simp)]at hQ;simp[j1];exact aQz hB (h6:=(hQ _ _ _ rfl))
     |false=>
      rw[hc]at i1;have j1:¬0<=Lib.indexByte [34,35,47,60,62,63,64,92] b:=by simpa using i1
      simp[j1,w1];exact Klz ⟨rfl,i+1,by omega,by rw[hst,hA,hc];simp[h33,h126],qam (by simp[strs])⟩
  ·obtain rfl:i=v.length:=by omega
   rw[List.take_length]at hA;rw[hA]at hQ;simp[hat];exact aQz hB (h6:=(hQ _ _ _ rfl))
 ·rw[hal]at hQ;have g:(1:Int)<(t.length:Int)+1+1:=by omega
  have g0:((t.length:Int)+1+1==0)=false:=by rw[beq_eq_false_iff_ne];omega
  simp[strs,g,g0];exact aQz hB (h6:=(hQ _ _ _ rfl))
end
end Go.Proofs.YtnnhdehmlkkfjaaGreatDoor
namespace Go.Proofs.YtnnhdehmlkkfjaaGreatDoor
open Go Go.RowKit
theorem qnk:∀n,n<256->((qcH (UInt8.ofNat n)||qbI (UInt8.ofNat n))||([45,46,95,126]:List UInt8).contains (UInt8.ofNat n))=qby (UInt8.ofNat n):=by decide
theorem qpT(b:UInt8):((qcH b||qbI b)||([45,46,95,126]:List UInt8).contains b)=qby b:=by
 have:=qnk b.toNat b.toNat_lt;rwa[qcl]at this
theorem qsK:∀n,n<256->qaT (UInt8.ofNat n)=decide (0<=hexT (UInt8.ofNat n)):=by decide
theorem qrD(b:UInt8):qaT b=decide (0<=hexT b):=by
 have:=qsK b.toNat b.toNat_lt;rwa[qcl]at this
section
open Go.Lib
variable (E:Env){H:Hp}(Q:AV->Hp->Prop)
def rfinI(b:UInt8)(l:List UInt8)(H:Hp)(fr:List AV)(K:Hp):Prop:=K=H/\∃i:Nat,i<=l.length/\(l.take i).contains b=false/\∃x:Nat->AV,fr=[.int .u8 (b.toNat:Int),.str l,x 2,x 3,x 4,.int .i64 (i:Int),x 6,x 7,x 8,x 9,x 10,x 11,x 12,x 13,x 14,x 15,x 16]
theorem qic(b:UInt8)(l:List UInt8)(hl:l.length<=1073741824)(hQ:Q (.bool (l.contains b)) H):PC Tryz.prog E 125 [.int .u8 (b.toNat:Int),.str l] H Q:=by
 refine qac Tryz.func125 rfl [] [] (by kernel_rfl) (fun hB=>?_);have fin:∀c:Bool,l.contains b=c->Q (.bool c) H:=fun c hc=>hc▸hQ;simp[Tryz.ntmps125,Tryz.results125,List.replicate_succ];refine qaB (rfinI b l H) (fun fr _=>l.length-(ai (aget fr 5)).toNat) ⟨rfl,0,by omega,rfl,friz⟩ ?_;rintro fr K ⟨rfl,i,hi,hall,x,rfl⟩;by_cases h:i<l.length
 ·obtain⟨c,hc⟩:∃c,l[i]? =some c:=⟨_,zqD h⟩
  have la:=qaq hc;have w1:IntKind.i64.wrap ((i:Int)+1)=i+1:=wiz;by_cases he:c=b
  ·subst he;simp[h,la];exact aQz hB (h6:=(fin _ (by rw[List.contains_iff_mem];exact zqH hc)))
  ·have t1:((c.toNat:Int)==(b.toNat:Int))=false:=by
    rw[beq_eq_false_iff_ne];exact fun hh=>he (UInt8.toNat_inj.1 (by omega))
   simp[h,la,t1,w1];refine Klz ⟨rfl,i+1,by omega,?_,friz⟩;rw[List.take_add_one,hc];simp at hall;simp[hall];exact fun e=>he e.symm
 ·obtain rfl:i=l.length:=by omega
  rw[List.take_length]at hall;simp;exact aQz hB (h6:=(fin _ hall))
theorem qhu(b:UInt8)(hQ:Q (.bool (qby b)) H):PC Tryz.prog E 122 [.int .u8 (b.toNat:Int)] H Q:=by
 refine qac Tryz.func122 rfl [] [] (by kernel_rfl) (fun hB=>?_);rw[<-qpT]at hQ;simp[Tryz.ntmps122,Tryz.results122,List.replicate_succ];refine qfJ E _ _ b ?_;cases h1:qcH b with
 |true=>
  rw[h1]at hQ;simp;exact aQz hB (h6:=(by simpa using hQ))
 |false=>
  rw[h1]at hQ;simp;refine qdw E _ _ b ?_;cases h2:qbI b with
  |true=>
   rw[h2]at hQ;simp;exact aQz hB (h6:=(by simpa using hQ))
  |false=>
   rw[h2]at hQ;simp;refine qic E _ b [45,46,95,126] (by decide) ?_;rw[Bool.or_false,Bool.false_or]at hQ
   generalize ([45,46,95,126]:List UInt8).contains b=z at hQ⊢
   simp;exact aQz hB (h6:=hQ)
theorem qli(b:UInt8)(hQ:Q (.bool (qbM b)) H):PC Tryz.prog E 123 [.int .u8 (b.toNat:Int)] H Q:=by
 refine qac Tryz.func123 rfl [] [] (by kernel_rfl) (fun hB=>?_);simp[Tryz.ntmps123,Tryz.results123,List.replicate_succ];refine qic E _ b [33,36,38,39,40,41,42,43,44,59,61] (by decide) ?_;unfold qbM at hQ
 generalize ([33,36,38,39,40,41,42,43,44,59,61]:List UInt8).contains b=z at hQ⊢
 simp;exact aQz hB (h6:=hQ)
theorem qgr(s:List UInt8)(i:Nat)(hi:i<s.length)(hl:s.length<=1073741824)(hQ:Q (.bool (qbv (s.drop i))) H):PC Tryz.prog E 121 [.str s,.int .i64 (i:Int)] H Q:=by
 refine qac Tryz.func121 rfl [] [] (by kernel_rfl) (fun hB=>?_);have w2:IntKind.i64.wrap ((i:Int)+2)=i+2:=wiz;have w1:IntKind.i64.wrap ((i:Int)+1)=i+1:=wiz;by_cases h:i+2<s.length
 ·obtain⟨a,ha⟩:∃a,s[i]? =some a:=⟨_,zqD hi⟩
  obtain⟨b,hb⟩:∃b,s[i+1]? =some b:=⟨_,zqD (by omega)⟩
  obtain⟨c,hc⟩:∃c,s[i+2]? =some c:=⟨_,zqD h⟩
  have la:=qaq ha;have lb:=qaq hb;have lc:=qaq hc;have n1:(i:Int)+2<s.length:=by omega
  have q1:((i:Int)+1).toNat=i+1:=by omega
  have q2:((i:Int)+2).toNat=i+2:=by omega
  have q3:(0:Int)<=i+1:=by omega
  have q4:(0:Int)<=i+2:=by omega
  have hd:s.drop i=a::b::c::s.drop (i+3):=by rw[qas s i a ha,qas s (i+1) b hb,qas s (i+2) c hc]
  rw[hd]at hQ;by_cases h37:a=37
  ·subst h37;simp[Tryz.ntmps121,Tryz.results121,List.replicate_succ,w2,w1,n1,la,lb,lc,q1,q2,q3,q4];refine qln E _ b ?_;rw[qrD];by_cases x1:0<=hexT b
   ·simp[x1,lb,lc,q1,q2,q3,q4,w1,w2];refine qln E _ c ?_;rw[qrD];have e:qbv (37::b::c::s.drop (i+3))=decide (0<=hexT c):=by simp[qbv,x1]
    rw[e]at hQ;simp;exact aQz hB (h6:=hQ)
   ·have e:qbv (37::b::c::s.drop (i+3))=false:=by simp[qbv,x1]
    rw[e]at hQ;simp[x1];exact aQz hB (h6:=hQ)
  ·have hb2:=(qaw a 37 (by decide) 37 rfl h37).1;have e:qbv (a::b::c::s.drop (i+3))=false:=by simp[qbv,h37]
   rw[e]at hQ;simp[Tryz.ntmps121,Tryz.results121,List.replicate_succ,w2,w1,n1,la,hb2];exact aQz hB (h6:=hQ)
 ·have n1:¬(i:Int)+2<s.length:=by omega
  have e:qbv (s.drop i)=false:=by
   have:(s.drop i).length<=2:=by rw[zqI];omega
   match s.drop i,this with
   |[],_=>rfl
   |[_],_=>rfl
   |[_,_],_=>rfl
  rw[e]at hQ;simp[Tryz.ntmps121,Tryz.results121,List.replicate_succ,w2,n1];exact aQz hB (h6:=hQ)
def rfscI(s more:List UInt8)(other:Int)(may:UInt8->Bool)(H:Hp)(fr:List AV)(K:Hp):Prop:=K=H/\∃i:Nat,i<=s.length/\qaF may s=i+qaF may (s.drop i)/\
 ∃x:Nat->AV,fr=[.str s,x 1,.str more,.int .i64 other,x 4,x 5,x 6,x 7,x 8,x 9,.int .i64 (i:Int),x 11,x 12,x 13,x 14,x 15,x 16,x 17,x 18,x 19,x 20,x 21,x 22,x 23,x 24,x 25,x 26,x 27,x 28,x 29,x 30,x 31,x 32,x 33,x 34,x 35,x 36,x 37,x 38,x 39,x 40,x 41,x 42,x 43,x 44,x 45,x 46,x 47,x 48,x 49,x 50,x 51,x 52,x 53,x 54,x 55,x 56,x 57]
theorem qnE{may:UInt8->Bool}{s:List UInt8}{i:Nat}{c:UInt8}(hS:qaF may s=i+qaF may (s.drop i))(hc:s[i]? =some c)(ht:qbv (s.drop i)=false)(hm:may c=false)(other:Int):qcM may other s=qcN c other:=by
 have hd:=qas s i c hc;rw[hd]at hS ht;rw[qbm,if_neg (by rw[ht];simp),if_neg (by rw[hm];simp)]at hS;unfold qcM;rw[hS,Nat.add_zero,hd]
theorem qiZ(s more:List UInt8)(other:Int)(may:UInt8->Bool)(hm:∀c,(((qby c||qbM c)||([58,64]:List UInt8).contains c)||more.contains c)=may c)(h37:may 37=false)(hl:s.length<=1073741824)(hml:more.length<=1024)(hQ:∀v:Int,0<=v->v<=1073741824->Q (.tup [.int .i64 v,.int .i64 (qcM may other s)]) H):PC Tryz.prog E 93 [.str s,.int .i64 0,.str more,.int .i64 other] H Q:=by
 refine qac Tryz.func93 rfl [] [] (by kernel_rfl) (fun hB=>?_);have fin:∀e,qcM may other s=e->∀v:Int,0<=v->v<=1073741824->Q (.tup [.int .i64 v,.int .i64 e]) H:=fun e h v h1 h2=>h▸hQ v h1 h2;simp[Tryz.ntmps93,Tryz.results93,List.replicate_succ];refine qaB (rfscI s more other may H) (fun fr _=>s.length-(ai (aget fr 10)).toNat) ⟨rfl,0,by omega,by simp,friz⟩ ?_;rintro fr K ⟨rfl,i,hi,hS,x,rfl⟩;by_cases h:i<s.length
 ·obtain⟨c,hc⟩:∃c,s[i]? =some c:=⟨_,zqD h⟩
  have la:=qaq hc;have hd:=qas s i c hc;have w3:IntKind.i64.wrap ((i:Int)+3)=i+3:=wiz;have w1:IntKind.i64.wrap ((i:Int)+1)=i+1:=wiz;by_cases h3:c=37
  ·subst h3;simp[h,la];refine qgr E _ s i h hl ?_;cases ht:qbv (s.drop i)with
   |true=>
    have h3:=qeI ht;rw[zqI]at h3;rw[hd]at hS ht;rw[qbm,if_pos ht,List.drop_drop]at hS;simp[w3];exact Klz ⟨rfl,i+3,by omega,by rw[hS,show i+1+2=i+3 by omega];omega,friz⟩
   |false=>
    have he:=qnE hS hc ht h37 other;simp;exact aQz hB (h6:=(fin 51 he _ (by omega) (by omega)))
  ·have h3':=(qaw c 37 (by decide) 37 rfl h3).1
   have ht:qbv (s.drop i)=false:=by
    rw[hd]
    match s.drop (i+1)with
    |[]=>rfl
    |[_]=>rfl
    |_::_::_=>simp[qbv,h3]
   have hmc:=hm c
   have go:may c=true->qaF may s=(i+1)+qaF may (s.drop (i+1)):=fun hy=>by
    rw[hd]at hS ht;rw[hS,qbm,if_neg (by rw[ht];simp),if_pos hy];omega
   simp[h,la,h3'];refine qhu E _ c ?_;cases u1:qby c with
   |true=>
    rw[u1]at hmc;simp[w1];exact Klz ⟨rfl,i+1,by omega,go (by rw[<-hmc];rfl),friz⟩
   |false=>
    simp[la];refine qli E _ c ?_;cases u2:qbM c with
    |true=>
     rw[u1,u2]at hmc;simp[w1];exact Klz ⟨rfl,i+1,by omega,go (by rw[<-hmc];rfl),friz⟩
    |false=>
     simp[la];refine qic E _ c [58,64] (by decide) ?_;cases u3:([58,64]:List UInt8).contains c with
     |true=>
      rw[u1,u2,u3]at hmc;simp[w1];exact Klz ⟨rfl,i+1,by omega,go (by rw[<-hmc];rfl),friz⟩
     |false=>
      simp[la];refine qic E _ c more (by omega) ?_;rw[u1,u2,u3,Bool.false_or,Bool.false_or,Bool.false_or]at hmc;rw[hmc];cases u4:may c with
      |true=>
       simp[w1];exact Klz ⟨rfl,i+1,by omega,go u4,friz⟩
      |false=>
       have he:=qnE hS hc ht u4 other;have hw:qcN c other=other:=by unfold qcN;rw[if_neg h3]
       simp;exact aQz hB (h6:=(fin other (he.trans hw) _ (by omega) (by omega)))
 ·obtain rfl:i=s.length:=by omega
  have h0:qcM may other s=0:=by
   unfold qcM;rw[hS,List.drop_length,qc3,Nat.add_zero,List.drop_length]
  simp;exact aQz hB (h6:=(fin 0 h0 0 (by omega) (by omega)))
def rfcutI(s:List UInt8)(c:UInt8)(H:Hp)(fr:List AV)(K:Hp):Prop:=K=H/\∃i:Nat,i<=s.length/\(∀x∈s.take i,x≠c)/\∃x:Nat->AV,fr=[.str s,.int .u8 (c.toNat:Int),x 2,x 3,x 4,x 5,x 6,.int .i64 (i:Int),x 8,x 9,x 10,x 11,x 12,x 13,x 14,x 15,x 16,x 17,x 18,x 19,x 20,x 21,x 22,x 23,x 24,x 25,x 26]
theorem qqR {s : List UInt8} {c : UInt8} {i : Nat} (h : ∀ x ∈ s.take i, x ≠ c) (hc : s[i]? = some c) : cut1 c s = (s.take i, s.drop (i + 1), true) := by
  have hs : s = s.take i ++ c :: s.drop (i + 1) := by rw [← qas s i c hc, List.take_append_drop]
  have h1 : s.takeWhile (· != c) = s.take i := by
    conv => lhs; rw [hs]
    rw [List.takeWhile_append_of_pos (fun x hx => by simpa using h x hx), List.takeWhile_cons_of_neg (by simp), List.append_nil]
  have h2 : s.dropWhile (· != c) = c :: s.drop (i + 1) := by
    conv => lhs; rw [hs]
    rw [List.dropWhile_append_of_pos (fun x hx => by simpa using h x hx), List.dropWhile_cons_of_neg (by simp)]
  unfold cut1
  rw [h1, h2]
  refine Prod.ext rfl (Prod.ext rfl ?_)
  show s.contains c = true
  rw [List.contains_iff_mem]
  exact zqH hc
theorem qg4 {s : List UInt8} {c : UInt8} (h : ∀ x ∈ s, x ≠ c) : cut1 c s = (s, [], false) := by
  have h1 : s.takeWhile (· != c) = s := by
    have := List.takeWhile_append_of_pos (p := (· != c)) (l₁ := s) (l₂ := []) (fun x hx => by simpa using h x hx)
    simpa using this
  have h2 : s.dropWhile (· != c) = [] := by
    have := List.dropWhile_append_of_pos (p := (· != c)) (l₁ := s) (l₂ := []) (fun x hx => by simpa using h x hx)
    simpa using this
  unfold cut1
  rw [h1, h2]
  refine Prod.ext rfl (Prod.ext rfl ?_)
  show s.contains c = false
  rw [Bool.eq_false_iff]
  intro hc
  rw [List.contains_iff_mem] at hc
  exact h c hc rfl
theorem qeS(s:List UInt8)(c:UInt8)(hl:s.length<=1073741824)(hQ:Q (.tup [.str (cut1 c s).1,.str (cut1 c s).2.1,.bool (cut1 c s).2.2]) H):PC Tryz.prog E 89 [.str s,.int .u8 (c.toNat:Int)] H Q:=by
 refine qac Tryz.func89 rfl [] [] (by kernel_rfl) (fun hB=>?_);have fin:∀a b t,cut1 c s=(a,b,t)->Q (.tup [.str a,.str b,.bool t]) H:=fun a b t h=>by rw[h]at hQ;exact hQ
 simp[Tryz.ntmps89,Tryz.results89,List.replicate_succ];refine qaB (rfcutI s c H) (fun fr _=>s.length-(ai (aget fr 7)).toNat) ⟨rfl,0,by omega,by simp,friz⟩ ?_;rintro fr K ⟨rfl,i,hi,hall,x,rfl⟩;by_cases h:i<s.length
 ·obtain⟨b,hb⟩:∃b,s[i]? =some b:=⟨_,zqD h⟩
  have la:=qaq hb;have w1:IntKind.i64.wrap ((i:Int)+1)=i+1:=wiz;have w1':IntKind.i64.wrap ((i:Int)+1)=((i+1:Nat):Int):=by rw[w1];omega
  by_cases he:b=c
  ·subst he;have q1:i+1<=s.length:=h;have ht:(s.drop (i+1)).take (s.length-(i+1))=s.drop (i+1):=zqE (by simp);simp[h,la,hi,w1',q1,ht,-Int.natCast_add];exact aQz hB (h6:=(fin _ _ _ (qqR hall hb)))
  ·have t1:((b.toNat:Int)==(c.toNat:Int))=false:=by
    rw[beq_eq_false_iff_ne];exact fun hh=>he (UInt8.toNat_inj.1 (by omega))
   simp[h,la,t1,w1];refine Klz ⟨rfl,i+1,by omega,fun y hy=>?_,friz⟩;rw[List.take_add_one,hb]at hy;rcases List.mem_append.1 hy with hy|hy
   ·exact hall y hy
   ·simp at hy;subst hy;exact he
 ·obtain rfl:i=s.length:=by omega
  rw[List.take_length]at hall;simp;exact aQz hB (h6:=(fin _ _ _ (qg4 hall)))
def rfsplI(s:List UInt8)(c:UInt8)(H:Hp)(fr:List AV)(K:Hp):Prop:=K=H/\∃(out:List (List UInt8)) (r:List UInt8),r.length<=s.length/\out.length+r.length<=s.length/\out++qbc c r=qbc c s/\∃x:Nat->AV,fr=[.str r,.int .u8 (c.toNat:Int),x 2,x 3,x 4,.sl true 1 (strs out),x 6,x 7,x 8,x 9,x 10,x 11,x 12,x 13,x 14,x 15,x 16,x 17,x 18,x 19,x 20,x 21,x 22,x 23,x 24]
def aslen:AV->Nat
 | .str l=>l.length
 |_=>0
theorem qhv (s : List UInt8) (c : UInt8) (hl : s.length ≤ 1073741824) (hQ : Q (.sl false 1 (strs (qbc c s))) H) : PC Tryz.prog E 146 [.str s, .int .u8 (c.toNat : Int)] H Q := by
  refine qac Tryz.func146 rfl [17] [] (by kernel_rfl) (fun hB => ?_)
  simp [Tryz.ntmps146, Tryz.results146, List.replicate_succ]
  refine qaB (rfsplI s c H) (fun fr _ => aslen (aget fr 0)) ⟨rfl, [], s, by omega, by simp, by simp, qam (by simp [strs])⟩ ?_
  rintro fr K ⟨rfl, out, r, hr, hor, hS, x, rfl⟩
  have m1 : out.length + 1 ≤ maxLen := by unfold maxLen; omega
  have m2 : (out.length + 1) * 16 ≤ 140737488355328 := by omega
  have m3 : out.length ≤ maxLen := by unfold maxLen; omega
  have hsn : ∀ a : List UInt8, strs out ++ [[AV.str a]] = strs (out ++ [a]) := fun a => by simp [strs]
  simp
  refine qeS E _ r c (by omega) ?_
  rw [qqb] at hS
  cases hh : r.contains c with
  | true =>
    rw [if_pos hh] at hS
    have e1 : (cut1 c r).1 = r.takeWhile (· != c) := rfl
    have e2 : (cut1 c r).2.1 = (r.dropWhile (· != c)).drop 1 := rfl
    have e3 : (cut1 c r).2.2 = true := hh
    rw [← e1, ← e2] at hS
    have hne : r.dropWhile (· != c) ≠ [] := by
      have := qdT r c
      rw [hh] at this
      exact ((qfw r c).1 (by simpa using this)).2
    have hlt : (cut1 c r).2.1.length < r.length := by
      rw [e2, zqI]
      obtain ⟨t1, t2⟩ := qb2 (· != c) r
      have h1 : (r.dropWhile (· != c)).length ≤ r.length := by rw [← t2, zqI]; omega
      have h2 := List.length_pos_iff.2 hne
      omega
    rw [e3]
    generalize (cut1 c r).1 = a at hS ⊢
    generalize (cut1 c r).2.1 = b at hS hlt ⊢
    simp [m1, m2, m3, hsn]
    exact qaD ⟨rfl, out ++ [a], b, by omega, by simp; omega, by rw [← hS]; simp, friz⟩ (by simpa [aslen] using hlt)
  | false =>
    rw [if_neg (by rw [hh]; simp)] at hS
    have e3 : (cut1 c r).2.2 = false := hh
    have e1 : (cut1 c r).1 = r := by
      refine congrArg (·.1) (qg4 (c := c) fun x hx e => ?_)
      subst e
      rw [Bool.eq_false_iff] at hh
      exact hh (List.contains_iff_mem.2 hx)
    rw [e3, e1]
    rw [← hS] at hQ
    simp [m1, m2, m3, hsn]
    exact qat hB (v0 := .sl false 1 (strs (out ++ [r]))) (v := .sl false 1 (strs (out ++ [r]))) (by simp) (qaa _) (.sl _ _ _ fun q hq y hy => by simp [strs] at hq; rcases hq with ⟨_, _, rfl⟩ | rfl <;> (simp at hy; subst hy; exact .str _)) hQ
theorem qi2(s:List UInt8)(hl:s.length<=1073741824)(hQ:Q (.bool (qeh s)) H):PC Tryz.prog E 168 [.str s] H Q:=by
 refine qac Tryz.func168 rfl [] [] (by kernel_rfl) (fun hB=>?_);simp[Tryz.ntmps168,Tryz.results168,List.replicate_succ];refine qdQ E _ s 255 (by simp only[cap];omega) (by decide) (by decide) ?_;have hr:=qcx s 255 (by decide);unfold qeh at hQ;by_cases he:(qae 10 255 s).2=0
 ·simp[he];refine qi7 E _ _ _ (by omega) (by omega) ?_;rw[he]at hQ;simp;exact aQz hB (h6:=(by simpa using hQ))
 ·have he1:((qae 10 255 s).2==0)=false:=by simpa using he
  rw[he1]at hQ;simp[he1];exact aQz hB (h6:=(by simpa using hQ))
def rfqI(L:List (List UInt8))(H:Hp)(fr:List AV)(K:Hp):Prop:=K=H/\∃i:Nat,i<=L.length/\(L.take i).all qeh=true/\∃x:Nat->AV,fr=[x 0,x 1,x 2,.sl false 1 (strs L),.int .i64 (i:Int),x 5,x 6,x 7,x 8,x 9,x 10,x 11,x 12,x 13,x 14,x 15,x 16,x 17,x 18,x 19,x 20,x 21]
theorem qi0(s:List UInt8)(hl:s.length<=1073741824)(hQ:Q (.bool (dotB s)) H):PC Tryz.prog E 148 [.str s] H Q:=by
 refine qac Tryz.func148 rfl [] [] (by kernel_rfl) (fun hB=>?_);simp[Tryz.ntmps148,Tryz.results148,List.replicate_succ];refine qhv E _ s 46 hl ?_;obtain⟨h1,h2⟩:=qc2 46 s;obtain⟨L,hL⟩:=exz (qbc 46 s);unfold dotB at hQ;rw[hL]at h1 h2 hQ⊢;simp;refine qaB (rfqI L H) (fun fr _=>L.length-(ai (aget fr 4)).toNat) ⟨rfl,0,by omega,by simp,friz⟩ ?_;rintro fr K ⟨rfl,i,hi,hS,x,rfl⟩;by_cases h:i<L.length
 ·obtain⟨g,hg⟩:∃g,L[i]? =some g:=⟨_,zqD h⟩
  have hat:=qcB hg;have hgl:=h2 g (zqH hg);have w1:IntKind.i64.wrap ((i:Int)+1)=i+1:=wiz;have hst:=qb0 qeh L i g hg;have hsp:=qdH qeh L i g hg;simp[h,hat];refine qi2 E _ g (by omega) ?_;cases hd:qeh g with
  |true=>
   simp[w1];exact Klz ⟨rfl,i+1,by omega,by rw[hst,hS,hd];rfl,friz⟩
  |false=>
   rw[hsp hd]at hQ;simp;exact aQz hB (h6:=(by simpa using hQ))
 ·obtain rfl:i=L.length:=by omega
  rw[List.take_length]at hS;rw[hS,Bool.true_and]at hQ;simp;refine aQz hB (h6:=?_);have:((L.length:Int)==4)=(L.length==4):=by rw[Bool.eq_iff_iff];simp;omega
  rw[this];exact hQ
def rfgI(s:List UInt8)(last:Bool)(L:List (List UInt8))(H:Hp)(fr:List AV)(K:Hp):Prop:=K=H/\∃(i:Nat) (n:Int),i<=L.length/\0<=n/\n<=2*i/\goD' last L 0=goD' last (L.drop i) n/\
 ∃x:Nat->AV,fr=[.str s,.bool last,x 2,x 3,x 4,.sl false 1 (strs L),.int .i64 n,.int .i64 (i:Int),x 8,x 9,x 10,x 11,x 12,x 13,x 14,x 15,x 16,x 17,x 18,x 19,x 20,x 21,x 22,x 23,x 24,x 25,x 26,x 27,x 28,x 29,x 30,x 31,x 32,x 33,x 34,x 35,x 36,x 37,x 38,x 39,x 40,x 41,x 42,x 43,x 44,x 45,x 46,x 47,x 48,x 49,x 50,x 51,x 52,x 53,x 54,x 55,x 56,x 57]
theorem qep(s:List UInt8)(last:Bool)(hl:s.length<=1073741824)(hQ:∀v,grpD s last=v->Q (.int .i64 v) H):PC Tryz.prog E 120 [.str s,.bool last] H Q:=by
 refine qac Tryz.func120 rfl [] [] (by kernel_rfl) (fun hB=>?_);by_cases h0:s=[]
 ·subst h0;simp[Tryz.ntmps120,Tryz.results120,List.replicate_succ];exact aQz hB (h6:=(hQ 0 rfl))
 have h0':(s==[])=false:=by simpa using h0
 simp[Tryz.ntmps120,Tryz.results120,List.replicate_succ,h0'];refine qhv E _ s 58 hl ?_;obtain⟨h1,h2⟩:=qc2 58 s;have fin:∀v,goD' last (qbc 58 s) 0=v->Q (.int .i64 v) H:=fun v h=>hQ v (by unfold grpD;rw[if_neg h0];exact h);obtain⟨L,hL⟩:=exz (qbc 58 s);rw[hL]at h1 h2 fin⊢;clear hQ;simp;refine qaB (rfgI s last L H) (fun fr _=>L.length-(ai (aget fr 7)).toNat) ⟨rfl,0,0,by omega,by omega,by omega,by simp,friz⟩ ?_;rintro fr K ⟨rfl,i,n,hi,hn,hn2,hS,x,rfl⟩;by_cases h:i<L.length
 ·obtain⟨g,hg⟩:∃g,L[i]? =some g:=⟨_,zqD h⟩
  have hat:=qcB hg;have hgl:=h2 g (zqH hg);have w1:IntKind.i64.wrap ((i:Int)+1)=i+1:=wiz;have v1:IntKind.i64.wrap (n+1)=n+1:=wiz;have v2:IntKind.i64.wrap (n+2)=n+2:=wiz;have w3:IntKind.i64.wrap ((L.length:Int)-1)=L.length-1:=wiz;rw[qlL L i g hg,goD']at hS
  have hem:(L.drop (i+1)).isEmpty=((i:Int)==(L.length:Int)-1):=by
   rw[Bool.eq_iff_iff];simp;omega
  rw[hem]at hS;simp[h,hat];refine qkl E _ g 65535 (by simp only[cap];omega) (by decide) (by decide) ?_;have yes:hexP g=true->goD' last L 0=goD' last (L.drop (i+1)) (n+1):=fun hx=>by rw[hS,hx];simp
  have no:hexP g=false->goD' last L 0=if(last&&((i:Int)==(L.length:Int)-1)&&dotB g)=true then goD' last (L.drop (i+1)) (n+2)else-1:=fun hx=>by rw[hS,hx];simp
  have tail:hexP g=false->(last=false\/(last=true/\((i:Int)==(L.length:Int)-1)=false))->goD' last L 0= -1:=fun hx hc=>by
   rw[no hx];rcases hc with rfl|⟨rfl,hc⟩
   ·simp
   ·rw[hc];simp
  have quadC:hexP g=false->last=true->((i:Int)==(L.length:Int)-1)=true->goD' last L 0=if dotB g=true then goD' last (L.drop (i+1)) (n+2)else-1:=fun hx h1 h2=>by
   rw[no hx,h1,h2];simp
  by_cases he:(qae 16 65535 g).2=0
  ·by_cases h4:g.length<=4
   ·have hx:hexP g=true:=by unfold hexP;simp[he,h4]
    have h4':(g.length:Int)<=4:=by omega
    simp[he,h4',hat,v1,w1];exact Klz ⟨rfl,i+1,n+1,by omega,by omega,by omega,yes hx,friz⟩
   ·have hx:hexP g=false:=by unfold hexP;simp[h4]
    have h4':¬(g.length:Int)<=4:=by omega
    by_cases hcd:last=true
    ·by_cases his:((i:Int)==(L.length:Int)-1)=true
     ·have hq:=quadC hx hcd his;subst hcd;simp[he,h4',hat,w3,his];refine qi0 E _ g (by omega) ?_;cases hdq:dotB g with
      |true=>
       rw[hdq,if_pos rfl]at hq;simp[v2,w1];exact Klz ⟨rfl,i+1,n+2,by omega,by omega,by omega,hq,friz⟩
      |false=>
       rw[hdq,if_neg (by simp)]at hq;simp;exact aQz hB (h6:=(fin _ hq))
     ·have his':((i:Int)==(L.length:Int)-1)=false:=by simpa using his
      have hq:=tail hx (.inr ⟨hcd,his'⟩);subst hcd;simp[he,h4',hat,w3,his'];exact aQz hB (h6:=(fin _ hq))
    ·have hcd':last=false:=by simpa using hcd
     have hq:=tail hx (.inl hcd');subst hcd';simp[he,h4',hat];exact aQz hB (h6:=(fin _ hq))
  ·have hx:hexP g=false:=by unfold hexP;simp[he]
   have he1:((qae 16 65535 g).2==0)=false:=by simpa using he
   by_cases hcd:last=true
   ·by_cases his:((i:Int)==(L.length:Int)-1)=true
    ·have hq:=quadC hx hcd his;subst hcd;simp[he1,hat,w3,his];refine qi0 E _ g (by omega) ?_;cases hdq:dotB g with
     |true=>
      rw[hdq,if_pos rfl]at hq;simp[v2,w1];exact Klz ⟨rfl,i+1,n+2,by omega,by omega,by omega,hq,friz⟩
     |false=>
      rw[hdq,if_neg (by simp)]at hq;simp;exact aQz hB (h6:=(fin _ hq))
    ·have his':((i:Int)==(L.length:Int)-1)=false:=by simpa using his
     have hq:=tail hx (.inr ⟨hcd,his'⟩);subst hcd;simp[he1,hat,w3,his'];exact aQz hB (h6:=(fin _ hq))
   ·have hcd':last=false:=by simpa using hcd
    have hq:=tail hx (.inl hcd');subst hcd';simp[he1,hat];exact aQz hB (h6:=(fin _ hq))
 ·obtain rfl:i=L.length:=by omega
  rw[List.drop_length,goD']at hS;simp;exact aQz hB (h6:=(fin _ hS))
theorem qlB(s:List UInt8)(last:Bool)(hl:s.length<=1073741824): -1<=grpD s last/\grpD s last<=2147483648:=by
 rw[qiq];have:=qev s last hl;split<;>omega
def rfaI(s:List UInt8)(H:Hp)(fr:List AV)(K:Hp):Prop:=K=H/\∃i:Nat,i<=s.length/\cut2 58 s=(s.take i++(cut2 58 (s.drop i)).1,(cut2 58 (s.drop i)).2)/\∃x:Nat->AV,fr=[.str s,x 1,x 2,.int .i64 (i:Int),x 4,x 5,x 6,x 7,x 8,x 9,x 10,x 11,x 12,x 13,x 14,x 15,x 16,x 17,x 18,x 19,x 20,x 21,x 22,x 23,x 24,x 25,x 26,x 27,x 28,x 29,x 30,x 31,x 32,x 33,x 34,x 35,x 36,x 37,x 38,x 39,x 40,x 41,x 42,x 43,x 44,x 45,x 46,x 47]
theorem qnK(s:List UInt8)(hl:s.length<=1073741824)(hQ:Q (.bool (qfD s)) H):PC Tryz.prog E 90 [.str s] H Q:=by
 refine qac Tryz.func90 rfl [] [] (by kernel_rfl) (fun hB=>?_);rw[addrD]at hQ;simp[Tryz.ntmps90,Tryz.results90,List.replicate_succ];refine qaB (rfaI s H) (fun fr _=>s.length-(ai (aget fr 3)).toNat) ⟨rfl,0,by omega,by simp,friz⟩ ?_;rintro fr K ⟨rfl,i,hi,hS,x,rfl⟩;have w1:IntKind.i64.wrap ((i:Int)+1)=i+1:=wiz;have w2:IntKind.i64.wrap ((i:Int)+2)=((i+2:Nat):Int):=by rw[qai (by omega) (by omega)];omega
 by_cases h:i+1<s.length
 ·obtain⟨a,ha⟩:∃a,s[i]? =some a:=⟨_,zqD (by omega)⟩
  obtain⟨b,hb⟩:∃b,s[i+1]? =some b:=⟨_,zqD h⟩
  have la:=qaq ha;have lb:=qaq hb;have h':(i:Int)+1<s.length:=by omega
  have q1:((i:Int)+1).toNat=i+1:=by omega
  have q3:(0:Int)<=i+1:=by omega
  have hd:s.drop i=a::b::s.drop (i+2):=by rw[qas s i a ha,qas s (i+1) b hb]
  have hd1:s.drop (i+1)=b::s.drop (i+2):=qas s (i+1) b hb
  have next:¬(a=58/\b=58)->cut2 58 s=(s.take (i+1)++(cut2 58 (s.drop (i+1))).1,(cut2 58 (s.drop (i+1))).2):=fun hn=>by
   rw[hS,hd,cut2,if_neg hn,hd1,List.take_add_one,ha];simp
  by_cases h1:a=58
  ·subst h1;by_cases h2:b=58
   ·subst h2
    have hcut:cut2 58 s=(s.take i,s.drop (i+2),true):=by
     rw[hS,hd,cut2,if_pos ⟨rfl,rfl⟩];simp
    rw[hcut]at hQ;dsimp only at hQ;have t1:(s.take i).length<=1073741824:=by rw[zqJ];omega
    have t2:(s.drop (i+2)).length<=1073741824:=by rw[zqI];omega
    have r1:=qlB (s.take i) false t1;have r2:=qlB (s.drop (i+2)) true t2;have q5:i+2<=s.length:=h;have ht:(s.drop (i+2)).take (s.length-(i+2))=s.drop (i+2):=zqE (by simp);simp[w1,h',la,lb,q1,q3,hi];refine qep E _ (s.take i) false t1 (fun v hv=>?_);simp[w2,q5,ht,-Int.natCast_add];refine qep E _ (s.drop (i+2)) true t2 (fun u hu=>?_);rw[hv]at r1 hQ;rw[hu]at r2 hQ;have w:IntKind.i64.wrap (v+u)=v+u:=wiz;by_cases g1:0<=v
    ·by_cases g2:0<=u
     ·simp[g1,g2,w];exact aQz hB (h6:=(by simpa[g1,g2]using hQ))
     ·simp[g1,g2];exact aQz hB (h6:=(by simpa[g1,g2]using hQ))
    ·simp[g1];exact aQz hB (h6:=(by simpa[g1]using hQ))
   ·have hb2:=(qaw b 58 (by decide) 58 rfl h2).1;simp[w1,h',la,lb,q1,q3,hb2];exact Klz ⟨rfl,i+1,by omega,next (fun e=>h2 e.2),friz⟩
  ·have ha2:=(qaw a 58 (by decide) 58 rfl h1).1;simp[w1,h',la,ha2];exact Klz ⟨rfl,i+1,by omega,next (fun e=>h1 e.1),friz⟩
 ·have h':¬(i:Int)+1<s.length:=by omega
  have hlast:(cut2 58 (s.drop i)).2.2=false:=by
   have:(s.drop i).length<=1:=by rw[zqI];omega
   match s.drop i,this with
   |[],_=>rfl
   |[_],_=>rfl
  have hc2:(cut2 58 s).2.2=false:=by rw[hS];exact hlast
  rcases hcut:cut2 58 s with⟨a,b,t⟩;rw[hcut]at hQ hc2;simp only at hc2;subst hc2;dsimp only at hQ;simp[w1,h'];refine qep E _ s true hl (fun v hv=>?_);rw[hv]at hQ;simp;exact aQz hB (h6:=hQ)
def rfnI(s:List UInt8)(H:Hp)(fr:List AV)(K:Hp):Prop:=K=H/\∃i:Nat,i<=s.length/\qaF qb1 s=i+qaF qb1 (s.drop i)/\∃x:Nat->AV,fr=[.str s,x 1,x 2,.int .i64 (i:Int),x 4,x 5,x 6,x 7,x 8,x 9,x 10,x 11,x 12,x 13,x 14,x 15,x 16,x 17,x 18,x 19,x 20,x 21,x 22,x 23,x 24,x 25,x 26,x 27,x 28]
theorem qi1(s:List UInt8)(hl:s.length<=1073741824)(hQ:Q (.bool (!s.isEmpty&&qaF qb1 s==s.length)) H):PC Tryz.prog E 91 [.str s] H Q:=by
 refine qac Tryz.func91 rfl [] [] (by kernel_rfl) (fun hB=>?_);have fin:∀c:Bool,(!s.isEmpty&&qaF qb1 s==s.length)=c->Q (.bool c) H:=fun c h=>h▸hQ;simp[Tryz.ntmps91,Tryz.results91,List.replicate_succ];refine qaB (rfnI s H) (fun fr _=>s.length-(ai (aget fr 3)).toNat) ⟨rfl,0,by omega,by simp,friz⟩ ?_;rintro fr K ⟨rfl,i,hi,hS,x,rfl⟩;by_cases h:i<s.length
 ·obtain⟨c,hc⟩:∃c,s[i]? =some c:=⟨_,zqD h⟩
  have la:=qaq hc;have hd:=qas s i c hc;have w3:IntKind.i64.wrap ((i:Int)+3)=i+3:=wiz;have w1:IntKind.i64.wrap ((i:Int)+1)=i+1:=wiz;simp[h];refine qgr E _ s i h hl ?_;rw[hd,qbm]at hS;rw[hd];by_cases ht:qbv (c::s.drop (i+1))=true
  ·have h3:=qeI ht;rw[<-hd,zqI]at h3;simp[ht,w3];rw[if_pos ht,List.drop_drop]at hS;exact Klz ⟨rfl,i+3,by omega,by rw[hS,show i+1+2=i+3 by omega];omega,friz⟩
  ·have ht':qbv (c::s.drop (i+1))=false:=by simpa using ht
   rw[if_neg ht]at hS
   have bad:qb1 c=false->(!s.isEmpty&&qaF qb1 s==s.length)=false:=fun hm=>by
    rw[hm,if_neg (by simp)]at hS;have:(qaF qb1 s==s.length)=false:=by rw[beq_eq_false_iff_ne,hS];omega
    rw[this,Bool.and_false]
   have go:qb1 c=true->qaF qb1 s=(i+1)+qaF qb1 (s.drop (i+1)):=fun hm=>by rw[hm,if_pos rfl]at hS;omega
   simp[ht',la];refine qhu E _ c ?_;cases u1:qby c with
   |true=>
    have hm:qb1 c=true:=by unfold qb1;rw[u1];rfl
    simp[w1];exact Klz ⟨rfl,i+1,by omega,go hm,friz⟩
   |false=>
    simp[la];refine qli E _ c ?_;cases u2:qbM c with
    |true=>
     have hm:qb1 c=true:=by unfold qb1;rw[u1,u2];rfl
     simp[w1];exact Klz ⟨rfl,i+1,by omega,go hm,friz⟩
    |false=>
     have hm:qb1 c=false:=by unfold qb1;rw[u1,u2];rfl
     simp;exact aQz hB (h6:=(fin _ (bad hm)))
 ·obtain rfl:i=s.length:=by omega
  rw[List.drop_length,qc3,Nat.add_zero]at hS;by_cases h0:s=[]
  ·subst h0;simp;exact aQz hB (h6:=(fin _ rfl))
  ·have h0':(s !=[])=true:=by simpa using h0
   simp[h0'];exact aQz hB (h6:=(fin _ (by rw[hS];simpa using h0)))
end
end Go.Proofs.YtnnhdehmlkkfjaaGreatDoor
set_option linter.unnecessarySimpa false
namespace Go.Proofs.YtnnhdehmlkkfjaaGreatDoor
open Go Go.RowKit Go.Proofs Go.Lib
section
variable (E:Env)(H:Hp)(Q:AV->Hp->Prop)
end
end Go.Proofs.YtnnhdehmlkkfjaaGreatDoor
namespace Go.Proofs.YtnnhdehmlkkfjaaGreatDoor
open Go Go.RowKit Go.Proofs Go.Deep
end Go.Proofs.YtnnhdehmlkkfjaaGreatDoor
namespace Go.Proofs.YtnnhdehmlkkfjaaGreatDoor
open Go Go.RowKit Go.Proofs
@[simp] theorem qpI (l:List (List UInt8)):(qnv l).length=l.length:=by simp[qnv]
section
variable (E:Env)(H:Hp)(Q:AV->Hp->Prop)
end
section
variable (E:Env)(H:Hp)(Q:AV->Hp->Prop)
theorem qoV(a b:List UInt8)(ha:a.length<=cap)(hb:b.length<=cap)(hQ:Q (.bool (qkz a b)) H):PC Tryz.prog E 126 [.str a,.str b] H Q:=by
 refine qac Tryz.func126 rfl [] [] (by kernel_rfl) (fun hB=>?_);simp[Tryz.ntmps126,Tryz.results126,List.replicate_succ];refine qcf E _ _ a ha ?_;simp;refine qcf E _ _ b hb ?_;simp;exact aQz hB (h6:=hQ)
end
end Go.Proofs.YtnnhdehmlkkfjaaGreatDoor
