/- Part 12 of the texts below the law. -/
import Derived.Test.YtnnhdehmlkkfjaaGreatDoorPd11
import Derived.Shelf.Vars
import Derived.Test.YtnnhdehmlkkfjaaGreatDoorCards
import Derived.Test.YtnnhdehmlkkfjaaGreatDoorTie
import Derived.Deep.DeepHandedRow
import Derived.Lib.LaidTab
import Derived.ChangeMaps5
import Derived.Lay
import Derived.Stop.LaidErr
import Derived.JoinedCond
set_option maxRecDepth 100000
set_option maxHeartbeats 16000000
set_option linter.unusedVariables false
set_option linter.unusedSimpArgs false
set_option linter.unusedSectionVars false
namespace Go.Proofs.YtnnhdehmlkkfjaaGreatDoor
open Go Go.RowKit
def pI(p0:Prs)(s:List UInt8)(fr0 i bg:Nat)(l:List Fld):Prs:={p0 with used:=i,fields:=l,text:=(s.drop bg).take (i-bg),begin_:=bg,head:=(i:Int)-fr0}
def pI1(p0:Prs)(s:List UInt8)(fr0 i bg:Nat)(l:List Fld)(c:UInt8):Prs:={p0 with used:=i,fields:=l,text:=(s.drop bg).take (i-bg)++[c],begin_:=bg,head:=(i:Int)-fr0+1}
theorem qrz(p0:Prs)(s:List UInt8)(fr0 i bg:Nat)(l:List Fld)(c:UInt8)(hb:bg<=i)(hc:s[i]? =some c)(h1:p0.nx=some .fields):adv (pI1 p0 s fr0 i bg l c) (some .fields)=pI p0 s fr0 (i+1) bg l:=by
 have e:(s.drop bg).take (i+1-bg)=(s.drop bg).take (i-bg)++[c]:=by
  rw[show i+1-bg=(i-bg)+1 by omega,List.take_add_one,zqN,show bg+(i-bg)=i by omega,hc];rfl
 unfold adv pI1 pI;rw[e];cases p0;simp at h1⊢;exact⟨h1.symm,by omega⟩
theorem pI_0(p0:Prs)(s:List UInt8)(fr0:Nat)(h2:p0.used=fr0)(h3:p0.fields=[])(h4:p0.text=[])(h5:p0.begin_=fr0)(h6:p0.head=0):pI p0 s fr0 fr0 fr0 []=p0:=by
 unfold pI;cases p0;simp at h2 h3 h4 h5 h6⊢;simp[h2,h3,h4,h5,h6]
def pI2(p0:Prs)(s:List UInt8)(fr0 i bg:Nat)(l:List Fld):Prs:={p0 with used:=i,fields:=l,text:=[],begin_:=bg,head:=(i:Int)-fr0+1}
theorem qmA(p0:Prs)(s:List UInt8)(fr0 i bg:Nat)(l:List Fld)(c:UInt8):qbA (pI p0 s fr0 i bg l) c=
  if(i:Int)-fr0=p0.lh then qao (pI p0 s fr0 i bg l) 431 113
  else if(((s.drop bg).take (i-bg)).getLast? ==some 13)≠(c==10)then qao {pI p0 s fr0 i bg l with head:=(i:Int)-fr0+1} 400 111
  else if c≠10 then .go (pI1 p0 s fr0 i bg l c) (some .fields)
  else if((s.drop bg).take (i-bg)).dropLast=[]then qa1 (pI2 p0 s fr0 i bg l)
  else if(l.length:Int)=p0.lf then qao (pI2 p0 s fr0 i bg l) 431 113
  else if(qaO ((s.drop bg).take (i-bg)).dropLast).2.2≠0 then .bad (pI2 p0 s fr0 i bg l) 400 (qaO ((s.drop bg).take (i-bg)).dropLast).2.2 (bg+(qaO ((s.drop bg).take (i-bg)).dropLast).2.1)
  else .go {pI2 p0 s fr0 i bg l with fields:=l++[(qaO ((s.drop bg).take (i-bg)).dropLast).1],begin_:=i+1} (some .fields):=rfl
theorem pI_nx(p0:Prs)(s:List UInt8)(fr0 i bg:Nat)(l:List Fld)(f:Fld)(h1:p0.nx=some .fields):adv {pI2 p0 s fr0 i bg l with fields:=l++[f],begin_:=i+1} (some .fields)=pI p0 s fr0 (i+1) (i+1) (l++[f]):=by
 unfold adv pI2 pI;cases p0;simp at h1⊢;exact⟨h1.symm,by omega⟩
section
open Go.Lib
variable (E:Env){H:Hp}(Q:AV->Hp->Prop)
def dfI(q p0:Prs)(s:List UInt8)(fr0:Nat)(H:Hp)(fr:List AV)(K:Hp):Prop:=∃(J:Hp) (i bg:Nat) (l:List Fld) (z:AV),fr0<=bg/\bg<=i/\i<=s.length/\(i:Int)-fr0<=p0.lh/\fsz l+l.length+fr0<=bg/\(l.length:Int)<=p0.lf/\(l=[]/\z= .nil\/z= .sl true 2 (flds l))/\Fd q s (pI p0 s fr0 i bg l) i/\
 K=H++([[.int .i64 p0.lt,.int .i64 p0.lh,.int .i64 p0.lf,.int .i64 p0.lb],[.str p0.meth,.str p0.targ,.int .i64 p0.major,.int .i64 p0.minor,z,.str [],.nil],[.int .i64 0,.int .i64 0,.bool false,.str [],.str [],.int .i64 0,.int .i64 0,.nil,.str [],.nil,.bool false,.int .i64 0,.int .i64 0,.int .i64 0]]++J)/\
 ∃x:Nat->AV,fr=[x 0,.str s,.int .i64 (fr0:Int),x 3,.ptr (some (H.length,0)),x 5,x 6,.ptr (some (H.length+1,0)),.ptr (some (H.length+2,0)),.int .i64 (i:Int),.int .i64 (bg:Int),x 11,x 12,x 13,x 14,x 15,x 16,x 17,x 18,x 19,x 20,x 21,x 22,x 23,x 24,x 25,x 26,x 27,x 28,x 29,x 30,x 31,x 32,x 33,x 34,x 35,x 36,x 37,x 38,x 39,x 40,x 41,x 42,x 43,x 44,x 45,x 46,x 47,x 48,x 49,x 50,x 51,x 52,x 53,x 54,x 55,x 56,x 57,x 58,x 59,x 60,x 61,x 62,x 63,x 64,x 65,x 66,x 67,x 68,x 69,x 70,x 71,x 72,x 73,x 74,x 75,x 76,x 77,x 78,x 79,x 80,x 81,x 82,x 83,x 84,x 85,x 86,x 87,x 88,x 89,x 90,x 91,x 92,x 93,x 94,x 95,x 96,x 97,x 98,x 99,x 100,x 101,x 102,x 103,x 104,x 105,x 106,x 107,x 108,x 109,x 110,x 111,x 112,x 113,x 114,x 115,x 116,x 117,x 118]
theorem qmI(q p0:Prs)(s:List UInt8)(fr0:Nat)(hF:Fd q s p0 fr0)(h1:p0.nx=some .fields)(h2:p0.used=fr0)(h3:p0.fields=[])(h4:p0.text=[])(h5:p0.begin_=fr0)(h6:p0.head=0)(h7:p0.state=2)(h8:p0.bodied=false)(h9:p0.body=[])(h10:p0.trailers=[])
  (hlh:0<=p0.lh/\p0.lh<=1048576) (hlf:0<=p0.lf/\p0.lf<=100) (hlb:0<=p0.lb/\p0.lb<=1073741824) (hl:s.length<=1000000000) (hQ:Q (qaE (qaf q s).1).av H):
  PC Tryz.prog E 51 [limV p0.lt p0.lh p0.lf p0.lb,.str s,.int .i64 (fr0:Int),.agg [.str p0.meth,.str p0.targ,.int .i64 p0.major,.int .i64 p0.minor,.nil,.str [],.nil]] H Q:=by
 refine qac Tryz.func51 rfl [111] [] (by kernel_rfl) (fun hB=>?_);have fin:∀x:Lk,qaE (qaf q s).1=x->Q x.av H:=fun x hx=>hx▸hQ;clear hQ;simp[Tryz.ntmps51,Tryz.results51,List.replicate_succ,limV];refine qaB (dfI q p0 s fr0 H) (fun fr _=>s.length-(ai (aget fr 9)).toNat) ⟨[],fr0,fr0,[],.nil,by omega,by omega,hF.1,by omega,by simp[fsz],by simpa using hlf.1,.inl ⟨rfl,rfl⟩,by rw[pI_0 p0 s fr0 h2 h3 h4 h5 h6];exact hF,by simp,friz⟩ ?_;clear hF;rintro fr K ⟨J,i,bg,l,z,hfb,hbi,hi,hih,hsz,hlc,hz,hFd,rfl,x,rfl⟩;have hn:(pI p0 s fr0 i bg l).nx=some .fields:=h1;by_cases hlt:i<s.length;rotate_left
 ·obtain rfl:i=s.length:=by omega
  have hx:qaE (qaf q s).1=⟨2,(s.length:Int),false,.zero,false,0,0,0⟩:=by
   rw[Fd.fin hFd];simp[qaE,pI,h7]
  simp;refine qee E _ 2 s ?_;simp[Lk.av,Rq.avs,Rq.zero,flds];exact qab (v0:=Lk.av ⟨2,(s.length:Int),false,.zero,false,0,0,0⟩) (v:=Lk.av ⟨2,(s.length:Int),false,.zero,false,0,0,0⟩) hB (by simp[Lk.av,Rq.avs,Rq.zero,flds]) (qaa _) (Lk.bnd ⟨2,(s.length:Int),false,.zero,false,0,0,0⟩ _) (fin ⟨2,(s.length:Int),false,.zero,false,0,0,0⟩ hx)
 obtain⟨c,hc⟩:∃c,s[i]? =some c:=⟨_,zqD hlt⟩
 have la:=qaq hc;have hil:((i:Int)==(s.length:Int))=false:=by rw[beq_eq_false_iff_ne];omega
 have w1:IntKind.i64.wrap ((i:Int)+1)=i+1:=wiz;have w0:IntKind.i64.wrap ((i:Int)-fr0)=i-fr0:=wiz
 have bad:∀p1 st err,p1.used=(i:Int)->qbA (pI p0 s fr0 i bg l) c=qao p1 st err->qaE (qaf q s).1=⟨5,(i:Int)+1,false,.zero,false,st,err,(i:Int)⟩:=fun p1 st err hu h=>by
  unfold qao at h;rw[Fd.bad hFd hc hn (show qbr _ .fields c=_ from h),qbP,hu]
 have hS:=qmA p0 s fr0 i bg l c;by_cases hhd:(i:Int)-fr0=p0.lh
 ·rw[if_pos hhd]at hS;have hb:=bad _ 431 113 rfl hS;have hge:p0.lh<=(i:Int)-fr0:=by omega
  simp[hil,w0,hge];refine qau E _ 431 113 (i:Int) (i:Int) (by omega) (by omega) ?_;simp[Lk.av,Rq.avs,Rq.zero,flds];exact qab (v0:=Lk.av ⟨5,(i:Int)+1,false,.zero,false,431,113,(i:Int)⟩) (v:=Lk.av ⟨5,(i:Int)+1,false,.zero,false,431,113,(i:Int)⟩) hB (by simp[Lk.av,Rq.avs,Rq.zero,flds]) (qaa _) (Lk.bnd ⟨5,(i:Int)+1,false,.zero,false,431,113,(i:Int)⟩ _) (fin ⟨5,(i:Int)+1,false,.zero,false,431,113,(i:Int)⟩ hb)
 have hge:¬p0.lh<=(i:Int)-fr0:=by omega
 rw[if_neg hhd]at hS;obtain⟨l13,h13⟩:=exz ((((s.drop bg).take (i-bg)).getLast? ==some 13));rw[h13]at hS;by_cases hib:i=bg
 ·have e13:l13=false:=by rw[<-h13,hib];simp
  subst e13;have hib':((i:Int)==(bg:Int))=true:=by rw[beq_iff_eq];omega
  have hgt:¬(bg:Int)<i:=by omega
  by_cases hc10:c=10
  ·subst hc10;rw[if_pos (by decide)]at hS;have hbad:=bad _ _ _ rfl hS;simp[hil,w0,hge,la,hib',hgt];refine qau E _ 400 111 (i:Int) (i:Int) (by omega) (by omega) ?_;simp[Lk.av,Rq.avs,Rq.zero,flds];exact qab (v0:=Lk.av ⟨5,(i:Int)+1,false,.zero,false,400,111,(i:Int)⟩) (v:=Lk.av ⟨5,(i:Int)+1,false,.zero,false,400,111,(i:Int)⟩) hB (by simp[Lk.av,Rq.avs,Rq.zero,flds]) (qaa _) (Lk.bnd ⟨5,(i:Int)+1,false,.zero,false,400,111,(i:Int)⟩ _) (fin ⟨5,(i:Int)+1,false,.zero,false,400,111,(i:Int)⟩ hbad)
  ·have b1:=(qaw c 10 (by decide) 10 rfl hc10).1;have b2:=(qaw c 10 (by decide) 10 rfl hc10).2;rw[if_neg (by simpa using hc10),if_pos hc10]at hS;have hgo:=Fd.go hFd hc hn (show qbr _ .fields c=_ from hS);rw[qrz p0 s fr0 i bg l c hbi hc h1]at hgo;simp[hil,w0,hge,la,hib',hgt,b1,b2,w1];exact Klz ⟨J,i+1,bg,l,z,hfb,by omega,by omega,by omega,by omega,hlc,hz,hgo,rfl,friz⟩
 have hbl:bg<i:=by omega
 obtain⟨e,he⟩:∃e,s[i-1]? =some e:=⟨_,zqD (by omega)⟩
 have le:=qaq he;have wm:IntKind.i64.wrap ((i:Int)-1)=((i-1:Nat):Int):=by rw[qai (by omega) (by omega)];omega
 have e13:l13=(e==13):=by
  rw[<-h13,List.getLast?_eq_getElem?,zqJ,zqI,Nat.min_eq_left (by omega),zqG (by omega),zqN,show bg+(i-bg-1)=i-1 by omega,he];simp
 subst e13;have hib':((i:Int)==(bg:Int))=false:=by rw[beq_eq_false_iff_ne];omega
 have hgt:(bg:Int)<i:=by omega
 by_cases hc10:c=10
 ·subst hc10;by_cases h13':e=13
  ·subst h13';rw[if_neg (by decide),if_neg (by simp)]at hS;obtain⟨line,hline⟩:=exz ((s.drop bg).take (i-1-bg))
   have hdl:((s.drop bg).take (i-bg)).dropLast=line:=by
    rw[List.dropLast_eq_take,zqJ,zqI,List.take_take,<-hline];congr 1;omega
   have hll:line.length=i-1-bg:=by rw[<-hline,zqJ,zqI];omega
   rw[hdl]at hS;have q1:bg<=i-1:=by omega
   have q2:i-1<=s.length:=by omega
   by_cases hl0:line=[]
   ·rw[if_pos hl0]at hS;obtain⟨X,hX⟩:=exz (qaE (qaf q s).1);have hl0':(line==[])=true:=by rw[hl0];rfl
    rcases hz with⟨rfl,rfl⟩|rfl
    ·simp[hil,w0,hge,la,le,hib',hgt,wm,q1,q2,hline,hl0'];refine PC.argsD (args':=[limV p0.lt p0.lh p0.lf p0.lb,.str s,.int .i64 (i:Int),(Rq.mk p0.meth p0.targ p0.major p0.minor [] [] []).av]) ⟨.same _,.same _,.same _,qaP (Rq.nil _ _ _ _ _),trivial⟩ (qlO E _ q (pI p0 s fr0 i bg []) (pI2 p0 s fr0 i bg []) s i .fields 10 hFd hc hn (show qbr _ .fields 10=_ from hS) rfl h8 h9 h10 hlh.1 hlb (by show fsz []+List.length []<=_;omega) hl ?_);rw[hX];simp[Lk.av,Rq.avs];exact qab (v0:=Lk.av X) (v:=Lk.av X) hB (by simp[Lk.av,Rq.avs,Rq.zero,flds]) (qaa _) (Lk.bnd X _) (fin X hX)
    ·simp[hil,w0,hge,la,le,hib',hgt,wm,q1,q2,hline,hl0'];refine PC.argsD (args':=[limV p0.lt p0.lh p0.lf p0.lb,.str s,.int .i64 (i:Int),(Rq.mk p0.meth p0.targ p0.major p0.minor l [] []).av]) ⟨.same _,.same _,.same _,qaP (Rq.nilT _ _ _ _ _ _),trivial⟩ (qlO E _ q (pI p0 s fr0 i bg l) (pI2 p0 s fr0 i bg l) s i .fields 10 hFd hc hn (show qbr _ .fields 10=_ from hS) rfl h8 h9 h10 hlh.1 hlb (by show fsz l+List.length l<=_;omega) hl ?_);rw[hX];simp[Lk.av,Rq.avs];exact qab (v0:=Lk.av X) (v:=Lk.av X) hB (by simp[Lk.av,Rq.avs,Rq.zero,flds]) (qaa _) (Lk.bnd X _) (fin X hX)
   ·rw[if_neg hl0]at hS;have hl0':(line==[])=false:=by simpa using hl0
    rcases hz with⟨rfl,rfl⟩|rfl
    ·by_cases hful:((([]:List Fld).length:Int):Int)=p0.lf
     ·rw[if_pos hful]at hS;have hb:=bad _ _ _ rfl hS;have hge2:p0.lf<=(([]:List Fld).length:Int):=by omega
      have hge3:p0.lf<=0:=by simpa using hge2
      simp[hil,w0,hge,la,le,hib',hgt,wm,q1,q2,hline,hl0',hge3,flds];refine qau E _ 431 113 (i:Int) (i:Int) (by omega) (by omega) ?_;simp[Lk.av,Rq.avs,Rq.zero,flds];exact qab (v0:=Lk.av ⟨5,(i:Int)+1,false,.zero,false,431,113,(i:Int)⟩) (v:=Lk.av ⟨5,(i:Int)+1,false,.zero,false,431,113,(i:Int)⟩) hB (by simp[Lk.av,Rq.avs,Rq.zero,flds]) (qaa _) (Lk.bnd ⟨5,(i:Int)+1,false,.zero,false,431,113,(i:Int)⟩ _) (fin ⟨5,(i:Int)+1,false,.zero,false,431,113,(i:Int)⟩ hb)
     ·rw[if_neg hful]at hS;have hge2:¬p0.lf<=(([]:List Fld).length:Int):=by omega
      have hge3:¬p0.lf<=0:=by simpa using hge2
      simp[hil,w0,hge,la,le,hib',hgt,wm,q1,q2,hline,hl0',hge3,flds];refine qjL E _ _ line (by simp only[cap];omega) ?_;have hrg:=qjo line;have hls:=qlu (l:=line);obtain⟨nm,vl,pl,er,hLX⟩:∃nm vl pl er,qaO line=(⟨nm,vl⟩,pl,er):=⟨_,_,_,_,rfl⟩
      rw[hLX]at hS hrg hls⊢;simp only at hS hrg hls;by_cases hee:er=0
      ·subst hee;rw[if_neg (by simp)]at hS;have hls:=hls rfl;have hgo:=Fd.go hFd hc hn (show qbr _ .fields 10=_ from hS);rw[pI_nx p0 s fr0 i bg ([]:List Fld) ⟨nm,vl⟩ h1]at hgo;have hfs:[[AV.str nm,AV.str vl]]=flds ([]++[⟨nm,vl⟩]):=by simp[flds]
       have hsn:=qgJ ([]:List Fld) ⟨nm,vl⟩;have m1:([]:List Fld).length+1<=maxLen:=by unfold maxLen;simp only[List.length_nil]at*;omega
       have m2:(([]:List Fld).length+1)*32<=140737488355328:=by simp only[List.length_nil]at*;omega
       have m3:1<=maxLen:=by unfold maxLen;omega
       simp[w1,m3];exact Klz ⟨_,i+1,i+1,([]:List Fld)++[⟨nm,vl⟩],_,by omega,by omega,by omega,by omega,by rw[hsn];simp only[zqK,zqL,List.length_nil]at*;omega,by simp only[zqK,zqL,List.length_nil]at*;omega,.inr rfl,hgo,by simp[flds];rfl,friz⟩
      ·rw[if_pos hee]at hS;have hee1:(er==0)=false:=by simpa using hee
       have hee2:(er !=0)=true:=by simpa using hee
       have wp:IntKind.i64.wrap ((bg:Int)+pl)=bg+pl:=wiz
       have hb:qaE (qaf q s).1=⟨5,(i:Int)+1,false,.zero,false,400,er,bg+pl⟩:=by
        rw[Fd.bad hFd hc hn (show qbr _ .fields 10=_ from hS),qbP];rfl
       simp[hee1,hee2,wp];refine qau E _ 400 er (i:Int) (bg+pl) (by omega) (by omega) ?_;simp[Lk.av,Rq.avs,Rq.zero,flds];exact qab (v0:=Lk.av ⟨5,(i:Int)+1,false,.zero,false,400,er,(bg+pl)⟩) (v:=Lk.av ⟨5,(i:Int)+1,false,.zero,false,400,er,(bg+pl)⟩) hB (by simp[Lk.av,Rq.avs,Rq.zero,flds]) (qaa _) (Lk.bnd ⟨5,(i:Int)+1,false,.zero,false,400,er,(bg+pl)⟩ _) (fin ⟨5,(i:Int)+1,false,.zero,false,400,er,(bg+pl)⟩ hb)
    ·by_cases hful:((l.length:Int):Int)=p0.lf
     ·rw[if_pos hful]at hS;have hb:=bad _ _ _ rfl hS;have hge2:p0.lf<=(l.length:Int):=by omega
      have hge3:p0.lf<=(l.length:Int):=by simpa using hge2
      simp[hil,w0,hge,la,le,hib',hgt,wm,q1,q2,hline,hl0',hge3,List.length_map];refine qau E _ 431 113 (i:Int) (i:Int) (by omega) (by omega) ?_;simp[Lk.av,Rq.avs,Rq.zero,flds];exact qab (v0:=Lk.av ⟨5,(i:Int)+1,false,.zero,false,431,113,(i:Int)⟩) (v:=Lk.av ⟨5,(i:Int)+1,false,.zero,false,431,113,(i:Int)⟩) hB (by simp[Lk.av,Rq.avs,Rq.zero,flds]) (qaa _) (Lk.bnd ⟨5,(i:Int)+1,false,.zero,false,431,113,(i:Int)⟩ _) (fin ⟨5,(i:Int)+1,false,.zero,false,431,113,(i:Int)⟩ hb)
     ·rw[if_neg hful]at hS;have hge2:¬p0.lf<=(l.length:Int):=by omega
      have hge3:¬p0.lf<=(l.length:Int):=by simpa using hge2
      simp[hil,w0,hge,la,le,hib',hgt,wm,q1,q2,hline,hl0',hge3,List.length_map];refine qjL E _ _ line (by simp only[cap];omega) ?_;have hrg:=qjo line;have hls:=qlu (l:=line);obtain⟨nm,vl,pl,er,hLX⟩:∃nm vl pl er,qaO line=(⟨nm,vl⟩,pl,er):=⟨_,_,_,_,rfl⟩
      rw[hLX]at hS hrg hls⊢;simp only at hS hrg hls;by_cases hee:er=0
      ·subst hee;rw[if_neg (by simp)]at hS;have hls:=hls rfl;have hgo:=Fd.go hFd hc hn (show qbr _ .fields 10=_ from hS);rw[pI_nx p0 s fr0 i bg l ⟨nm,vl⟩ h1]at hgo;have hfs:flds l++[[.str nm,.str vl]]=flds (l++[⟨nm,vl⟩]):=by simp[flds]
       have hsn:=qgJ l ⟨nm,vl⟩;have m1:l.length+1<=maxLen:=by unfold maxLen;simp only[List.length_nil]at*;omega
       have m2:(l.length+1)*32<=140737488355328:=by simp only[List.length_nil]at*;omega
       simp[w1,m1,m2,hfs,List.length_map];exact Klz ⟨_,i+1,i+1,l++[⟨nm,vl⟩],_,by omega,by omega,by omega,by omega,by rw[hsn];simp only[zqK,zqL,List.length_nil]at*;omega,by simp only[zqK,zqL,List.length_nil]at*;omega,.inr rfl,hgo,by simp[flds];rfl,friz⟩
      ·rw[if_pos hee]at hS;have hee1:(er==0)=false:=by simpa using hee
       have hee2:(er !=0)=true:=by simpa using hee
       have wp:IntKind.i64.wrap ((bg:Int)+pl)=bg+pl:=wiz
       have hb:qaE (qaf q s).1=⟨5,(i:Int)+1,false,.zero,false,400,er,bg+pl⟩:=by
        rw[Fd.bad hFd hc hn (show qbr _ .fields 10=_ from hS),qbP];rfl
       simp[hee1,hee2,wp];refine qau E _ 400 er (i:Int) (bg+pl) (by omega) (by omega) ?_;simp[Lk.av,Rq.avs,Rq.zero,flds];exact qab (v0:=Lk.av ⟨5,(i:Int)+1,false,.zero,false,400,er,(bg+pl)⟩) (v:=Lk.av ⟨5,(i:Int)+1,false,.zero,false,400,er,(bg+pl)⟩) hB (by simp[Lk.av,Rq.avs,Rq.zero,flds]) (qaa _) (Lk.bnd ⟨5,(i:Int)+1,false,.zero,false,400,er,(bg+pl)⟩ _) (fin ⟨5,(i:Int)+1,false,.zero,false,400,er,(bg+pl)⟩ hb)
  ·have b3:=(qaw e 13 (by decide) 13 rfl h13').1;have b4:=(qaw e 13 (by decide) 13 rfl h13').2;rw[if_pos (by simpa using h13')]at hS;have hbad:=bad _ _ _ rfl hS;simp[hil,w0,hge,la,le,hib',hgt,wm,b3,b4];refine qau E _ 400 111 (i:Int) (i:Int) (by omega) (by omega) ?_;simp[Lk.av,Rq.avs,Rq.zero,flds];exact qab (v0:=Lk.av ⟨5,(i:Int)+1,false,.zero,false,400,111,(i:Int)⟩) (v:=Lk.av ⟨5,(i:Int)+1,false,.zero,false,400,111,(i:Int)⟩) hB (by simp[Lk.av,Rq.avs,Rq.zero,flds]) (qaa _) (Lk.bnd ⟨5,(i:Int)+1,false,.zero,false,400,111,(i:Int)⟩ _) (fin ⟨5,(i:Int)+1,false,.zero,false,400,111,(i:Int)⟩ hbad)
 ·have b1:=(qaw c 10 (by decide) 10 rfl hc10).1;have b2:=(qaw c 10 (by decide) 10 rfl hc10).2;by_cases h13':e=13
  ·subst h13';rw[if_pos (by simpa using hc10)]at hS;have hbad:=bad _ _ _ rfl hS;simp[hil,w0,hge,la,le,hib',hgt,wm,b1,b2];refine qau E _ 400 111 (i:Int) (i:Int) (by omega) (by omega) ?_;simp[Lk.av,Rq.avs,Rq.zero,flds];exact qab (v0:=Lk.av ⟨5,(i:Int)+1,false,.zero,false,400,111,(i:Int)⟩) (v:=Lk.av ⟨5,(i:Int)+1,false,.zero,false,400,111,(i:Int)⟩) hB (by simp[Lk.av,Rq.avs,Rq.zero,flds]) (qaa _) (Lk.bnd ⟨5,(i:Int)+1,false,.zero,false,400,111,(i:Int)⟩ _) (fin ⟨5,(i:Int)+1,false,.zero,false,400,111,(i:Int)⟩ hbad)
  ·have b3:=(qaw e 13 (by decide) 13 rfl h13').1;have b4:=(qaw e 13 (by decide) 13 rfl h13').2;rw[if_neg (fun h=>h (by rw[beq_eq_false_iff_ne.2 h13',beq_eq_false_iff_ne.2 hc10])),if_pos hc10]at hS;have hgo:=Fd.go hFd hc hn (show qbr _ .fields c=_ from hS);rw[qrz p0 s fr0 i bg l c hbi hc h1]at hgo;simp[hil,w0,hge,la,le,hib',hgt,wm,b1,b2,b3,b4,w1];exact Klz ⟨J,i+1,bg,l,z,hfb,by omega,by omega,by omega,by omega,hlc,hz,hgo,rfl,friz⟩
end
end Go.Proofs.YtnnhdehmlkkfjaaGreatDoor
set_option linter.unnecessarySimpa false
namespace Go.Proofs.YtnnhdehmlkkfjaaGreatDoor
open Go Go.RowKit Go.Proofs
section
variable (E:Env)(H:Hp)(Q:AV->Hp->Prop)
end
section
variable (E:Env)(H:Hp)(Q:AV->Hp->Prop)
end
@[simp] theorem bnd_ints {N:Nat} (l:List Int):(∀r∈ints l,∀x∈r,Bnd N x)=True:=eq_true fun r hr x hx=>by
 obtain⟨z,_,rfl⟩:=List.mem_map.1 hr;simp at hx;subst hx;exact .int _ _
section
variable (E:Env)(H:Hp)(Q:AV->Hp->Prop)
end
section
variable (E:Env)(H:Hp)(Q:AV->Hp->Prop)
end
end Go.Proofs.YtnnhdehmlkkfjaaGreatDoor
namespace Go.Proofs.YtnnhdehmlkkfjaaGreatDoor
open Go Go.RowKit Go.Proofs Go.Deep
section
variable (E:Env)(H:Hp)(Q:AV->Hp->Prop)
end
def Tabs(W : World) : Prop := qho W ∧ Tz W ∧ Lib.TabIs Tryz.prog W "internal/strconv.uint64pow10" .u64 Lib.pow10Tab
theorem tab_lt{W : World}(hT : Lib.TabIs Tryz.prog W "internal/strconv.uint64pow10" .u64 Lib.pow10Tab) : 1 < W.heap.size := by
 have:=hT;unfold Lib.TabIs World.var? at this;rw[qc8]at this;simp only[Option.bind_some]at this;by_cases h:1<W.heap.size
 ·exact h
 ·rw[Array.getElem?_eq_none (by omega)]at this;cases this
end Go.Proofs.YtnnhdehmlkkfjaaGreatDoor
namespace Go.Proofs.YtnnhdehmlkkfjaaGreatDoor
open Go Go.RowKit Go.Proofs
section
variable (E:Env)(H:Hp)(Q:AV->Hp->Prop)
end
end Go.Proofs.YtnnhdehmlkkfjaaGreatDoor
namespace Go.Proofs.YtnnhdehmlkkfjaaGreatDoor
open Go Go.RowKit
theorem tok1{c:UInt8}:tokB [c]=qap c:=by unfold tokB;simp
section
variable {lt lh lf lb:Int}
end
section
variable (E:Env){H:Hp}(Q:AV->Hp->Prop)
def qdL(p:Prs):Int:=if p.state=4 then 1 else if p.state=5 then 2 else 0
def qpJ(a b c d:Int)(s:List UInt8):AV:=if chkE a b c d=0 then
  .tup [(Rq.if (decide ((qaf (newP a b c d) s).1.state=4)) (qaf (newP a b c d) s).1.rq).av,.int .i64 (qaf (newP a b c d) s).2,fltV (qaf (newP a b c d) s).1,.int .i64 (qdL (qaf (newP a b c d) s).1)]
 else .tup [Rq.zero.av,.int .i64 0,.agg [.int .i64 0,.int .i64 (chkE a b c d),.int .i64 0],.int .i64 2]
theorem qo2{a b c d:Int}(h:chkE a b c d=0):(1<=a/\a<=65536)/\(2<=b/\b<=1048576)/\(0<=c/\c<=100)/\(0<=d/\d<=1073741824):=by
 unfold chkE at h;split at h
 ·assumption
 ·cases h
theorem qeX{a b c d:Int}(h:chkE a b c d=0):fitP 0 (newP a b c d):=by
 obtain⟨h1,h2,h3,h4⟩:=qo2 h;exact qqn h1 h2 h3 h4
theorem qkJ{a b c d:Int}(h:chkE a b c d=0)(s:List UInt8)(hs:s.length<=4194304)(h5:(qaf (newP a b c d) s).1.state≠5):fsz (qaf (newP a b c d) s).1.fields+(qaf (newP a b c d) s).1.fields.length<=4194304/\(qaf (newP a b c d) s).1.trailers.length<=4194304:=by
 have hf:=qgP s (newP a b c d) 0 (qeX h) h5;have:=hf.a;have:=hf.tr;have:=qcr (newP a b c d) s;omega
theorem qdl{P:Program}{rs:List ResultVar}{Q:AV->Hp->Prop}{fr:List AV}{H K:Hp}{v0 v:AV}(hB:BndH H.length H)(hle:H.length<=K.length)(hk:∀i,i<H.length->K[i]? =H[i]?)(h1:ares P fr K rs=some v0)(h2:nilV v0 v)(h5:Bnd H.length v)(h6:Q v H):qbU P rs H.length Q .ret fr K:=by
 obtain⟨J,rfl⟩:=qsq hle hk;exact qab hB h1 h2 h5 h6
theorem qi9(hE:PE E)(a b c d:Int)(s:List UInt8)(hs:s.length<=4194304)(hQ:Q (qpJ a b c d s) H):PC Tryz.prog E 12 [limV a b c d,.str s] H Q:=by
 refine PC.nilD ?_;refine qjc (fun i=>i=H.length+4) Tryz.func12 rfl [] [(9,[0,0,0,0,0,2,2])] (by kernel_rfl) (fun E' hS' h0' hF' hB=>?_);have hE':=hE.env h0' hF';unfold qpJ at hQ;simp[Tryz.ntmps12,Tryz.results12,List.replicate_succ,limV];refine qgv E' _ a b c d (fun h0 hBn=>?_) (fun h0=>?_)
 ·rw[if_pos h0]at hQ;simp;obtain⟨H3,hH3⟩:∃H3:Hp,H++[[AV.int .i64 a,AV.int .i64 b,AV.int .i64 c,AV.int .i64 d],[AV.str [],AV.str [],AV.int .i64 0,AV.int .i64 0,AV.nil,AV.str [],AV.nil],[AV.int .i64 0,AV.int .i64 0,AV.int .i64 0]]=H3:=⟨_,rfl⟩
  have hl3:H3.length=H.length+3:=by rw[<-hH3];simp
  have hpb:=nwH_pb H3 a b c d;rw[hH3];rw[show H3.length+1=H.length+4 by omega]at hpb;have hfl:=qcr (newP a b c d) s;refine qeT E' _ hpb (fun _=>qeX h0) (fun E2 h02 hF2=>qjI E2 (hE'.env h02 hF2)) s (by omega) (by omega) (fun j1 K1 hp1 hj1 ho1 hB1=>?_);have hfit:=qkJ h0 s hs;obtain⟨P,hP⟩:=exz ((qaf (newP a b c d) s).1);obtain⟨N,hN⟩:=exz ((qaf (newP a b c d) s).2);rw[hP]at hp1 hfit;rw[hP,hN]at hQ;rw[hN];have hlen:H.length+5<=K1.length:=by have:=ho1.1;unfold nwH at this;simp at this;omega
  have hold:∀i,i<H.length+3->K1[i]? =H3[i]? :=fun i hi=>by
   rw[ho1.2 i (by unfold nwH;simp;omega) (by omega) (fun h=>by cases h)];unfold nwH;rw[zqA (by omega)]
  have k1:K1[H.length+1]? =some [AV.str [],AV.str [],AV.int .i64 0,AV.int .i64 0,AV.nil,AV.str [],AV.nil]:=by rw[hold _ (by omega),<-hH3,zqB (by omega)];simp
  have k2:K1[H.length+2]? =some [AV.int .i64 0,AV.int .i64 0,AV.int .i64 0]:=by rw[hold _ (by omega),<-hH3,zqB (by omega)];simp
  have kH:∀i,i<H.length->K1[i]? =H[i]? :=fun i hi=>by rw[hold i (by omega),<-hH3,zqA hi]
  have hrow:=hp1.row;simp[Prs.av]at hrow;have e1:H.length+1<K1.length:=by omega
  have e2:H.length+2<K1.length:=by omega
  have u1:∀x,(K1.set (H.length+1) x)[H.length+2]? =some [AV.int .i64 0,AV.int .i64 0,AV.int .i64 0]:=fun x=>by rw[zqF (by omega)];exact k2
  have u2:∀x,(K1.set (H.length+1) x)[H.length+4]? =K1[H.length+4]? :=fun x=>zqF (by omega);have u3:∀x y,((K1.set (H.length+1) x).set (H.length+2) y)[H.length+1]? =some x:=fun x y=>by rw[zqF (by omega),zqO e1]
  have u4:∀x y,((K1.set (H.length+1) x).set (H.length+2) y)[H.length+2]? =some y:=fun x y=>zqO (by simpa using e2);have kK:∀x y i,i<H.length->((K1.set (H.length+1) x).set (H.length+2) y)[i]? =H[i]? :=fun x y i hi=>by rw[zqF (by omega),zqF (by omega)];exact kH i hi
  by_cases h4:P.state=4
  ·have hk:qdL P=1:=by unfold qdL;rw[if_pos h4]
   have hd:decide (P.state=4)=true:=by simpa using h4
   have hf5:P.state≠5:=by omega
   have hfv:fltV P= .agg [.int .i64 0,.int .i64 0,.int .i64 0]:=by unfold fltV;rw[if_neg hf5]
   have hrq:Rq.if true P.rq=P.rq:=rfl;rw[hk,hd,hfv,hrq]at hQ;have:=hfit hf5;simp[qal,KP,hrow,h4];refine qfb E' _ P.rq (by show P.fields.length<=_;omega) (by show P.trailers.length<=_;omega) ?_;simp[Rq.av,Rq.avs,k1,k2,u1,u2,u3,u4];exact qdl hB (v0:= .tup [P.rq.av,.int .i64 N,.agg [.int .i64 0,.int .i64 0,.int .i64 0],.int .i64 1]) (v:= .tup [P.rq.av,.int .i64 N,.agg [.int .i64 0,.int .i64 0,.int .i64 0],.int .i64 1]) (by simp;omega) (kK _ _) (by simp[Rq.av,Rq.avs,u3,u4]) (qaa _) (by simp[Rq.av,Rq.avs,qbZ]) ⟨_,.same _,hQ⟩
  ·have hd:decide (P.state=4)=false:=by simpa using h4
   have h4':(P.state==4)=false:=by simpa using h4
   have hrq:Rq.if false P.rq= .zero:=rfl;rw[hd,hrq]at hQ;by_cases h5:P.state=5
   ·have hk:qdL P=2:=by unfold qdL;rw[if_neg h4,if_pos h5]
    have hfv:fltV P= .agg [.int .i64 P.fst_,.int .i64 P.ferr,.int .i64 P.fat]:=by unfold fltV;rw[if_pos h5]
    rw[hk,hfv]at hQ;simp[qal,KP,hrow,h5,hS',k1,k2,u1,u2,u3,u4]
    exact qdl hB (v0:= .tup [.agg [.str [],.str [],.int .i64 0,.int .i64 0,.nil,.str [],.nil],.int .i64 N,.agg [.int .i64 P.fst_,.int .i64 P.ferr,.int .i64 P.fat],.int .i64 2]) (v:= .tup [.agg [.str [],.str [],.int .i64 0,.int .i64 0,.nil,.str [],.nil],.int .i64 N,.agg [.int .i64 P.fst_,.int .i64 P.ferr,.int .i64 P.fat],.int .i64 2]) (by simp;omega) (kK _ _) (by simp[u3,u4]) (qaa _) (by simp)
     ⟨.tup [Rq.zero.av,.int .i64 N,.agg [.int .i64 P.fst_,.int .i64 P.ferr,.int .i64 P.fat],.int .i64 2],qdI (m:=[Rq.zero.av,.int .i64 N,.agg [.int .i64 P.fst_,.int .i64 P.ferr,.int .i64 P.fat],.int .i64 2]) ⟨qaP (Rq.nil [] [] [] 0 0),.same _,.same _,.same _,trivial⟩,hQ⟩
   ·have hk:qdL P=0:=by unfold qdL;rw[if_neg h4,if_neg h5]
    have hfv:fltV P= .agg [.int .i64 0,.int .i64 0,.int .i64 0]:=by unfold fltV;rw[if_neg h5]
    have h5':(P.state==5)=false:=by simpa using h5
    rw[hk,hfv]at hQ;simp[qal,KP,hrow,h4',h5',k1,k2,u1,u2,u3,u4]
    exact qdl hB (v0:= .tup [.agg [.str [],.str [],.int .i64 0,.int .i64 0,.nil,.str [],.nil],.int .i64 N,.agg [.int .i64 0,.int .i64 0,.int .i64 0],.int .i64 0]) (v:= .tup [.agg [.str [],.str [],.int .i64 0,.int .i64 0,.nil,.str [],.nil],.int .i64 N,.agg [.int .i64 0,.int .i64 0,.int .i64 0],.int .i64 0]) (by simp;omega) (kK _ _) (by simp[u3,u4]) (qaa _) (by simp)
     ⟨.tup [Rq.zero.av,.int .i64 N,.agg [.int .i64 0,.int .i64 0,.int .i64 0],.int .i64 0],qdI (m:=[Rq.zero.av,.int .i64 N,.agg [.int .i64 0,.int .i64 0,.int .i64 0],.int .i64 0]) ⟨qaP (Rq.nil [] [] [] 0 0),.same _,.same _,.same _,trivial⟩,hQ⟩
 ·rw[if_neg h0]at hQ;have h':(chkE a b c d==0)=false:=by simpa using h0
  have h2:(chkE a b c d !=0)=true:=by simpa using h0
  simp[h',h2]
  exact qab hB (v0:= .tup [.agg [.str [],.str [],.int .i64 0,.int .i64 0,.nil,.str [],.nil],.int .i64 0,.agg [.int .i64 0,.int .i64 (chkE a b c d),.int .i64 0],.int .i64 2]) (v:= .tup [.agg [.str [],.str [],.int .i64 0,.int .i64 0,.nil,.str [],.nil],.int .i64 0,.agg [.int .i64 0,.int .i64 (chkE a b c d),.int .i64 0],.int .i64 2]) (by simp) (qaa _) (by simp)
   ⟨.tup [Rq.zero.av,.int .i64 0,.agg [.int .i64 0,.int .i64 (chkE a b c d),.int .i64 0],.int .i64 2],qdI (m:=[Rq.zero.av,.int .i64 0,.agg [.int .i64 0,.int .i64 (chkE a b c d),.int .i64 0],.int .i64 2]) ⟨qaP (Rq.nil [] [] [] 0 0),.same _,.same _,.same _,trivial⟩,hQ⟩
end
def nwU(a b c d:Int)(i:Nat):Prs:={newP a b c d with used:=i}
def pM(a b c d:Int)(s:List UInt8)(f i:Nat):Prs:={newP a b c d with used:=i,state:=1,nx:=some .method,text:=(s.drop f).take (i-f)}
def pMs(a b c d:Int)(s:List UInt8)(f i:Nat):Prs:=if i=f then nwU a b c d f else pM a b c d s f i
def mX(a b c d:Int)(s:List UInt8)(f i:Nat):Prs:={pM a b c d s f i with nx:=(if i=f then some .start else some .method)}
def pT(a b c d:Int)(s:List UInt8)(M:List UInt8)(f i:Nat):Prs:={newP a b c d with used:=i,state:=1,nx:=some .target,meth:=M,text:=(s.drop f).take (i-f)}
def pL(a b c d:Int)(s:List UInt8)(M T:List UInt8)(f k:Nat):Prs:={newP a b c d with used:=((f+k:Nat):Int),state:=1,nx:=some .line,meth:=M,targ:=T,text:=(s.drop f).take k}
def pF0(a b c d:Int)(M T:List UInt8)(mj mn:Int)(f:Nat):Prs:={newP a b c d with used:=((f+10:Nat):Int),state:=2,nx:=some .fields,meth:=M,targ:=T,major:=mj,minor:=mn,begin_:=((f+10:Nat):Int)}
theorem qj8(s:List UInt8)(f i:Nat)(c:UInt8)(h:f<=i)(hc:s[i]? =some c):(s.drop f).take (i+1-f)=(s.drop f).take (i-f)++[c]:=by
 rw[show i+1-f=(i-f)+1 by omega,List.take_add_one,zqN,show f+(i-f)=i by omega,hc];rfl
theorem qiA(s:List UInt8)(f i:Nat)(h:f<=i)(hi:i<=s.length):((s.drop f).take (i-f)).length=i-f:=by
 rw[zqJ,zqI];omega
theorem qoZ(s:List UInt8)(f i:Nat)(h:f<i)(hi:i<=s.length):(s.drop f).take (i-f)≠[]:=fun e=>by
 have:=qiA s f i (by omega) hi;rw[e]at this;simp at this;omega
theorem qp7(p:Prs):qbr p .start 13= .go p (some .startEnd):=by
 show qcC p 13=_;unfold qcC;rw[if_pos rfl]
theorem qkc(p:Prs):qbr p .startEnd 10= .go p (some .start):=by
 show qa6 p 10=_;unfold qa6;rw[if_neg (by decide)]
theorem qmc(p:Prs)(x:UInt8)(h:x≠10):qbr p .startEnd x= .bad p 400 111 p.used:=by
 show qa6 p x=_;unfold qa6 qao;rw[if_pos h]
section
variable {q:Prs}{a b c d:Int}{s:List UInt8}{f i:Nat}{x:UInt8}
theorem qsR(h:Fd q s (nwU a b c d i) i)(hc:s[i]? =some 13):Fd q s (adv (nwU a b c d i) (some .startEnd)) (i+1):=Fd.go h hc rfl (qp7 _)
theorem qsQ(h:Fd q s (nwU a b c d i) i)(hc:s[i]? =some 13)(hd:s[i+1]? =some 10):Fd q s (nwU a b c d (i+2)) (i+2):=by
 have h2:=Fd.go (qsR h hc) hd rfl (qkc _);have e:adv (adv (nwU a b c d i) (some .startEnd)) (some .start)=nwU a b c d (i+2):=by simp[adv,nwU,newP];omega
 rwa[e]at h2
theorem fd_crx(h:Fd q s (nwU a b c d i) i)(hc:s[i]? =some 13)(hd:s[i+1]? =some x)(hx:x≠10):qaE (qaf q s).1=⟨5,((i+1:Nat):Int)+1,false,.zero,false,400,111,((i+1:Nat):Int)⟩:=by
 rw[Fd.bad (qsR h hc) hd rfl (qmc _ x hx),qbP];rfl
theorem fd_cr(h:Fd q s (nwU a b c d i) i)(hc:s[i]? =some 13)(he:i+1=s.length):qaE (qaf q s).1=⟨0,s.length,false,.zero,false,0,0,0⟩:=by
 have h1:=qsR h hc;rw[he]at h1;rw[Fd.fin h1];simp only[qaE,adv,nwU,newP];simp;omega
theorem fd_0(h:Fd q s (nwU a b c d s.length) s.length):qaE (qaf q s).1=⟨0,s.length,false,.zero,false,0,0,0⟩:=by
 rw[Fd.fin h];simp[qaE,nwU,newP]
theorem step_m(hf:f<=i)(h13:i=f->x≠13):qbr (pMs a b c d s f i) (if i=f then .start else .method) x=qbz (mX a b c d s f i) x:=by
 unfold pMs mX;by_cases h:i=f
 ·subst h;simp only[if_true];show qcC _ x=_;unfold qcC;rw[if_neg (h13 rfl)];congr 1;unfold nwU pM;simp[newP]
 ·simp only[if_neg h];rfl
theorem pMs_nx:(pMs a b c d s f i).nx=some (if i=f then .start else .method):=by
 unfold pMs;split<;>rfl
theorem qsB:(mX a b c d s f i).text=(s.drop f).take (i-f):=rfl
theorem qsO(h:Fd q s (pMs a b c d s f s.length) s.length)(hf:f<s.length):qaE (qaf q s).1=⟨1,s.length,false,.zero,false,0,0,0⟩:=by
 rw[Fd.fin h];unfold pMs;rw[if_neg (by omega)];simp[qaE,pM,newP]
theorem fd_m(h:Fd q s (pMs a b c d s f i) i)(hc:s[i]? =some x)(hf:f<=i)(hi:i<=s.length)(h13:i=f->x≠13):
  (qap x=true->i-f=24->qaE (qaf q s).1=⟨5,(i:Int)+1,false,.zero,false,501,110,i⟩)/\
  (qap x=true->i-f≠24->Fd q s (pMs a b c d s f (i+1)) (i+1))/\
  (qap x=false->x=32->f<i->Fd q s (pT a b c d s ((s.drop f).take (i-f)) (i+1) (i+1)) (i+1))/\
  (qap x=false->¬(x=32/\f<i)->qaE (qaf q s).1=⟨5,(i:Int)+1,false,.zero,false,400,110,i⟩):=by
 have hn:=pMs_nx (a:=a) (b:=b) (c:=c) (d:=d) (s:=s) (f:=f) (i:=i);have hs:=step_m (a:=a) (b:=b) (c:=c) (d:=d) (s:=s) hf h13;have hl:=qiA s f i hf hi;unfold qbz at hs;rw[tok1,qsB,hl]at hs;obtain⟨md,hmd⟩:=exz ((if i=f then Md.start else Md.method));rw[hmd]at hn hs;refine⟨fun h1 h2=>?_,fun h1 h2=>?_,fun h1 h2 h3=>?_,fun h1 h2=>?_⟩
 ·rw[if_pos h1,if_pos h2]at hs;unfold qao at hs;rw[Fd.bad h hc hn hs,qbP];rfl
 ·rw[if_pos h1,if_neg h2]at hs;have hg:=Fd.go h hc hn hs
  have e:adv {mX a b c d s f i with text:=(s.drop f).take (i-f)++[x]} (some .method)=pMs a b c d s f (i+1):=by
   unfold pMs;rw[if_neg (by omega),<-qj8 s f i x hf hc];simp[adv,mX,pM]
  rwa[e]at hg
 ·rw[if_neg (by rw[h1];simp),if_pos ⟨h2,qoZ s f i h3 hi⟩]at hs;have hg:=Fd.go h hc hn hs
  have e:adv {mX a b c d s f i with meth:=(s.drop f).take (i-f),text:=[]} (some .target)=pT a b c d s ((s.drop f).take (i-f)) (i+1) (i+1):=by
   simp[adv,mX,pM,pT]
  rwa[e]at hg
 ·rw[if_neg (by rw[h1];simp),if_neg (fun e=>h2 ⟨e.1,by
   rcases Nat.lt_or_ge f i with h|h
   ·exact h
   ·exact absurd (by rw[show i-f=0 by omega];rfl) e.2⟩)]at hs
  unfold qao at hs;rw[Fd.bad h hc hn hs,qbP];rfl
theorem qsN{M:List UInt8}(h:Fd q s (pT a b c d s M f s.length) s.length):qaE (qaf q s).1=⟨1,s.length,false,.zero,false,0,0,0⟩:=by
 rw[Fd.fin h];simp[qaE,pT,newP]
theorem fd_t{M:List UInt8}(h:Fd q s (pT a b c d s M f i) i)(hc:s[i]? =some x)(hf:f<=i)(hi:i<=s.length):
  (33<=x.toNat/\x.toNat<=126->((i-f:Nat):Int)=a->qaE (qaf q s).1=⟨5,(i:Int)+1,false,.zero,false,414,112,i⟩)/\
  (33<=x.toNat/\x.toNat<=126->((i-f:Nat):Int)≠a->Fd q s (pT a b c d s M f (i+1)) (i+1))/\
  (¬(33<=x.toNat/\x.toNat<=126)->x=32->f<i->Fd q s (pL a b c d s M ((s.drop f).take (i-f)) (i+1) 0) (i+1))/\
  (¬(33<=x.toNat/\x.toNat<=126)->¬(x=32/\f<i)->qaE (qaf q s).1=⟨5,(i:Int)+1,false,.zero,false,400,111,i⟩):=by
 have hn:(pT a b c d s M f i).nx=some .target:=rfl;have hs:qbr (pT a b c d s M f i) .target x=qb3 (pT a b c d s M f i) x:=rfl;have hl:=qiA s f i hf hi;have ht:(pT a b c d s M f i).text=(s.drop f).take (i-f):=rfl;unfold qb3 at hs;rw[ht,hl]at hs;refine⟨fun h1 h2=>?_,fun h1 h2=>?_,fun h1 h2 h3=>?_,fun h1 h2=>?_⟩
 ·rw[if_pos h1,if_pos (show((i-f:Nat):Int)=(pT a b c d s M f i).lt from h2)]at hs;unfold qao at hs;rw[Fd.bad h hc hn hs,qbP];rfl
 ·rw[if_pos h1,if_neg (show ¬((i-f:Nat):Int)=(pT a b c d s M f i).lt from h2)]at hs;have hg:=Fd.go h hc hn hs
  have e:adv {pT a b c d s M f i with text:=(s.drop f).take (i-f)++[x]} (some .target)=pT a b c d s M f (i+1):=by
   rw[<-qj8 s f i x hf hc];simp[adv,pT]
  rwa[e]at hg
 ·rw[if_neg h1,if_pos ⟨h2,qoZ s f i h3 hi⟩]at hs;have hg:=Fd.go h hc hn hs
  have e:adv {pT a b c d s M f i with targ:=(s.drop f).take (i-f),text:=[]} (some .line)=pL a b c d s M ((s.drop f).take (i-f)) (i+1) 0:=by
   simp[adv,pT,pL]
  rwa[e]at hg
 ·rw[if_neg h1,if_neg (fun e=>h2 ⟨e.1,by
   rcases Nat.lt_or_ge f i with h|h
   ·exact h
   ·exact absurd (by rw[show i-f=0 by omega];rfl) e.2⟩)]at hs
  unfold qao at hs;rw[Fd.bad h hc hn hs,qbP];rfl
theorem qsP{M T:List UInt8}{k:Nat}(h:Fd q s (pL a b c d s M T f k) s.length)(hk:f+k=s.length):qaE (qaf q s).1=⟨1,s.length,false,.zero,false,0,0,0⟩:=by
 rw[Fd.fin h];simp[qaE,pL,newP];omega
theorem fd_l{M T:List UInt8}{k:Nat}(h:Fd q s (pL a b c d s M T f k) (f+k))(hc:s[f+k]? =some x)(hk:k<=9):
  (qaJ k x=false->qaE (qaf q s).1=⟨5,((f+k:Nat):Int)+1,false,.zero,false,400,111,((f+k:Nat):Int)⟩)/\
  (qaJ k x=true->k<9->Fd q s (pL a b c d s M T f (k+1)) (f+(k+1)))/\
  (∀mj mn y z,qaJ k x=true->k=9->s[f+5]? =some y->s[f+7]? =some z->(y.toNat:Int)-48=mj->(z.toNat:Int)-48=mn->
   (mj≠1\/1<mn->qaE (qaf q s).1=⟨5,((f+9:Nat):Int)+1,false,.zero,false,505,117,((f+9:Nat):Int)⟩)/\
   (¬(mj≠1\/1<mn)->tgtE M T≠0->qaE (qaf q s).1=⟨5,((f+9:Nat):Int)+1,false,.zero,false,400,tgtE M T,((f+9:Nat):Int)⟩)/\
   (¬(mj≠1\/1<mn)->tgtE M T=0->Fd q s (pF0 a b c d M T mj mn f) (f+10))):=by
 have hn:(pL a b c d s M T f k).nx=some .line:=rfl;have hs:qbr (pL a b c d s M T f k) .line x=qcd (pL a b c d s M T f k) x:=rfl;have hlt:f+k<s.length:=(zqC.1 hc).1;have hl:((s.drop f).take k).length=k:=by rw[zqJ,zqI];omega
 have ht:(pL a b c d s M T f k).text=(s.drop f).take k:=rfl;have hu:(pL a b c d s M T f k).used=((f+k:Nat):Int):=rfl;unfold qcd at hs;simp only[ht,hl]at hs;refine⟨fun h1=>?_,fun h1 h2=>?_,fun mj mn y z h1 h2 hy hz hmj hmn=>?_⟩
 ·rw[if_pos h1]at hs;unfold qao at hs;rw[Fd.bad h hc hn hs,qbP];rfl
 ·rw[if_neg (by rw[h1];simp),if_pos h2]at hs;have hg:=Fd.go h hc hn hs
  have e:adv {pL a b c d s M T f k with text:=(s.drop f).take k++[x]} (some .line)=pL a b c d s M T f (k+1):=by
   have:=qj8 s f (f+k) x (by omega) hc;rw[show f+k+1-f=k+1 by omega,show f+k-f=k by omega]at this;rw[<-this];simp[adv,pL];omega
  rwa[e]at hg
 ·subst h2;rw[if_neg (by rw[h1];simp),if_neg (by omega)]at hs;have g5:((s.drop f).take 9).getD 5 0=y:=by rw[List.getD_eq_getElem?_getD,zqG (by omega),zqN,hy];rfl
  have g7:((s.drop f).take 9).getD 7 0=z:=by rw[List.getD_eq_getElem?_getD,zqG (by omega),zqN,hz];rfl
  rw[g5,g7,hmj,hmn]at hs;refine⟨fun h3=>?_,fun h3 h4=>?_,fun h3 h4=>?_⟩
  ·rw[if_pos h3]at hs;unfold qao at hs;rw[Fd.bad h hc hn hs,qbP];rfl
  ·rw[if_neg h3]at hs;have h4':tgtE (pL a b c d s M T f 9).meth (pL a b c d s M T f 9).targ≠0:=h4;rw[if_pos h4']at hs;unfold qao at hs;rw[Fd.bad h hc hn hs,qbP];rfl
  ·rw[if_neg h3]at hs;have h4':¬tgtE (pL a b c d s M T f 9).meth (pL a b c d s M T f 9).targ≠0:=fun e=>e h4;rw[if_neg h4']at hs;have hg:=Fd.go h hc hn hs
   have e:adv {({pL a b c d s M T f 9 with text:=[],major:=mj,minor:=mn}:Prs)with state:=2,begin_:=(pL a b c d s M T f 9).used+1} (some .fields)=pF0 a b c d M T mj mn f:=by
    have hu9:(pL a b c d s M T f 9).used+1=((f+10:Nat):Int):=by rw[hu];omega
    unfold adv;simp only[hu9];rfl
   rw[show f+9+1=f+10 by omega]at hg;rwa[e]at hg
end
section
open Go.Lib
variable (E:Env){H:Hp}(Q:AV->Hp->Prop)
def daI1(q:Prs)(a b c d:Int)(s:List UInt8)(H:Hp)(fr:List AV)(K:Hp):Prop:=∃i:Nat,i<=s.length/\Fd q s (nwU a b c d i) i/\K=H++[[.int .i64 a,.int .i64 b,.int .i64 c,.int .i64 d],[.int .i64 0,.int .i64 0,.bool false,.str [],.str [],.int .i64 0,.int .i64 0,.nil,.str [],.nil,.bool false,.int .i64 0,.int .i64 0,.int .i64 0]]/\
 ∃x:Nat->AV,fr=[x 0,.str s,.ptr (some (H.length,0)),x 3,.ptr (some (H.length+1,0)),.int .i64 (i:Int),x 6,x 7,x 8,x 9,x 10,x 11,x 12,x 13,x 14,x 15,x 16,x 17,x 18,x 19,x 20,x 21,x 22,x 23,x 24,x 25,x 26,x 27,x 28,x 29,x 30,x 31,x 32,x 33,x 34,x 35,x 36,x 37,x 38,x 39,x 40,x 41,x 42,x 43,x 44,x 45,x 46,x 47,x 48,x 49,x 50,x 51,x 52,x 53,x 54,x 55,x 56,x 57,x 58,x 59,x 60,x 61,x 62,x 63,x 64,x 65,x 66,x 67,x 68,x 69,x 70,x 71,x 72,x 73,x 74,x 75,x 76,x 77,x 78,x 79,x 80,x 81,x 82,x 83,x 84,x 85,x 86,x 87,x 88,x 89,x 90,x 91,x 92,x 93,x 94,x 95,x 96,x 97,x 98,x 99,x 100,x 101,x 102,x 103,x 104,x 105,x 106,x 107,x 108,x 109,x 110,x 111,x 112,x 113,x 114,x 115,x 116,x 117,x 118,x 119,x 120,x 121,x 122,x 123,x 124,x 125,x 126,x 127,x 128,x 129,x 130,x 131,x 132,x 133,x 134,x 135,x 136,x 137,x 138,x 139,x 140,x 141,x 142,x 143,x 144,x 145,x 146,x 147,x 148,x 149,x 150,x 151,x 152,x 153,x 154,x 155,x 156,x 157,x 158,x 159,x 160,x 161,x 162,x 163,x 164,x 165,x 166,x 167,x 168,x 169,x 170,x 171,x 172,x 173,x 174,x 175,x 176,x 177,x 178,x 179,x 180,x 181,x 182,x 183,x 184,x 185,x 186,x 187,x 188,x 189,x 190,x 191,x 192,x 193,x 194,x 195,x 196,x 197,x 198,x 199,x 200,x 201,x 202,x 203,x 204,x 205]
def daI2(q:Prs)(a b c d:Int)(s:List UInt8)(f:Nat)(H:Hp)(fr:List AV)(K:Hp):Prop:=∃i:Nat,f<=i/\i<=s.length/\i-f<=24/\Fd q s (pMs a b c d s f i) i/\K=H++[[.int .i64 a,.int .i64 b,.int .i64 c,.int .i64 d],[.int .i64 0,.int .i64 0,.bool false,.str [],.str [],.int .i64 0,.int .i64 0,.nil,.str [],.nil,.bool false,.int .i64 0,.int .i64 0,.int .i64 0],[.str [],.str [],.int .i64 0,.int .i64 0,.nil,.str [],.nil]]/\
 ∃x:Nat->AV,fr=[x 0,.str s,.ptr (some (H.length,0)),x 3,.ptr (some (H.length+1,0)),.int .i64 (i:Int),.ptr (some (H.length+2,0)),.int .i64 (f:Int),x 8,x 9,x 10,x 11,x 12,x 13,x 14,x 15,x 16,x 17,x 18,x 19,x 20,x 21,x 22,x 23,x 24,x 25,x 26,x 27,x 28,x 29,x 30,x 31,x 32,x 33,x 34,x 35,x 36,x 37,x 38,x 39,x 40,x 41,x 42,x 43,x 44,x 45,x 46,x 47,x 48,x 49,x 50,x 51,x 52,x 53,x 54,x 55,x 56,x 57,x 58,x 59,x 60,x 61,x 62,x 63,x 64,x 65,x 66,x 67,x 68,x 69,x 70,x 71,x 72,x 73,x 74,x 75,x 76,x 77,x 78,x 79,x 80,x 81,x 82,x 83,x 84,x 85,x 86,x 87,x 88,x 89,x 90,x 91,x 92,x 93,x 94,x 95,x 96,x 97,x 98,x 99,x 100,x 101,x 102,x 103,x 104,x 105,x 106,x 107,x 108,x 109,x 110,x 111,x 112,x 113,x 114,x 115,x 116,x 117,x 118,x 119,x 120,x 121,x 122,x 123,x 124,x 125,x 126,x 127,x 128,x 129,x 130,x 131,x 132,x 133,x 134,x 135,x 136,x 137,x 138,x 139,x 140,x 141,x 142,x 143,x 144,x 145,x 146,x 147,x 148,x 149,x 150,x 151,x 152,x 153,x 154,x 155,x 156,x 157,x 158,x 159,x 160,x 161,x 162,x 163,x 164,x 165,x 166,x 167,x 168,x 169,x 170,x 171,x 172,x 173,x 174,x 175,x 176,x 177,x 178,x 179,x 180,x 181,x 182,x 183,x 184,x 185,x 186,x 187,x 188,x 189,x 190,x 191,x 192,x 193,x 194,x 195,x 196,x 197,x 198,x 199,x 200,x 201,x 202,x 203,x 204,x 205]
def daI3(q:Prs)(a b c d:Int)(s M:List UInt8)(f:Nat)(H:Hp)(fr:List AV)(K:Hp):Prop:=∃i:Nat,f<=i/\i<=s.length/\((i-f:Nat):Int)<=a/\Fd q s (pT a b c d s M f i) i/\K=H++[[.int .i64 a,.int .i64 b,.int .i64 c,.int .i64 d],[.int .i64 0,.int .i64 0,.bool false,.str [],.str [],.int .i64 0,.int .i64 0,.nil,.str [],.nil,.bool false,.int .i64 0,.int .i64 0,.int .i64 0],[.str M,.str [],.int .i64 0,.int .i64 0,.nil,.str [],.nil]]/\
 ∃x:Nat->AV,fr=[x 0,.str s,.ptr (some (H.length,0)),x 3,.ptr (some (H.length+1,0)),.int .i64 (i:Int),.ptr (some (H.length+2,0)),.int .i64 (f:Int),x 8,x 9,x 10,x 11,x 12,x 13,x 14,x 15,x 16,x 17,x 18,x 19,x 20,x 21,x 22,x 23,x 24,x 25,x 26,x 27,x 28,x 29,x 30,x 31,x 32,x 33,x 34,x 35,x 36,x 37,x 38,x 39,x 40,x 41,x 42,x 43,x 44,x 45,x 46,x 47,x 48,x 49,x 50,x 51,x 52,x 53,x 54,x 55,x 56,x 57,x 58,x 59,x 60,x 61,x 62,x 63,x 64,x 65,x 66,x 67,x 68,x 69,x 70,x 71,x 72,x 73,x 74,x 75,x 76,x 77,x 78,x 79,x 80,x 81,x 82,x 83,x 84,x 85,x 86,x 87,x 88,x 89,x 90,x 91,x 92,x 93,x 94,x 95,x 96,x 97,x 98,x 99,x 100,x 101,x 102,x 103,x 104,x 105,x 106,x 107,x 108,x 109,x 110,x 111,x 112,x 113,x 114,x 115,x 116,x 117,x 118,x 119,x 120,x 121,x 122,x 123,x 124,x 125,x 126,x 127,x 128,x 129,x 130,x 131,x 132,x 133,x 134,x 135,x 136,x 137,x 138,x 139,x 140,x 141,x 142,x 143,x 144,x 145,x 146,x 147,x 148,x 149,x 150,x 151,x 152,x 153,x 154,x 155,x 156,x 157,x 158,x 159,x 160,x 161,x 162,x 163,x 164,x 165,x 166,x 167,x 168,x 169,x 170,x 171,x 172,x 173,x 174,x 175,x 176,x 177,x 178,x 179,x 180,x 181,x 182,x 183,x 184,x 185,x 186,x 187,x 188,x 189,x 190,x 191,x 192,x 193,x 194,x 195,x 196,x 197,x 198,x 199,x 200,x 201,x 202,x 203,x 204,x 205]
def daI4(q:Prs)(a b c d:Int)(s M T:List UInt8)(f:Nat)(H:Hp)(fr:List AV)(K:Hp):Prop:=∃k m:Nat,k<=10/\(k<=9->m=k)/\m<=9/\f+k<=s.length/\Fd q s (pL a b c d s M T f m) (f+m)/\(k=10->m=9)/\(∀j,j<k->∃x,s[f+j]? =some x/\qaJ j x=true)/\K=H++[[.int .i64 a,.int .i64 b,.int .i64 c,.int .i64 d],[.int .i64 0,.int .i64 0,.bool false,.str [],.str [],.int .i64 0,.int .i64 0,.nil,.str [],.nil,.bool false,.int .i64 0,.int .i64 0,.int .i64 0],[.str M,.str T,.int .i64 0,.int .i64 0,.nil,.str [],.nil]]/\
 ∃x:Nat->AV,fr=[x 0,.str s,.ptr (some (H.length,0)),x 3,.ptr (some (H.length+1,0)),.int .i64 ((f+k:Nat):Int),.ptr (some (H.length+2,0)),.int .i64 (f:Int),.int .i64 (k:Int),x 9,x 10,x 11,x 12,x 13,x 14,x 15,x 16,x 17,x 18,x 19,x 20,x 21,x 22,x 23,x 24,x 25,x 26,x 27,x 28,x 29,x 30,x 31,x 32,x 33,x 34,x 35,x 36,x 37,x 38,x 39,x 40,x 41,x 42,x 43,x 44,x 45,x 46,x 47,x 48,x 49,x 50,x 51,x 52,x 53,x 54,x 55,x 56,x 57,x 58,x 59,x 60,x 61,x 62,x 63,x 64,x 65,x 66,x 67,x 68,x 69,x 70,x 71,x 72,x 73,x 74,x 75,x 76,x 77,x 78,x 79,x 80,x 81,x 82,x 83,x 84,x 85,x 86,x 87,x 88,x 89,x 90,x 91,x 92,x 93,x 94,x 95,x 96,x 97,x 98,x 99,x 100,x 101,x 102,x 103,x 104,x 105,x 106,x 107,x 108,x 109,x 110,x 111,x 112,x 113,x 114,x 115,x 116,x 117,x 118,x 119,x 120,x 121,x 122,x 123,x 124,x 125,x 126,x 127,x 128,x 129,x 130,x 131,x 132,x 133,x 134,x 135,x 136,x 137,x 138,x 139,x 140,x 141,x 142,x 143,x 144,x 145,x 146,x 147,x 148,x 149,x 150,x 151,x 152,x 153,x 154,x 155,x 156,x 157,x 158,x 159,x 160,x 161,x 162,x 163,x 164,x 165,x 166,x 167,x 168,x 169,x 170,x 171,x 172,x 173,x 174,x 175,x 176,x 177,x 178,x 179,x 180,x 181,x 182,x 183,x 184,x 185,x 186,x 187,x 188,x 189,x 190,x 191,x 192,x 193,x 194,x 195,x 196,x 197,x 198,x 199,x 200,x 201,x 202,x 203,x 204,x 205]
theorem wrap8{z:Int}(h1:0<=z)(h2:z<=255):IntKind.u8.wrap z=z:=by rw[IntKind.wrap_u8];omega
theorem qoO{k:Nat}{x:UInt8}(hk:k=5\/k=7)(h:qaJ k x=true):48<=x.toNat/\x.toNat<=57:=by
 rcases hk with rfl|rfl<;>simpa[qaJ]using h
theorem qfR(a b c d:Int)(h0:chkE a b c d=0)(s:List UInt8)(hl:s.length<=4194304)(hQ:Q (qaE (qaf (newP a b c d) s).1).av H):
  PC Tryz.prog E 31 [limV a b c d,.str s] H Q:=by
 refine qac Tryz.func31 rfl [] [] (by kernel_rfl) (fun hB=>?_);obtain⟨hla,hlb,hlc,hld⟩:=qo2 h0;obtain⟨q,hq⟩:=exz (newP a b c d);rw[hq]at hQ;have fin:∀x:Lk,qaE (qaf q s).1=x->Q x.av H:=fun x hx=>hx▸hQ;clear hQ;simp[Tryz.ntmps31,Tryz.results31,List.replicate_succ,limV];refine qaB (daI1 q a b c d s H) (fun fr _=>s.length-(ai (aget fr 5)).toNat) ⟨0,by omega,by have:=Fd.refl q s;rw[<-hq]at this⊢;exact this,by simp,friz⟩ ?_;rintro fr K ⟨i,hi,hFd,rfl,x,rfl⟩;by_cases hlt:i<s.length;rotate_left
 ·obtain rfl:i=s.length:=by omega
  have hx:=fd_0 hFd;simp[];refine qee E _ 0 s ?_;simp[Lk.av,Rq.avs,Rq.zero,flds];exact qab (v0:=Lk.av ⟨0,(s.length:Int),false,.zero,false,0,0,0⟩) (v:=Lk.av ⟨0,(s.length:Int),false,.zero,false,0,0,0⟩) hB (by simp[Lk.av,Rq.avs,Rq.zero,flds]) (qaa _) (Lk.bnd ⟨0,(s.length:Int),false,.zero,false,0,0,0⟩ _) (fin ⟨0,(s.length:Int),false,.zero,false,0,0,0⟩ hx)
 obtain⟨y,hy⟩:∃y,s[i]? =some y:=⟨_,zqD hlt⟩
 have la:=qaq hy;have hli:(i:Int)<s.length:=by omega
 have hne:((i:Int)==(s.length:Int))=false:=by rw[beq_eq_false_iff_ne];omega
 have w1:IntKind.i64.wrap ((i:Int)+1)=((i+1:Nat):Int):=wiz;by_cases h13:y=13
 ·subst h13;by_cases he:i+1=s.length
  ·have hx:=fd_cr hFd hy he;have he':(((i+1:Nat):Int)==((s.length:Nat):Int))=true:=by rw[beq_iff_eq];omega
   simp[hlt,la,w1,he',-Int.natCast_add];refine qee E _ 0 s ?_;simp[Lk.av,Rq.avs,Rq.zero,flds];exact qab (v0:=Lk.av ⟨0,(s.length:Int),false,.zero,false,0,0,0⟩) (v:=Lk.av ⟨0,(s.length:Int),false,.zero,false,0,0,0⟩) hB (by simp[Lk.av,Rq.avs,Rq.zero,flds]) (qaa _) (Lk.bnd ⟨0,(s.length:Int),false,.zero,false,0,0,0⟩ _) (fin ⟨0,(s.length:Int),false,.zero,false,0,0,0⟩ hx)
  obtain⟨z,hz⟩:∃z,s[i+1]? =some z:=⟨_,zqD (by omega)⟩
  have lz:=qaq hz;have he':(((i+1:Nat):Int)==((s.length:Nat):Int))=false:=by rw[beq_eq_false_iff_ne];omega
  by_cases h10:z=10
  ·subst h10;have w2:IntKind.i64.wrap ((i:Int)+2)=((i+2:Nat):Int):=wiz;have hg:=qsQ hFd hy hz;simp[hlt,la,w1,he',lz,w2,-Int.natCast_add];exact Klz ⟨i+2,by have:=(zqC.1 hz).1;omega,hg,rfl,friz⟩
  ·have b1:=(qaw z 10 (by decide) 10 rfl h10).1;have b2:=(qaw z 10 (by decide) 10 rfl h10).2;have hx:=fd_crx hFd hy hz h10;simp[hlt,la,w1,he',lz,b1,b2,-Int.natCast_add];refine qau E _ 400 111 ((i+1:Nat):Int) ((i+1:Nat):Int) (by omega) (by omega) ?_;simp[Lk.av,Rq.avs,Rq.zero,flds,-Int.natCast_add];exact qab (v0:=Lk.av ⟨5,((i+1:Nat):Int)+1,false,.zero,false,400,111,((i+1:Nat):Int)⟩) (v:=Lk.av ⟨5,((i+1:Nat):Int)+1,false,.zero,false,400,111,((i+1:Nat):Int)⟩) hB (by simp[Lk.av,Rq.avs,Rq.zero,flds]) (qaa _) (Lk.bnd ⟨5,((i+1:Nat):Int)+1,false,.zero,false,400,111,((i+1:Nat):Int)⟩ _) (fin ⟨5,((i+1:Nat):Int)+1,false,.zero,false,400,111,((i+1:Nat):Int)⟩ hx)
 have b1:=(qaw y 13 (by decide) 13 rfl h13).1;simp[hlt,la,b1,hne];have h13f:s[i]? ≠some 13:=by rw[hy];simpa using h13
 refine qaB (daI2 q a b c d s i H) (fun fr _=>s.length-(ai (aget fr 5)).toNat) ⟨i,by omega,by omega,by omega,by unfold pMs;rw[if_pos rfl];exact hFd,by simp,friz⟩ ?_;clear hFd hy la hli hne w1 b1 h13 hi;obtain⟨f,hf⟩:∃f,f=i:=⟨i,rfl⟩
 rw[<-hf]at hlt h13f⊢;clear hf i y x;have hfl:=hlt;clear hlt;rintro fr K ⟨i,hfi,hi,hi24,hFd,rfl,x,rfl⟩;by_cases hlt:i<s.length;rotate_left
 ·obtain rfl:i=s.length:=by omega
  have hx:=qsO hFd hfl;simp[];refine qee E _ 1 s ?_;simp[Lk.av,Rq.avs,Rq.zero,flds];exact qab (v0:=Lk.av ⟨1,(s.length:Int),false,.zero,false,0,0,0⟩) (v:=Lk.av ⟨1,(s.length:Int),false,.zero,false,0,0,0⟩) hB (by simp[Lk.av,Rq.avs,Rq.zero,flds]) (qaa _) (Lk.bnd ⟨1,(s.length:Int),false,.zero,false,0,0,0⟩ _) (fin ⟨1,(s.length:Int),false,.zero,false,0,0,0⟩ hx)
 obtain⟨y,hy⟩:∃y,s[i]? =some y:=⟨_,zqD hlt⟩
 have la:=qaq hy;have hne:((i:Int)==(s.length:Int))=false:=by rw[beq_eq_false_iff_ne];omega
 have w1:IntKind.i64.wrap ((i:Int)+1)=((i+1:Nat):Int):=wiz;have w0:IntKind.i64.wrap ((i:Int)-f)=((i-f:Nat):Int):=by rw[qai (by omega) (by omega)];omega
 obtain⟨m1,m2,m3,m4⟩:=fd_m hFd hy hfi hi (fun e=>by subst e;intro e;rw[e]at hy;exact h13f hy);obtain⟨sg,hsg⟩:=exz (qap y);rw[hsg]at m1 m2 m3 m4;by_cases h32:y=32;rotate_left
 ·have b1:=(qaw y 32 (by decide) 32 rfl h32).1;simp[hne,la,b1];refine qhw E _ _ y ?_;rw[hsg];cases sg with
  |false=>
   have hx:=m4 rfl (fun e=>h32 e.1);simp[];refine qau E _ 400 110 (i:Int) (i:Int) (by omega) (by omega) ?_;simp[Lk.av,Rq.avs,Rq.zero,flds,-Int.natCast_add];exact qab (v0:=Lk.av ⟨5,(i:Int)+1,false,.zero,false,400,110,(i:Int)⟩) (v:=Lk.av ⟨5,(i:Int)+1,false,.zero,false,400,110,(i:Int)⟩) hB (by simp[Lk.av,Rq.avs,Rq.zero,flds]) (qaa _) (Lk.bnd ⟨5,(i:Int)+1,false,.zero,false,400,110,(i:Int)⟩ _) (fin ⟨5,(i:Int)+1,false,.zero,false,400,110,(i:Int)⟩ hx)
  |true=>
   by_cases h24:i-f=24
   ·have hx:=m1 rfl h24;have hge:(24:Int)<=((i-f:Nat):Int):=by omega
    have hge2:24<=i-f:=by omega
    simp[w0,hge,hge2];refine qau E _ 501 110 (i:Int) (i:Int) (by omega) (by omega) ?_;simp[Lk.av,Rq.avs,Rq.zero,flds,-Int.natCast_add];exact qab (v0:=Lk.av ⟨5,(i:Int)+1,false,.zero,false,501,110,(i:Int)⟩) (v:=Lk.av ⟨5,(i:Int)+1,false,.zero,false,501,110,(i:Int)⟩) hB (by simp[Lk.av,Rq.avs,Rq.zero,flds]) (qaa _) (Lk.bnd ⟨5,(i:Int)+1,false,.zero,false,501,110,(i:Int)⟩ _) (fin ⟨5,(i:Int)+1,false,.zero,false,501,110,(i:Int)⟩ hx)
   ·have hg:=m2 rfl h24;have hge:¬(24:Int)<=((i-f:Nat):Int):=by omega
    have hge2:¬24<=i-f:=by omega
    simp[w0,hge,hge2,w1,-Int.natCast_add];exact Klz ⟨i+1,by omega,by omega,by omega,hg,rfl,friz⟩
 subst h32;have e32:sg=false:=by rw[<-hsg];decide
 by_cases hsp:f<i;rotate_left
 ·have hgt:¬(f:Int)<i:=by omega
  have hx:=m4 e32 (fun e=>hsp e.2);simp[hne,la,hsp];refine qhw E _ _ 32 ?_;rw[hsg,e32];simp[];refine qau E _ 400 110 (i:Int) (i:Int) (by omega) (by omega) ?_;simp[Lk.av,Rq.avs,Rq.zero,flds,-Int.natCast_add];exact qab (v0:=Lk.av ⟨5,(i:Int)+1,false,.zero,false,400,110,(i:Int)⟩) (v:=Lk.av ⟨5,(i:Int)+1,false,.zero,false,400,110,(i:Int)⟩) hB (by simp[Lk.av,Rq.avs,Rq.zero,flds]) (qaa _) (Lk.bnd ⟨5,(i:Int)+1,false,.zero,false,400,110,(i:Int)⟩ _) (fin ⟨5,(i:Int)+1,false,.zero,false,400,110,(i:Int)⟩ hx)
 have hg:=m3 e32 rfl hsp;obtain⟨M,hM⟩:=exz ((s.drop f).take (i-f));rw[hM]at hg;have hMl:M.length<=24:=by rw[<-hM,zqJ];omega
 simp[hne,la,hsp,w1,hfi,hi,hM,-Int.natCast_add];refine qaB (daI3 q a b c d s M (i+1) H) (fun fr _=>s.length-(ai (aget fr 5)).toNat) ⟨i+1,by omega,by omega,by omega,hg,by simp,friz⟩ ?_;clear hg m1 m2 m3 m4 hM w1 w0 hne la hy hFd hsg e32 hi24 h13f hfl;obtain⟨g,hgi⟩:∃g,g=i+1:=⟨_,rfl⟩
 rw[<-hgi];clear hgi hsp hfi hi hlt f i x;obtain⟨f,hff⟩:∃f,f=g:=⟨_,rfl⟩
 rw[<-hff];clear hff g;rintro fr K ⟨i,hfi,hi,hia,hFd,rfl,x,rfl⟩;by_cases hlt:i<s.length;rotate_left
 ·obtain rfl:i=s.length:=by omega
  have hx:=qsN hFd;simp[];refine qee E _ 1 s ?_;simp[Lk.av,Rq.avs,Rq.zero,flds];exact qab (v0:=Lk.av ⟨1,(s.length:Int),false,.zero,false,0,0,0⟩) (v:=Lk.av ⟨1,(s.length:Int),false,.zero,false,0,0,0⟩) hB (by simp[Lk.av,Rq.avs,Rq.zero,flds]) (qaa _) (Lk.bnd ⟨1,(s.length:Int),false,.zero,false,0,0,0⟩ _) (fin ⟨1,(s.length:Int),false,.zero,false,0,0,0⟩ hx)
 obtain⟨y,hy⟩:∃y,s[i]? =some y:=⟨_,zqD hlt⟩
 have la:=qaq hy;have hne:((i:Int)==(s.length:Int))=false:=by rw[beq_eq_false_iff_ne];omega
 have w1:IntKind.i64.wrap ((i:Int)+1)=((i+1:Nat):Int):=wiz;have w0:IntKind.i64.wrap ((i:Int)-f)=((i-f:Nat):Int):=by rw[qai (by omega) (by omega)];omega
 obtain⟨m1,m2,m3,m4⟩:=fd_t hFd hy hfi hi;by_cases h32:y=32;rotate_left
 ·have b1:=(qaw y 32 (by decide) 32 rfl h32).1;by_cases h33:y.toNat<33
  ·have i33:(y.toNat:Int)<33:=by omega
   have hx:=m4 (by omega) (fun e=>h32 e.1);simp[hne,la,b1,i33];refine qau E _ 400 111 (i:Int) (i:Int) (by omega) (by omega) ?_;simp[Lk.av,Rq.avs,Rq.zero,flds,-Int.natCast_add];exact qab (v0:=Lk.av ⟨5,(i:Int)+1,false,.zero,false,400,111,(i:Int)⟩) (v:=Lk.av ⟨5,(i:Int)+1,false,.zero,false,400,111,(i:Int)⟩) hB (by simp[Lk.av,Rq.avs,Rq.zero,flds]) (qaa _) (Lk.bnd ⟨5,(i:Int)+1,false,.zero,false,400,111,(i:Int)⟩ _) (fin ⟨5,(i:Int)+1,false,.zero,false,400,111,(i:Int)⟩ hx)
  have j33:¬(y.toNat:Int)<33:=by omega
  by_cases h126:126<y.toNat
  ·have i126:(126:Int)<y.toNat:=by omega
   have hx:=m4 (by omega) (fun e=>h32 e.1);simp[hne,la,b1,j33,i126];refine qau E _ 400 111 (i:Int) (i:Int) (by omega) (by omega) ?_;simp[Lk.av,Rq.avs,Rq.zero,flds,-Int.natCast_add];exact qab (v0:=Lk.av ⟨5,(i:Int)+1,false,.zero,false,400,111,(i:Int)⟩) (v:=Lk.av ⟨5,(i:Int)+1,false,.zero,false,400,111,(i:Int)⟩) hB (by simp[Lk.av,Rq.avs,Rq.zero,flds]) (qaa _) (Lk.bnd ⟨5,(i:Int)+1,false,.zero,false,400,111,(i:Int)⟩ _) (fin ⟨5,(i:Int)+1,false,.zero,false,400,111,(i:Int)⟩ hx)
  have j126:¬(126:Int)<y.toNat:=by omega
  by_cases hfull:((i-f:Nat):Int)=a
  ·have hx:=m1 (by omega) hfull;have hge:a<=((i-f:Nat):Int):=by omega
   simp[hne,la,b1,j33,j126,w0,hge];refine qau E _ 414 112 (i:Int) (i:Int) (by omega) (by omega) ?_;simp[Lk.av,Rq.avs,Rq.zero,flds,-Int.natCast_add];exact qab (v0:=Lk.av ⟨5,(i:Int)+1,false,.zero,false,414,112,(i:Int)⟩) (v:=Lk.av ⟨5,(i:Int)+1,false,.zero,false,414,112,(i:Int)⟩) hB (by simp[Lk.av,Rq.avs,Rq.zero,flds]) (qaa _) (Lk.bnd ⟨5,(i:Int)+1,false,.zero,false,414,112,(i:Int)⟩ _) (fin ⟨5,(i:Int)+1,false,.zero,false,414,112,(i:Int)⟩ hx)
  ·have hg:=m2 (by omega) hfull;have hge:¬a<=((i-f:Nat):Int):=by omega
   simp[hne,la,b1,j33,j126,w0,hge,w1,-Int.natCast_add];exact Klz ⟨i+1,by omega,by omega,by omega,hg,rfl,friz⟩
 subst h32;by_cases hsp:f<i;rotate_left
 ·have hx:=m4 (by decide) (fun e=>hsp e.2);simp[hne,la,hsp];refine qau E _ 400 111 (i:Int) (i:Int) (by omega) (by omega) ?_;simp[Lk.av,Rq.avs,Rq.zero,flds,-Int.natCast_add];exact qab (v0:=Lk.av ⟨5,(i:Int)+1,false,.zero,false,400,111,(i:Int)⟩) (v:=Lk.av ⟨5,(i:Int)+1,false,.zero,false,400,111,(i:Int)⟩) hB (by simp[Lk.av,Rq.avs,Rq.zero,flds]) (qaa _) (Lk.bnd ⟨5,(i:Int)+1,false,.zero,false,400,111,(i:Int)⟩ _) (fin ⟨5,(i:Int)+1,false,.zero,false,400,111,(i:Int)⟩ hx)
 have hg:=m3 (by decide) rfl hsp;obtain⟨T,hT⟩:=exz ((s.drop f).take (i-f));rw[hT]at hg;have hTl:T.length<=65536:=by rw[<-hT,zqJ];omega
 simp[hne,la,hsp,w1,hfi,hi,hT,-Int.natCast_add];refine qaB (daI4 q a b c d s M T (i+1) H) (fun fr _=>10-(ai (aget fr 8)).toNat) ⟨0,0,by omega,fun _=>rfl,by omega,by omega,hg,by omega,fun j hj=>by omega,by simp,friz⟩ ?_;clear hg m1 m2 m3 m4 hT w1 w0 hne la hy hFd hia;obtain⟨g,hgi⟩:∃g,g=i+1:=⟨_,rfl⟩
 rw[<-hgi];clear hgi hsp hfi hi hlt f i x;obtain⟨f,hff⟩:∃f,f=g:=⟨_,rfl⟩
 rw[<-hff];clear hff g;rintro fr K ⟨k,m,hk10,hkm,hm9,hfk,hFd,hk9,hall,rfl,x,rfl⟩;by_cases h10:k<10
 ·obtain rfl:=hkm (by omega);have i10:(m:Int)<10:=by omega
  by_cases hlt:f+m<s.length;rotate_left
  ·have hfm:f+m=s.length:=by omega
   have hx:=qsP (by rw[<-hfm];exact hFd) hfm;have hne:(((f+m:Nat):Int)==(s.length:Int))=true:=by rw[beq_iff_eq];omega
   simp[i10,hne,-Int.natCast_add];refine qee E _ 1 s ?_;simp[Lk.av,Rq.avs,Rq.zero,flds];exact qab (v0:=Lk.av ⟨1,(s.length:Int),false,.zero,false,0,0,0⟩) (v:=Lk.av ⟨1,(s.length:Int),false,.zero,false,0,0,0⟩) hB (by simp[Lk.av,Rq.avs,Rq.zero,flds]) (qaa _) (Lk.bnd ⟨1,(s.length:Int),false,.zero,false,0,0,0⟩ _) (fin ⟨1,(s.length:Int),false,.zero,false,0,0,0⟩ hx)
  obtain⟨y,hy⟩:∃y,s[f+m]? =some y:=⟨_,zqD hlt⟩
  have la:=qaq hy;have hne:(((f+m:Nat):Int)==(s.length:Int))=false:=by rw[beq_eq_false_iff_ne];omega
  have w1:IntKind.i64.wrap (((f+m:Nat):Int)+1)=((f+(m+1):Nat):Int):=by rw[qai (by omega) (by omega)];omega
  have w0:IntKind.i64.wrap ((m:Int)+1)=((m+1:Nat):Int):=by rw[qai (by omega) (by omega)];omega
  obtain⟨l1,l2,_⟩:=fd_l hFd hy hm9;simp[i10,hne,la,-Int.natCast_add];refine qkL E _ y m h10 ?_;obtain⟨gd,hgd⟩:=exz (qaJ m y);rw[hgd]at l1 l2;rw[hgd];cases gd with
  |false=>
   have hx:=l1 rfl;simp[-Int.natCast_add];refine qau E _ 400 111 ((f+m:Nat):Int) ((f+m:Nat):Int) (by omega) (by omega) ?_;simp[Lk.av,Rq.avs,Rq.zero,flds,-Int.natCast_add];exact qab (v0:=Lk.av ⟨5,((f+m:Nat):Int)+1,false,.zero,false,400,111,((f+m:Nat):Int)⟩) (v:=Lk.av ⟨5,((f+m:Nat):Int)+1,false,.zero,false,400,111,((f+m:Nat):Int)⟩) hB (by simp[Lk.av,Rq.avs,Rq.zero,flds]) (qaa _) (Lk.bnd ⟨5,((f+m:Nat):Int)+1,false,.zero,false,400,111,((f+m:Nat):Int)⟩ _) (fin ⟨5,((f+m:Nat):Int)+1,false,.zero,false,400,111,((f+m:Nat):Int)⟩ hx)
  |true=>
   simp[w1,w0,-Int.natCast_add];by_cases h9:m=9
   ·exact qaD ⟨m+1,m,by omega,by omega,by omega,by omega,hFd,by omega,fun j hj=>by
     rcases(by omega:j<m\/j=m)with h|rfl
     ·exact hall j h
     ·exact⟨y,hy,hgd⟩,rfl,friz⟩ (by simp;omega)
   ·exact qaD ⟨m+1,m+1,by omega,by omega,by omega,by omega,l2 rfl (by omega),by omega,fun j hj=>by
     rcases(by omega:j<m\/j=m)with h|rfl
     ·exact hall j h
     ·exact⟨y,hy,hgd⟩,rfl,friz⟩ (by simp;omega)
 obtain rfl:k=10:=by omega
 obtain rfl:=hk9 rfl;obtain⟨y,hy,hgy⟩:=hall 5 (by omega);obtain⟨z,hz,hgz⟩:=hall 7 (by omega);obtain⟨v,hv,hgv⟩:=hall 9 (by omega);obtain⟨_,_,l3⟩:=fd_l hFd hv (by omega);have dy:=qoO (.inl rfl) hgy;have dz:=qoO (.inr rfl) hgz;obtain⟨mj,hmj⟩:∃mj:Int,(y.toNat:Int)-48=mj:=⟨_,rfl⟩
 obtain⟨mn,hmn⟩:∃mn:Int,(z.toNat:Int)-48=mn:=⟨_,rfl⟩
 obtain⟨l5,l6,l7⟩:=l3 mj mn y z hgv rfl hy hz hmj hmn;have ly:=qaq hy;have lz:=qaq hz;have wy:IntKind.u8.wrap ((y.toNat:Int)-48)=mj:=by rw[hmj];exact wrap8 (by omega) (by omega)
 have wz:IntKind.u8.wrap ((z.toNat:Int)-48)=mn:=by rw[hmn];exact wrap8 (by omega) (by omega)
 have wj:IntKind.i64.wrap mj=mj:=wiz;have wn:IntKind.i64.wrap mn=mn:=wiz;have w5:IntKind.i64.wrap ((f:Int)+5)=((f+5:Nat):Int):=by rw[qai (by omega) (by omega)];omega
 have w7:IntKind.i64.wrap ((f:Int)+7)=((f+7:Nat):Int):=by rw[qai (by omega) (by omega)];omega
 have wm:IntKind.i64.wrap (((f+10:Nat):Int)-1)=((f+9:Nat):Int):=by rw[qai (by omega) (by omega)];omega
 by_cases hv1:mj=1;rotate_left
 ·have hx:=l5 (.inl hv1);have v1:(mj==1)=false:=by simpa using hv1
  have v2:(mj !=1)=true:=by simpa using hv1
  simp[ly,lz,wy,wz,wj,wn,w5,w7,wm,v1,v2,-Int.natCast_add];refine qau E _ 505 117 ((f+9:Nat):Int) ((f+9:Nat):Int) (by omega) (by omega) ?_;simp[Lk.av,Rq.avs,Rq.zero,flds,-Int.natCast_add];exact qab (v0:=Lk.av ⟨5,((f+9:Nat):Int)+1,false,.zero,false,505,117,((f+9:Nat):Int)⟩) (v:=Lk.av ⟨5,((f+9:Nat):Int)+1,false,.zero,false,505,117,((f+9:Nat):Int)⟩) hB (by simp[Lk.av,Rq.avs,Rq.zero,flds]) (qaa _) (Lk.bnd ⟨5,((f+9:Nat):Int)+1,false,.zero,false,505,117,((f+9:Nat):Int)⟩ _) (fin ⟨5,((f+9:Nat):Int)+1,false,.zero,false,505,117,((f+9:Nat):Int)⟩ hx)
 subst hv1;by_cases hv2:1<mn
 ·have hx:=l5 (.inr hv2);simp[ly,lz,wy,wz,wj,wn,w5,w7,wm,hv2,-Int.natCast_add];refine qau E _ 505 117 ((f+9:Nat):Int) ((f+9:Nat):Int) (by omega) (by omega) ?_;simp[Lk.av,Rq.avs,Rq.zero,flds,-Int.natCast_add];exact qab (v0:=Lk.av ⟨5,((f+9:Nat):Int)+1,false,.zero,false,505,117,((f+9:Nat):Int)⟩) (v:=Lk.av ⟨5,((f+9:Nat):Int)+1,false,.zero,false,505,117,((f+9:Nat):Int)⟩) hB (by simp[Lk.av,Rq.avs,Rq.zero,flds]) (qaa _) (Lk.bnd ⟨5,((f+9:Nat):Int)+1,false,.zero,false,505,117,((f+9:Nat):Int)⟩ _) (fin ⟨5,((f+9:Nat):Int)+1,false,.zero,false,505,117,((f+9:Nat):Int)⟩ hx)
 have hnot:¬((1:Int)≠1\/1<mn):=fun e=>by rcases e with e|e<;>omega
 simp[ly,lz,wy,wz,wj,wn,w5,w7,wm,hv2,-Int.natCast_add];refine qmf E _ M T (by omega) (fun fm pt h pa qu hq v=>?_);by_cases hte:tgtE M T=0;rotate_left
 ·have hx:=l6 hnot hte;have t1:(tgtE M T==0)=false:=by simpa using hte
  have t2:(tgtE M T !=0)=true:=by simpa using hte
  simp[t1,t2,tgV,wm,-Int.natCast_add];refine qau E _ 400 (tgtE M T) ((f+9:Nat):Int) ((f+9:Nat):Int) (by omega) (by omega) ?_;simp[Lk.av,Rq.avs,Rq.zero,flds,-Int.natCast_add];exact qab (v0:=Lk.av ⟨5,((f+9:Nat):Int)+1,false,.zero,false,400,(tgtE M T),((f+9:Nat):Int)⟩) (v:=Lk.av ⟨5,((f+9:Nat):Int)+1,false,.zero,false,400,(tgtE M T),((f+9:Nat):Int)⟩) hB (by simp[Lk.av,Rq.avs,Rq.zero,flds]) (qaa _) (Lk.bnd ⟨5,((f+9:Nat):Int)+1,false,.zero,false,400,(tgtE M T),((f+9:Nat):Int)⟩ _) (fin ⟨5,((f+9:Nat):Int)+1,false,.zero,false,400,(tgtE M T),((f+9:Nat):Int)⟩ hx)
 have hg:=l7 hnot hte;simp[hte,tgV,-Int.natCast_add];refine qmI E _ q (pF0 a b c d M T 1 mn f) s (f+10) hg rfl rfl rfl rfl rfl rfl rfl rfl rfl rfl (by show 0<=b/\b<=1048576;omega) hlc hld (by omega) ?_;obtain⟨X,hX⟩:=exz (qaE (qaf q s).1);rw[hX];simp[Lk.av,Rq.avs];exact qab (v0:=Lk.av X) (v:=Lk.av X) hB (by simp[Lk.av,Rq.avs,Rq.zero,flds]) (qaa _) (Lk.bnd X _) (fin X hX)
end
section
variable (E:Env){H:Hp}(Q:AV->Hp->Prop)
def lfI(l:List Fld)(H:Hp)(fr:List AV)(K:Hp):Prop:=K=H/\∃i:Nat,i<=l.length/\∃x:Nat->AV,fr=[.sl false 2 (flds l),.sl false 2 (flds l),x 2,x 3,x 4,.int .i64 (i:Int),x 6,x 7,x 8,x 9,x 10,x 11,x 12,x 13,x 14,x 15,x 16,x 17,x 18,x 19,x 20,x 21,x 22,x 23,x 24,x 25,x 26,x 27,x 28,x 29,x 30,x 31,x 32,x 33,x 34,x 35,x 36,x 37,x 38,x 39,x 40]
theorem qhN(l:List Fld)(hl:l.length<=1073741824)(hQ:Q (.bool true) H):PC Tryz.prog E 38 [.sl false 2 (flds l),.sl false 2 (flds l)] H Q:=by
 refine qac Tryz.func38 rfl [] [] (by kernel_rfl) (fun hB=>?_);simp[Tryz.ntmps38,Tryz.results38,List.replicate_succ];refine qaB (lfI l H) (fun fr _=>l.length-(ai (aget fr 5)).toNat) ⟨rfl,0,by omega,friz⟩ ?_;rintro fr K ⟨rfl,i,hi,x,rfl⟩;by_cases h:i<l.length
 ·obtain⟨f,hf⟩:∃f,l[i]? =some f:=⟨_,zqD h⟩
  have hat:=qgL hf;have w1:IntKind.i64.wrap ((i:Int)+1)=i+1:=wiz;simp[h,hat,w1];exact Klz ⟨rfl,i+1,by omega,friz⟩
 ·simp[h];exact aQz hB (h6:=hQ)
theorem qbu(r:Rq)(h1:r.fields.length<=1073741824)(h2:r.trailers.length<=1073741824)(hQ:Q (.bool true) H):PC Tryz.prog E 16 [r.av,r.av] H Q:=by
 refine qac Tryz.func16 rfl [] [] (by kernel_rfl) (fun hB=>?_);simp[Tryz.ntmps16,Tryz.results16,List.replicate_succ,Rq.av,Rq.avs];refine qhN E _ r.fields h1 ?_;simp;refine qhN E _ r.trailers h2 ?_;simp;exact aQy hB (h6:=hQ)
theorem qbS(a b c d:Int)(hQ:Q (limV a b c d) H):PC Tryz.prog E 14 [limV a b c d] H Q:=by
 refine qac Tryz.func14 rfl [] [] (by kernel_rfl) (fun hB=>?_);simp[Tryz.ntmps14,Tryz.results14,List.replicate_succ,limV];exact qab hB (v0:=limV a b c d) (by simp[limV]) (qaa _) (by simp[limV]) hQ
theorem qd0(a b c d:Int)(hQ:Q (.int .i64 (chkE a b c d)) H):PC Tryz.prog E 19 [limV a b c d] H Q:=by
 refine qac Tryz.func19 rfl [] [] (by kernel_rfl) (fun hB=>?_);have fin:∀e,chkE a b c d=e->Q (.int .i64 e) H:=fun e h=>h▸hQ;have bad:¬((1<=a/\a<=65536)/\(2<=b/\b<=1048576)/\(0<=c/\c<=100)/\(0<=d/\d<=1073741824))->Q (.int .i64 115) H:=fun h=>fin 115 (by unfold chkE;rw[if_neg h]);by_cases a1:a<1
 ·simp[Tryz.ntmps19,Tryz.results19,List.replicate_succ,limV,a1];exact qab hB rfl (qaa _) (by simp) (bad (by omega))
 by_cases a2:65536<a
 ·simp[Tryz.ntmps19,Tryz.results19,List.replicate_succ,limV,a1,a2];exact qab hB rfl (qaa _) (by simp) (bad (by omega))
 by_cases b1:b<2
 ·simp[Tryz.ntmps19,Tryz.results19,List.replicate_succ,limV,a1,a2,b1];exact qab hB rfl (qaa _) (by simp) (bad (by omega))
 by_cases b2:1048576<b
 ·simp[Tryz.ntmps19,Tryz.results19,List.replicate_succ,limV,a1,a2,b1,b2];exact qab hB rfl (qaa _) (by simp) (bad (by omega))
 by_cases c1:c<0
 ·simp[Tryz.ntmps19,Tryz.results19,List.replicate_succ,limV,a1,a2,b1,b2,c1];exact qab hB rfl (qaa _) (by simp) (bad (by omega))
 by_cases c2:100<c
 ·simp[Tryz.ntmps19,Tryz.results19,List.replicate_succ,limV,a1,a2,b1,b2,c1,c2];exact qab hB rfl (qaa _) (by simp) (bad (by omega))
 by_cases d1:d<0
 ·simp[Tryz.ntmps19,Tryz.results19,List.replicate_succ,limV,a1,a2,b1,b2,c1,c2,d1];exact qab hB rfl (qaa _) (by simp) (bad (by omega))
 by_cases d2:1073741824<d
 ·simp[Tryz.ntmps19,Tryz.results19,List.replicate_succ,limV,a1,a2,b1,b2,c1,c2,d1,d2];exact qab hB rfl (qaa _) (by simp) (bad (by omega))
 ·simp[Tryz.ntmps19,Tryz.results19,List.replicate_succ,limV,a1,a2,b1,b2,c1,c2,d1,d2];exact qab hB rfl (qaa _) (by simp) (fin 0 (by unfold chkE;rw[if_pos (by omega)]))
def lrI1(r:Rq)(H:Hp)(fr:List AV)(K:Hp):Prop:=∃i:Nat,i<=r.fields.length/\K=H++[r.avs,[.str [],.str [],.int .i64 0,.int .i64 0,.nil,.str [],.nil],[.str r.meth,.str r.targ,.int .i64 r.major,.int .i64 r.minor,.sl true 2 (flds (r.fields.take i)),.str r.body,.sl true 2 (flds [])]]/\
 ∃x:Nat->AV,fr=[x 0,.ptr (some (H.length,0)),.ptr (some (H.length+1,0)),.ptr (some (H.length+2,0)),.int .i64 (i:Int),x 5,x 6,x 7,x 8,x 9,x 10,x 11,x 12,x 13,x 14,x 15,x 16,x 17,x 18,x 19,x 20,x 21,x 22,x 23,x 24,x 25,x 26,x 27,x 28,x 29,x 30,x 31,x 32,x 33,x 34,x 35,x 36,x 37,x 38,x 39,x 40,x 41,x 42,x 43,x 44,x 45,x 46,x 47,x 48,x 49,x 50,x 51,x 52,x 53,x 54,x 55,x 56,x 57,x 58,x 59,x 60,x 61,x 62,x 63,x 64,x 65,x 66,x 67]
def lrI2(r:Rq)(H:Hp)(fr:List AV)(K:Hp):Prop:=∃i:Nat,i<=r.trailers.length/\K=H++[r.avs,[.str [],.str [],.int .i64 0,.int .i64 0,.nil,.str [],.nil],[.str r.meth,.str r.targ,.int .i64 r.major,.int .i64 r.minor,.sl true 2 (flds r.fields),.str r.body,.sl true 2 (flds (r.trailers.take i))]]/\
 ∃x:Nat->AV,fr=[x 0,.ptr (some (H.length,0)),.ptr (some (H.length+1,0)),.ptr (some (H.length+2,0)),x 4,.int .i64 (i:Int),x 6,x 7,x 8,x 9,x 10,x 11,x 12,x 13,x 14,x 15,x 16,x 17,x 18,x 19,x 20,x 21,x 22,x 23,x 24,x 25,x 26,x 27,x 28,x 29,x 30,x 31,x 32,x 33,x 34,x 35,x 36,x 37,x 38,x 39,x 40,x 41,x 42,x 43,x 44,x 45,x 46,x 47,x 48,x 49,x 50,x 51,x 52,x 53,x 54,x 55,x 56,x 57,x 58,x 59,x 60,x 61,x 62,x 63,x 64,x 65,x 66,x 67]
theorem qgC(r:Rq)(h1:r.fields.length<=16777216)(h2:r.trailers.length<=16777216)(hQ:Q r.av H):PC Tryz.prog E 30 [r.av] H Q:=by
 refine qac Tryz.func30 rfl [25,50] [] (by kernel_rfl) (fun hB=>?_);simp[Tryz.ntmps30,Tryz.results30,List.replicate_succ,Rq.av,Rq.avs];refine qkY (H.length+2) _ 4 2 (by simp;rfl) (by rfl) ?_;refine qkY (H.length+2) _ 6 2 (by simp;rfl) (by rfl) ?_;refine qaB (lrI1 r H) (fun fr _=>r.fields.length-(ai (aget fr 4)).toNat) ⟨0,by omega,by simp[Rq.avs,flds],friz⟩ ?_;rintro fr K ⟨i,hi,rfl,x,rfl⟩;by_cases h:i<r.fields.length
 ·obtain⟨f,hf⟩:∃f,r.fields[i]? =some f:=⟨_,zqD h⟩
  have hat:=qgL hf;have w1:IntKind.i64.wrap ((i:Int)+1)=i+1:=wiz;have htk:flds (r.fields.take i)++[[AV.str f.name,AV.str f.value]]=flds (r.fields.take (i+1)):=by rw[qdV,List.take_add_one,hf];rfl
  have hlt:(r.fields.take i).length=i:=by rw[zqJ];omega
  have m1:i+1<=maxLen:=by unfold maxLen;omega
  have m2:(i+1)*32<=140737488355328:=by omega
  have m3:i<=maxLen:=by unfold maxLen;omega
  simp[Rq.avs,h,hat,w1,htk,hlt,m1,m2,m3,-List.length_take];exact Klz ⟨i+1,by omega,by simp[Rq.avs],friz⟩
 ·obtain rfl:i=r.fields.length:=by omega
  rw[List.take_length];simp[Rq.avs];refine qaB (lrI2 r H) (fun fr _=>r.trailers.length-(ai (aget fr 5)).toNat) ⟨0,by omega,by simp[Rq.avs,flds],friz⟩ ?_;rintro fr K ⟨i,hi,rfl,x,rfl⟩;by_cases h:i<r.trailers.length
  ·obtain⟨f,hf⟩:∃f,r.trailers[i]? =some f:=⟨_,zqD h⟩
   have hat:=qgL hf;have w1:IntKind.i64.wrap ((i:Int)+1)=i+1:=wiz;have htk:flds (r.trailers.take i)++[[AV.str f.name,AV.str f.value]]=flds (r.trailers.take (i+1)):=by rw[qdV,List.take_add_one,hf];rfl
   have hlt:(r.trailers.take i).length=i:=by rw[zqJ];omega
   have m1:i+1<=maxLen:=by unfold maxLen;omega
   have m2:(i+1)*32<=140737488355328:=by omega
   have m3:i<=maxLen:=by unfold maxLen;omega
   simp[Rq.avs,h,hat,w1,htk,hlt,m1,m2,m3,-List.length_take];exact Klz ⟨i+1,by omega,by simp[Rq.avs],friz⟩
  ·obtain rfl:i=r.trailers.length:=by omega
   rw[List.take_length];simp[Rq.avs];exact qab hB (v0:=r.av) (by simp[Rq.av,Rq.avs]) (qaa _) (by simp[Rq.av,Rq.avs,qbZ]) hQ
def awkT:List UInt8:=[71,69,84,32,47,97,32,72,84,84,80,47,49,46,48,13,10,13,10,120]
theorem qq5:(qaf (newP 8000 16384 100 1048576) awkT).2=19/\(qaf (newP 8000 16384 100 1048576) awkT).1.state=4/\(qaf (newP 8000 16384 100 1048576) awkT).1.meth=[71,69,84]/\(qaf (newP 8000 16384 100 1048576) awkT).1.targ=[47,97]/\(qaf (newP 8000 16384 100 1048576) awkT).1.major=1:=by decide+kernel
theorem qcg(hE:PE E)(hQ:Q (.bool true) H):PC Tryz.prog E 15 [] H Q:=by
 refine qac Tryz.func15 rfl [] [] (by kernel_rfl) (fun hB=>?_);simp[Tryz.ntmps15,Tryz.results15,List.replicate_succ];refine qnR E _ ?_;simp;refine qi9 E _ hE 8000 16384 100 1048576 awkT (by decide) ?_;obtain⟨g1,g2,g3,g4,g5⟩:=qq5;have hch:chkE 8000 16384 100 1048576=0:=by decide
 have hk:qdL (qaf (newP 8000 16384 100 1048576) awkT).1=1:=by unfold qdL;rw[if_pos g2]
 have hf:fltV (qaf (newP 8000 16384 100 1048576) awkT).1= .agg [.int .i64 0,.int .i64 0,.int .i64 0]:=by unfold fltV;rw[if_neg (by omega)]
 unfold qpJ;rw[if_pos hch,hk,hf,g1,g2];have hrq:Rq.if (decide ((4:Int)=4)) (qaf (newP 8000 16384 100 1048576) awkT).1.rq=(qaf (newP 8000 16384 100 1048576) awkT).1.rq:=rfl;rw[hrq];simp[Rq.av,Rq.avs,Prs.rq,g3,g4,g5];exact aQy hB (h6:=hQ)
end
section
variable (E:Env){H:Hp}(Q:AV->Hp->Prop)
end
end Go.Proofs.YtnnhdehmlkkfjaaGreatDoor
namespace Go.Proofs.YtnnhdehmlkkfjaaGreatDoor
open Go Go.RowKit Go.Proofs Go.Deep
def PZ(E:Env):Prop:=PE E/\SZ E
def qcW(W:World):Prop:=∃m:Int,W.cell? ⟨2,0,none⟩=some (.int .i64 m)
theorem qcG{W:World}(h:W.ShapedOpen Tryz.prog):qcW W:=
 cell_of_shapedOpen_int (zero:= #[.int .i64 0]) (t:=3) h (of_decide_eq_true (by kernel_rfl)) (by kernel_rfl) rfl (by kernel_rfl) (by kernel_rfl) Tryz.underlying3
theorem qiE{f:FuncId}{args:List AV}{cargs:Array Value}{W:World}(hT:Tabs W)(hM:qcW W)(hsz:cargs.size=args.length)
  (hargs:∀(t:Nat) x u,args[t]? =some x->cargs[t]? =some u->Rel W (fun _=>0) (old W) x u/\Bnd 0 x/\x.free=true)
  (h:∀(E:Env) (Q:AV->Hp->Prop),PZ E->Q (.bool true) []->PC Tryz.prog E f args [] Q):Calls Tryz.prog f cargs W fun e w'=>e= .returned (.bool true)/\Frm (fun _=>False) W w':=by
 obtain⟨m,hm⟩:=hM
 refine qjQ (fun b=>b=0\/b=4\/b=1\/b=2)
  (fun b hb=>?_) (old W) (fun _ _ h=>h) hsz hargs
  (fun E Q h0 hf hq=>h E Q ⟨⟨⟨⟨by rw[hf];exact .inl rfl,by rw[h0];exact hT.1⟩,by rw[hf];exact .inr (.inr (.inl rfl)),by rw[h0];exact hT.2.2⟩,⟨by rw[hf];exact .inr (.inr (.inr rfl)),m,by rw[h0];exact hm⟩⟩,⟨by rw[hf];exact .inl rfl,by rw[h0];exact hT.1⟩,by rw[hf];exact .inr (.inl rfl),by rw[h0];exact hT.2.1⟩ hq)
 rcases hb with hb|hb|hb|hb
 ·exact qsF W hT.1 b hb
 ·exact hb▸World.block_lt_of_cell? _ _ hT.2.1
 ·exact hb▸tab_lt hT.2.2
 ·exact hb▸World.block_lt_of_cell? _ _ hm
theorem qeq{W:World}{cs:Array Value}{ks:List AV}(op:Opened W [.int .i64,.int .i64,.int .i64,.int .i64] cs.toList ks):∃a b c d:Int,
  (-9223372036854775808<=a/\a<=9223372036854775807)/\(-9223372036854775808<=b/\b<=9223372036854775807)/\(-9223372036854775808<=c/\c<=9223372036854775807)/\(-9223372036854775808<=d/\d<=9223372036854775807)/\
  Rel W (fun _=>0) (old W) (limV a b c d) (.agg cs)/\Bnd 0 (limV a b c d)/\(limV a b c d).free=true:=by
 match ks,op.len with
 |[y0,y1,y2,y3],_=>
  obtain⟨z0,rfl,w0⟩:=qe0 (op.kind 0 _ _ rfl rfl);obtain⟨z1,rfl,w1⟩:=qe0 (op.kind 1 _ _ rfl rfl);obtain⟨z2,rfl,w2⟩:=qe0 (op.kind 2 _ _ rfl rfl);obtain⟨z3,rfl,w3⟩:=qe0 (op.kind 3 _ _ rfl rfl);refine⟨z0,z1,z2,z3,w0,w1,w2,w3,.agg _ _ (by have:=op.clen;simpa using this) (fun x hx=>?_) (fun j x u hx hu=>?_),?_,rfl⟩
  ·simp at hx;rcases hx with rfl|rfl|rfl|rfl<;>exact⟨rfl,rfl⟩
  ·exact(op.rel j x u hx (by simpa using hu)).2.2.1
  ·simp[limV]
theorem qqY(a b c d:Int)(h:chkE a b c d≠0):chkE a b c d=115:=by
 unfold chkE at h⊢;split at h
 ·exact absurd rfl h
 ·rename_i h';rw[if_neg h']
theorem qou(p:Prs):∃x y z:Int,fltV p= .agg [.int .i64 x,.int .i64 y,.int .i64 z]:=by
 unfold fltV;split
 ·exact⟨_,_,_,rfl⟩
 ·exact⟨_,_,_,rfl⟩
theorem qta(a b c d:Int)(all:List UInt8):(qaf (newP a b c d) all).1.anew=newP a b c d:=by
 obtain⟨h1,h2,h3,h4⟩:=qhV all (newP a b c d);unfold Prs.anew;rw[h1,h2,h3,h4];rfl
section
variable (E:Env){H:Hp}(Q:AV->Hp->Prop)
theorem qgT(a b c d:Int)(s:List UInt8)(hl:s.length<=4194304)
  (hQ1:chkE a b c d=0->Q (.tup [(qaE (qaf (newP a b c d) s).1).av,.int .i64 (qdL (qaf (newP a b c d) s).1)]) H)
  (hQ2:chkE a b c d≠0->Q (.tup [(Lk.mk 0 0 false .zero false 0 115 0).av,.int .i64 2]) H):PC Tryz.prog E 13 [limV a b c d,.str s] H Q:=by
 refine PC.nilD ?_;refine qac Tryz.func13 rfl [] [] (by kernel_rfl) (fun hB=>?_);simp[Tryz.ntmps13,Tryz.results13,List.replicate_succ,limV];refine qd0 E _ a b c d ?_;by_cases h0:chkE a b c d=0
 ·have hQ:=hQ1 h0;clear hQ1 hQ2;simp[h0];refine qfR E _ a b c d h0 s hl ?_;obtain⟨P,hP⟩:=exz ((qaf (newP a b c d) s).1);rw[hP]at hQ⊢;obtain⟨X,hX⟩:=exz (qaE P);have hst:X.state=P.state:=by rw[<-hX,qgD]
  rw[hX]at hQ⊢;unfold qdL at hQ;by_cases h4:P.state=4
  ·rw[if_pos h4]at hQ;simp[Lk.av,Rq.avs,hst,h4];exact qab (v0:= .tup [X.av,.int .i64 1]) (v:= .tup [X.av,.int .i64 1]) hB (by simp[Lk.av,Rq.avs,hst,h4]) (qaa _) (.tup _ fun y hy=>by simp only[List.mem_cons,List.not_mem_nil,or_false]at hy;rcases hy with rfl|rfl;exact Lk.bnd X _;exact .int _ _) ⟨_,.same _,hQ⟩
  rw[if_neg h4]at hQ;have h4':(P.state==4)=false:=by simpa using h4
  by_cases h5:P.state=5
  ·rw[if_pos h5]at hQ;simp[Lk.av,Rq.avs,hst,h5];exact qab (v0:= .tup [X.av,.int .i64 2]) (v:= .tup [X.av,.int .i64 2]) hB (by simp[Lk.av,Rq.avs,hst,h5]) (qaa _) (.tup _ fun y hy=>by simp only[List.mem_cons,List.not_mem_nil,or_false]at hy;rcases hy with rfl|rfl;exact Lk.bnd X _;exact .int _ _) ⟨_,.same _,hQ⟩
  rw[if_neg h5]at hQ;have h5':(P.state==5)=false:=by simpa using h5
  simp[Lk.av,Rq.avs,hst,h4',h5'];exact qab (v0:= .tup [X.av,.int .i64 0]) (v:= .tup [X.av,.int .i64 0]) hB (by simp[Lk.av,Rq.avs,hst]) (qaa _) (.tup _ fun y hy=>by simp only[List.mem_cons,List.not_mem_nil,or_false]at hy;rcases hy with rfl|rfl;exact Lk.bnd X _;exact .int _ _) ⟨_,.same _,hQ⟩
 ·have hQ:=hQ2 h0;have h1:(chkE a b c d==0)=false:=by simpa using h0
  have h2:(chkE a b c d !=0)=true:=by simpa using h0
  simp[h1,h2];exact qab (v0:= .tup [.agg (lkN 0 0 0 115 0),.int .i64 2]) (v:= .tup [.agg (lkN 0 0 0 115 0),.int .i64 2]) hB (by simp[lkN]) (qaa _) (by simp[lkN]) ⟨.tup [(Lk.mk 0 0 false .zero false 0 115 0).av,.int .i64 2],qdI (m:=[(Lk.mk 0 0 false .zero false 0 115 0).av,.int .i64 2]) ⟨qaP (by simp[lkN,Lk.av,Rq.avs,Rq.zero,flds]),.same _,trivial⟩,hQ⟩
variable {b j:Nat}{p:Prs}
def Szd(p:Prs):Prop:=p.state≠5->fsz p.fields+p.fields.length<=4194304/\p.trailers.length<=4194304
theorem qkI{a b c d:Int}(h:chkE a b c d=0)(s:List UInt8)(hs:s.length<=4194304):Szd (qaf (newP a b c d) s).1:=fun h5=>qkJ h s hs h5
theorem qiu{a b c d:Int}(h:chkE a b c d=0)(t:List UInt8):(qaf (newP a b c d) t).1.nx≠none->fitP (qaf (newP a b c d) t).2 (qaf (newP a b c d) t).1:=fun hn=>by
 have hs:=qgO t (newP a b c d) (qmp a b c d);have:=qgP t (newP a b c d) 0 (qeX h) (fun e=>hn (hs.1.2 (.inr e)));rwa[Nat.zero_add]at this
theorem Szd.len(h:Szd p):p.state≠5->p.fields.length<=16777216/\p.trailers.length<=16777216:=fun h5=>by have:=h h5;omega
theorem qde(hp:PB H b j p)(hz:Szd p)(hQ:Q (.bool true) H):PC Tryz.prog E 32 [.ptr (some (b,0)),(qaE p).av] H Q:=by
 refine qac Tryz.func32 rfl [] [(4,[0,1,0,0,0,0,0,1,0,0,0,0,0,0,1])] (by kernel_rfl) (fun hB=>?_);by_cases h5:p.state=5
 ·have hL:qaE p=⟨5,p.used,false,.zero,false,p.fst_,p.ferr,p.fat⟩:=by unfold qaE;rw[if_pos h5]
  have hfv:fltV p= .agg [.int .i64 p.fst_,.int .i64 p.ferr,.int .i64 p.fat]:=by unfold fltV;rw[if_pos h5]
  have hw:p.waits=false:=by unfold Prs.waits;simp[h5]
  rw[hL];simp[Tryz.ntmps32,Tryz.results32,List.replicate_succ,Lk.av,Rq.avs,Rq.zero,h5];refine qd6 E _ (hp.app _) hz.len ?_;simp[Rq.if,Rq.av,Rq.avs,Rq.zero,h5];refine qb6 E _ (hp.app _) hz.len ?_;simp[Rq.if,Rq.av,Rq.avs,Rq.zero,h5];refine qc9 E _ (hp.app _) ?_;rw[hfv];simp[h5];refine qc7 E _ (hp.app _) ?_;simp[qal,KP,qag,h5];refine qd5 E _ (hp.app _) ?_;simp[qal,KP,qag,h5];refine qc6 E _ (hp.app _) (fun e=>by have:=(hz (by omega)).1;omega) ?_;rw[hw];simp[qal,KP,qag,h5];refine PC.argsD (args':=[Rq.zero.av,Rq.zero.av]) ⟨.same _,qaP (Rq.nil [] [] [] 0 0),trivial⟩ (qbu E _ .zero (by simp[Rq.zero]) (by simp[Rq.zero]) ?_);simp;refine PC.argsD (args':=[Rq.zero.av,Rq.zero.av]) ⟨.same _,qaP (Rq.nil [] [] [] 0 0),trivial⟩ (qbu E _ .zero (by simp[Rq.zero]) (by simp[Rq.zero]) ?_);simp;exact aQy hB (v:= .bool true) (h6:=hQ)
 have hfv:fltV p= .agg [.int .i64 0,.int .i64 0,.int .i64 0]:=by unfold fltV;rw[if_neg h5]
 have h5':(p.state==5)=false:=by simpa using h5
 obtain⟨z1,z2⟩:=hz h5;by_cases h4:p.state=4
 ·have hL:qaE p=⟨4,p.used,true,p.rq,false,0,0,0⟩:=by unfold qaE;rw[if_neg h5,if_pos h4]
  have hw:p.waits=false:=by unfold Prs.waits;simp[h4]
  rw[hL];simp[Tryz.ntmps32,Tryz.results32,List.replicate_succ,Lk.av,Rq.avs,Rq.zero,h4];refine qd6 E _ (hp.app _) hz.len ?_;simp[Rq.if,Rq.av,Rq.avs,Rq.zero,h4];refine qb6 E _ (hp.app _) hz.len ?_;simp[Rq.if,Rq.av,Rq.avs,Rq.zero,h4];refine qc9 E _ (hp.app _) ?_;rw[hfv];simp[h4];refine qc7 E _ (hp.app _) ?_;simp[qal,KP,qag,h4];refine qd5 E _ (hp.app _) ?_;simp[qal,KP,qag,h4];refine qc6 E _ (hp.app _) (fun e=>by have:=(hz (by omega)).1;omega) ?_;rw[hw];simp[qal,KP,qag,h4];refine PC.argsD (args':=[p.rqH.av,p.rqH.av]) ⟨.same _,qaP (Rq.nilT p.meth p.targ [] p.major p.minor p.fields),trivial⟩ (qbu E _ p.rqH (by show p.fields.length<=_;omega) (by show 0<=_;omega) ?_);simp;refine qbu E _ p.rq (by show p.fields.length<=_;omega) (by show p.trailers.length<=_;omega) ?_;simp;exact aQy hB (v:= .bool true) (h6:=hQ)
 have h4':(p.state==4)=false:=by simpa using h4
 by_cases h3:p.state=3
 ·have hL:qaE p=⟨3,p.used,true,p.rqH,p.waits,0,0,0⟩:=by unfold qaE;rw[if_neg h5,if_neg h4,if_pos h3]
  rw[hL];obtain⟨wv,hw⟩:=exz (p.waits);simp[Tryz.ntmps32,Tryz.results32,List.replicate_succ,Lk.av,Rq.avs,Rq.zero,h3,hw];refine qd6 E _ (hp.app _) hz.len ?_;simp[Rq.if,Rq.av,Rq.avs,Rq.zero,h3,hw];refine qb6 E _ (hp.app _) hz.len ?_;simp[Rq.if,Rq.av,Rq.avs,Rq.zero,h3,hw];refine qc9 E _ (hp.app _) ?_;rw[hfv];simp[h3,hw];refine qc7 E _ (hp.app _) ?_;simp[qal,KP,qag,h3,hw];refine qd5 E _ (hp.app _) ?_;simp[qal,KP,qag,h3,hw];refine qc6 E _ (hp.app _) (fun e=>by have:=(hz (by omega)).1;omega) ?_;rw[hw];simp[qal,KP,qag,h3,hw];refine PC.argsD (args':=[p.rqH.av,p.rqH.av]) ⟨.same _,qaP (Rq.nilT p.meth p.targ [] p.major p.minor p.fields),trivial⟩ (qbu E _ p.rqH (by show p.fields.length<=_;omega) (by show 0<=_;omega) ?_);simp;refine PC.argsD (args':=[Rq.zero.av,Rq.zero.av]) ⟨.same _,qaP (Rq.nil [] [] [] 0 0),trivial⟩ (qbu E _ .zero (by simp[Rq.zero]) (by simp[Rq.zero]) ?_);simp;exact aQy hB (v:= .bool true) (h6:=hQ)
 have h3':(p.state==3)=false:=by simpa using h3
 have hL:qaE p=⟨p.state,p.used,false,.zero,false,0,0,0⟩:=by unfold qaE;rw[if_neg h5,if_neg h4,if_neg h3]
 have hw:p.waits=false:=by unfold Prs.waits;simp[h3]
 rw[hL];simp[Tryz.ntmps32,Tryz.results32,List.replicate_succ,Lk.av,Rq.avs,Rq.zero,h3,h4,h5,h3',h4',h5'];refine qd6 E _ (hp.app _) hz.len ?_;simp[Rq.if,Rq.av,Rq.avs,Rq.zero,h3,h4,h5,h3',h4',h5'];refine qb6 E _ (hp.app _) hz.len ?_;simp[Rq.if,Rq.av,Rq.avs,Rq.zero,h3,h4,h5,h3',h4',h5'];refine qc9 E _ (hp.app _) ?_;rw[hfv];simp[h3,h4,h5,h3',h4',h5'];refine qc7 E _ (hp.app _) ?_;simp[qal,KP,qag,h3,h4,h5,h3',h4',h5'];refine qd5 E _ (hp.app _) ?_;simp[qal,KP,qag,h3,h4,h5,h3',h4',h5'];refine qc6 E _ (hp.app _) (fun e=>by have:=(hz (by omega)).1;omega) ?_;rw[hw];simp[qal,KP,qag,h3,h4,h5,h3',h4',h5'];refine PC.argsD (args':=[Rq.zero.av,Rq.zero.av]) ⟨.same _,qaP (Rq.nil [] [] [] 0 0),trivial⟩ (qbu E _ .zero (by simp[Rq.zero]) (by simp[Rq.zero]) ?_);simp;refine PC.argsD (args':=[Rq.zero.av,Rq.zero.av]) ⟨.same _,qaP (Rq.nil [] [] [] 0 0),trivial⟩ (qbu E _ .zero (by simp[Rq.zero]) (by simp[Rq.zero]) ?_);simp;exact aQy hB (v:= .bool true) (h6:=hQ)
end
section
variable (E:Env){H:Hp}(Q:AV->Hp->Prop)
theorem qmq(hE:PE E)(a b c d:Int)(s:List UInt8)(hs:s.length<=4194304)(hQ:Q (.bool true) H):PC Tryz.prog E 3 [limV a b c d,.str s] H Q:=by
 refine qac Tryz.func3 rfl [] [] (by kernel_rfl) (fun hB=>?_);simp[Tryz.ntmps3,Tryz.results3,List.replicate_succ,limV];refine qi9 E _ hE a b c d s hs ?_;unfold qpJ;by_cases h0:chkE a b c d=0;rotate_left
 ·rw[if_neg h0,qqY _ _ _ _ h0];simp[Rq.av,Rq.avs,Rq.zero];refine qbS E _ a b c d ?_;simp;refine qgT E _ a b c d s hs (fun e=>absurd e h0) (fun _=>?_);simp[Lk.av,Rq.avs,Rq.zero];refine qcg E _ hE ?_;simp;refine PC.argsD (args':=[Rq.zero.av,Rq.zero.av]) ⟨.same _,qaP (Rq.nil [] [] [] 0 0),trivial⟩ (qbu E _ .zero (by simp[Rq.zero]) (by simp[Rq.zero]) ?_);simp;exact aQy hB (v:= .bool true) (h6:=hQ)
 rw[if_pos h0];have hfit:=qkJ h0 s hs;have hu:=qed s (newP a b c d);have hL:=qfu (qaf (newP a b c d) s).1;have hD:=qgT E (H:=H) (a:=a) (b:=b) (c:=c) (d:=d) (s:=s) (hl:=hs);obtain⟨P,hP⟩:=exz ((qaf (newP a b c d) s).1);obtain⟨N,hN⟩:=exz ((qaf (newP a b c d) s).2);have hu0:(newP a b c d).used=0:=rfl;rw[hP,hN,hu0]at hu;rw[hP]at hfit hL;rw[hP,hN];have hPu:P.used=(N:Int):=by omega
 have hw:∀(H':Hp) (Q':AV->Hp->Prop),Q' (.tup [(qaE P).av,.int .i64 (qdL P)]) H'->PC Tryz.prog E 13 [limV a b c d,.str s] H' Q':=fun H' Q' h=>qgT E Q' a b c d s hs (fun _=>by rw[hP];exact h) (fun e=>absurd h0 e);clear hD hP hN hu hu0 hL;by_cases h5:P.state=5
 ·have hLk:qaE P=⟨5,P.used,false,.zero,false,P.fst_,P.ferr,P.fat⟩:=by unfold qaE;rw[if_pos h5]
  have hfv:fltV P= .agg [.int .i64 P.fst_,.int .i64 P.ferr,.int .i64 P.fat]:=by unfold fltV;rw[if_pos h5]
  have hk:qdL P=2:=by unfold qdL;rw[if_neg (by omega),if_pos h5]
  have hd:decide (P.state=4)=false:=by rw[h5];rfl
  rw[hd,hk,hfv];simp[Rq.if,Rq.av,Rq.avs,Rq.zero];refine qbS E _ a b c d ?_;simp;refine hw _ _ ?_;rw[hLk,hk];simp[Lk.av,Rq.avs,Rq.zero,hPu];refine qcg E _ hE ?_;simp;refine PC.argsD (args':=[Rq.zero.av,Rq.zero.av]) ⟨.same _,qaP (Rq.nil [] [] [] 0 0),trivial⟩ (qbu E _ .zero (by simp[Rq.zero]) (by simp[Rq.zero]) ?_);simp;exact aQy hB (v:= .bool true) (h6:=hQ)
 have hfv:fltV P= .agg [.int .i64 0,.int .i64 0,.int .i64 0]:=by unfold fltV;rw[if_neg h5]
 obtain⟨z1,z2⟩:=hfit h5;by_cases h4:P.state=4
 ·have hLk:qaE P=⟨4,P.used,true,P.rq,false,0,0,0⟩:=by unfold qaE;rw[if_neg h5,if_pos h4]
  have hk:qdL P=1:=by unfold qdL;rw[if_pos h4]
  have hd:decide (P.state=4)=true:=by rw[h4];rfl
  rw[hd,hk,hfv];simp[Rq.if,Rq.av,Rq.avs];refine qbS E _ a b c d ?_;simp;refine hw _ _ ?_;rw[hLk,hk];simp[Lk.av,Rq.avs,hPu];refine qcg E _ hE ?_;simp;refine qbu E _ P.rq (by show P.fields.length<=_;omega) (by show P.trailers.length<=_;omega) ?_;simp;exact aQy hB (v:= .bool true) (h6:=hQ)
 have hk:qdL P=0:=by unfold qdL;rw[if_neg h4,if_neg h5]
 have hd:decide (P.state=4)=false:=by simpa using h4
 have hst:(qaE P).st=0/\(qaE P).err=0/\(qaE P).at_=0/\(qaE P).used=P.used:=by
  unfold qaE;rw[if_neg h5,if_neg h4];split<;>exact⟨rfl,rfl,rfl,rfl⟩
 rw[hd,hk,hfv];simp[Rq.if,Rq.av,Rq.avs,Rq.zero];refine qbS E _ a b c d ?_;simp;refine hw _ _ ?_;obtain⟨X,hX⟩:=exz (qaE P);rw[hX]at hst⊢;obtain⟨e1,e2,e3,e4⟩:=hst;rw[hk];simp[Lk.av,Rq.avs,hPu,e1,e2,e3,e4];refine qcg E _ hE ?_;simp;refine PC.argsD (args':=[Rq.zero.av,Rq.zero.av]) ⟨.same _,qaP (Rq.nil [] [] [] 0 0),trivial⟩ (qbu E _ .zero (by simp[Rq.zero]) (by simp[Rq.zero]) ?_);simp;exact aQy hB (v:= .bool true) (h6:=hQ)
end
theorem qjl(W:World)(cs:Array Value)(ks:List AV)(op:Opened W [.int .i64,.int .i64,.int .i64,.int .i64] cs.toList ks)(s:ByteArray)(hs:s.size<=1048576)(hT:Tabs W)(hM:qcW W):
  Calls Tryz.prog 3 #[.agg cs,.string s] W fun e w'=>e= .returned (.bool true)/\Frm (fun _=>False) W w':=by
 obtain⟨a,b,c,d,w0,w1,w2,w3,hr⟩:=qeq op;refine qiE (args:=[limV a b c d,.str s.data.toList]) hT hM rfl (fun t x u hx hu=>?_) (fun E Q hE h=>qmq E Q hE.1 a b c d s.data.toList (by rw[qad];omega) h)
 match t with
 |0=>simp at hx hu;subst hx;subst hu;exact hr
 |1=>simp at hx hu;subst hx;subst hu;exact qgt W s hs
 |t+2=>simp at hx
end Go.Proofs.YtnnhdehmlkkfjaaGreatDoor
namespace Go.Proofs.YtnnhdehmlkkfjaaGreatDoor
open Go Go.ChangeShapes Go.WideShapes Go.ChangeAt Go.RowKit Go.Deep
theorem qhs : Tryz.prog.globalNamed "turnpike/octet.signs" = some 0 := by kernel_rfl
theorem qnz:(Tryz.prog.globals[0]?).map (·.type)=some 140:=by kernel_rfl
theorem qdN{W : World}{rest : List (String × DataW Unit)}(h : laidMet Tryz.prog (("turnpike/octet.signs", Rows.laid_turnpike_octet_signs) :: rest) W) : qho W := by
 have ht : Lib.TabIs Tryz.prog W "turnpike/octet.signs" .u32 signTab := Lib.tabIs_of_head (rest := rest) qhs qnz Tryz.underlying140 Tryz.underlying139 (by kernel_rfl) (by kernel_rfl) h
 intro j z hz;have hj:=(zqC.1 hz).1;have:=ht.cell qhs j hj;rw[List.getD,hz]at this;exact this
theorem qoU : Tryz.prog.globalNamed "math/bits.deBruijn64tab" = some 4 := by kernel_rfl
theorem dbType:(Tryz.prog.globals[4]?).map (·.type)=some 247:=by kernel_rfl
def dbTab:List Int:=[0,1,56,2,57,49,28,3,61,58,42,50,38,29,17,4,62,47,59,36,45,43,51,22,53,39,33,30,24,18,12,5,63,55,48,27,60,41,37,16,46,35,44,21,52,32,23,11,54,26,40,15,34,20,31,10,25,14,19,9,13,8,7,6]
theorem qgf{W : World}{rest : List (String × DataW Unit)}(h : laidMet Tryz.prog (("math/bits.deBruijn64tab", Rows.laid_math_bits_deBruijn64tab) :: rest) W) : Tz W := by
 have ht : Lib.TabIs Tryz.prog W "math/bits.deBruijn64tab" .u8 dbTab := Lib.tabIs_of_head (rest := rest) qoU dbType Tryz.underlying247 Tryz.underlying5 (by kernel_rfl) (by kernel_rfl) h
 exact ht.cell qoU 15 (by decide)
end Go.Proofs.YtnnhdehmlkkfjaaGreatDoor
namespace Go.Proofs.YtnnhdehmlkkfjaaGreatDoor
open Go Go.RowKit Go.Proofs Go.Deep
theorem qqf{p:Prs}(hz:Szd p)(c:Bool)(h:c=true->p.state≠5):(Rq.if c p.rq).fields.length<=16777216/\(Rq.if c p.rq).trailers.length<=16777216:=by
 unfold Rq.if;split
 ·rename_i hc;exact hz.len (h hc)
 ·simp[Rq.zero]
theorem qnH{p:Prs}(hz:Szd p)(c:Bool)(h:c=true->p.state≠5):(Rq.if c p.rqH).fields.length<=16777216/\(Rq.if c p.rqH).trailers.length<=16777216:=by
 unfold Rq.if;split
 ·rename_i hc;exact⟨(hz.len (h hc)).1,Nat.zero_le _⟩
 ·simp[Rq.zero]
structure CuS (a b c d:Int) (H K:Hp) (jp jq:Nat) (s t:List UInt8):Prop where
 le:H.length+5<=K.length
 keep:∀i,i<H.length->K[i]? =H[i]?
 pp:PB K (H.length+2) jp (qaf (newP a b c d) s).1
 pq:PB K (H.length+4) jq (qaf (newP a b c d) t).1
 jjp:(qaf (newP a b c d) s).1.dec.isSome=true->H.length+5<=jp
 jjq:(qaf (newP a b c d) t).1.dec.isSome=true->H.length+5<=jq
 ne:(qaf (newP a b c d) s).1.dec.isSome=true->(qaf (newP a b c d) t).1.dec.isSome=true->jp≠jq
 bd:BndH K.length K
section
variable {a b c d:Int}{H K:Hp}{jp jq:Nat}{s t r:List UInt8}
theorem CuS.lt(h:CuS a b c d H K jp jq s t)(e:(qaf (newP a b c d) s).1.dec.isSome=true):jp<K.length:=by
 obtain⟨d0,hd0⟩:=Option.isSome_iff_exists.1 e;exact(zqC.1 (h.pp.dec d0 hd0).2).1
theorem CuS.feed(h:CuS a b c d H K jp jq s t){K1:Hp}{j1:Nat}(hp:PB K1 (H.length+4) j1 (qaf (qaf (newP a b c d) t).1 r).1)
  (hj:(qaf (qaf (newP a b c d) t).1 r).1.dec.isSome=true->((qaf (newP a b c d) t).1.dec.isSome=true/\j1=jq)\/K.length<=j1) (ho:OthP K K1 (H.length+4) jq (qaf (newP a b c d) t).1.dec.isSome) (hB:BndH K1.length K1):
  CuS a b c d H K1 jp j1 s (t++r):=by
 have hl:=h.le;have e1:(qaf (newP a b c d) (t++r)).1=(qaf (qaf (newP a b c d) t).1 r).1:=by rw[qcT]
 have hat:∀i,i<K.length->i≠H.length+4->((qaf (newP a b c d) t).1.dec.isSome=true->i≠jq)->K1[i]? =K[i]? :=fun i h1 h2 h3=>ho.2 i h1 h2 h3;refine⟨by have:=ho.1;omega,fun i hi=>?_,⟨?_,fun d0 hd0=>?_⟩,by rw[e1];exact hp,h.jjp,fun e=>?_,fun e1' e2'=>?_,hB⟩
 ·rw[hat i (by omega) (by omega) (fun e=>by have:=h.jjq e;omega)];exact h.keep i hi
 ·rw[hat _ (by omega) (by omega) (fun e=>by have:=h.jjq e;omega)];exact h.pp.row
 ·obtain⟨q1,q2⟩:=h.pp.dec d0 hd0;have his:(qaf (newP a b c d) s).1.dec.isSome=true:=by rw[hd0];rfl
  have:=h.jjp his;have:=h.lt his;refine⟨q1,?_⟩;rw[hat jp (by omega) (by omega) (fun e=>h.ne his e)];exact q2
 ·rw[e1]at e;rcases hj e with⟨e3,rfl⟩|e3
  ·exact h.jjq e3
  ·omega
 ·rw[e1]at e2';have:=h.lt e1';rcases hj e2' with⟨e3,rfl⟩|e3
  ·exact h.ne e1' e3
  ·omega
end
section
variable (E:Env){H:Hp}(Q:AV->Hp->Prop)
def cuI(a b c d:Int)(s:List UInt8)(cs:List Int)(H:Hp)(fr:List AV)(K:Hp):Prop:=∃(i n jp jq:Nat),i<=cs.length/\n<=s.length/\CuS a b c d H K jp jq s (s.take n)/\
 ∃x:Nat->AV,fr=[x 0,.str s,.sl false 1 (ints cs),.ptr (some (H.length,0)),x 4,x 5,x 6,.ptr (some (H.length+2,0)),.int .i64 0,.ptr (some (H.length+4,0)),.int .i64 0,.int .i64 ((qaf (newP a b c d) s).2:Int),.str (s.drop n),.int .i64 ((qaf (newP a b c d) (s.take n)).2:Int),.int .i64 (i:Int),x 15,x 16,x 17,x 18,x 19,x 20,x 21,x 22,x 23,x 24,x 25,x 26,x 27,x 28,x 29,x 30,x 31,x 32,x 33,x 34,x 35,x 36,x 37,x 38,x 39,x 40,x 41,x 42,x 43,x 44,x 45,x 46,x 47,x 48,x 49,x 50,x 51,x 52,x 53,x 54,x 55,x 56,x 57,x 58,x 59,x 60,x 61,x 62,x 63,x 64,x 65,x 66,x 67,x 68,x 69,x 70,x 71,x 72,x 73,x 74,x 75,x 76,x 77,x 78,x 79,x 80,x 81,x 82,x 83,x 84,x 85,x 86,x 87,x 88,x 89,x 90,x 91,x 92,x 93,x 94,x 95,x 96,x 97,x 98,x 99,x 100,x 101,x 102,x 103,x 104,x 105,x 106,x 107,x 108,x 109,x 110,x 111,x 112,x 113,x 114,x 115,x 116,x 117,x 118,x 119,x 120,x 121,x 122,x 123,x 124,x 125,x 126,x 127,x 128,x 129,x 130,x 131,x 132,x 133,x 134,x 135,x 136,x 137,x 138,x 139,x 140,x 141,x 142,x 143,x 144,x 145,x 146,x 147,x 148,x 149,x 150,x 151,x 152,x 153,x 154,x 155,x 156,x 157,x 158,x 159,x 160,x 161,x 162,x 163,x 164,x 165,x 166,x 167,x 168,x 169,x 170,x 171,x 172,x 173,x 174,x 175,x 176,x 177,x 178,x 179,x 180,x 181,x 182,x 183,x 184,x 185,x 186,x 187,x 188,x 189,x 190,x 191,x 192,x 193,x 194,x 195,x 196,x 197]
theorem qqv(hE:PE E)(a b c d:Int)(s:List UInt8)(hs:s.length<=1048576)(cs:List Int)(hn:cs.length<=1048576)(hr:∀z∈cs,-9223372036854775808<=z/\z<=9223372036854775807)(hQ:Q (.bool true) H):PC Tryz.prog E 5 [limV a b c d,.str s,.sl false 1 (ints cs)] H Q:=by
 refine qac Tryz.func5 rfl [] [(22,[0,0,0,0,0,0,0,0,0,0,0,0,0,0,0,0,0,0,0,0,0,0,0,0,0,0,0,0,0,0,0,0,1,0,0,0,0,0,0,0,0,0,0,0,0,0,0,0,0,0,0,0,0,1])] (by kernel_rfl) (fun hB=>?_);simp[Tryz.ntmps5,Tryz.results5,List.replicate_succ,limV];refine qgv E _ a b c d (fun h0 hBn=>?_) (fun h0=>?_);rotate_left
 ·have h1:(chkE a b c d==0)=false:=by simpa using h0
  have h2:(chkE a b c d !=0)=true:=by simpa using h0
  simp;refine qgv E _ a b c d (fun h _=>absurd h h0) (fun _=>?_);simp;refine qcg E _ hE ?_;simp[h1,h2];refine qbS E _ a b c d ?_;simp;refine qd0 E _ a b c d ?_;simp[h1,h2];exact aQy hB (v:= .bool true) (h6:=hQ)
 simp[nwH];refine qgv E _ a b c d (fun _ hBn2=>?_) (fun h=>absurd h0 h);simp[nwH];refine qcg E _ hE ?_;simp;refine qbS E _ a b c d ?_;simp;refine qd0 E _ a b c d ?_;simp[h0];have hpbd:∀bb,∀z∈(newP a b c d).av bb 0,Bnd (bb+1) z:=fun bb=>Prs.bnd (by omega) (fun d hd=>by simp[newP]at hd);obtain⟨K0,hK0⟩:∃K0:Hp,H++[[AV.int .i64 a,AV.int .i64 b,AV.int .i64 c,AV.int .i64 d],[AV.int .i64 a,AV.int .i64 b,AV.int .i64 c,AV.int .i64 d],(newP a b c d).av (H.length+2) 0,[AV.int .i64 a,AV.int .i64 b,AV.int .i64 c,AV.int .i64 d],(newP a b c d).av (H.length+4) 0]=K0:=⟨_,rfl⟩
 have hl0:K0.length=H.length+5:=by rw[<-hK0];simp
 have hp0:PB K0 (H.length+2) 0 (newP a b c d):=⟨by rw[<-hK0];simp,fun d hd=>by simp[newP]at hd⟩
 have hq0:PB K0 (H.length+4) 0 (newP a b c d):=⟨by rw[<-hK0];simp,fun d hd=>by simp[newP]at hd⟩
 have hk0:∀i,i<H.length->K0[i]? =H[i]? :=fun i hi=>by rw[<-hK0];exact zqA hi
 rw[hK0];have hfl:=qcr (newP a b c d) s;refine qeT E _ hp0 (fun _=>qeX h0) (fun E2 h02 hF2=>qjI E2 (hE.env h02 hF2)) s (by omega) (by omega) (fun j1 K1 hp1 hj1 ho1 hB1=>?_)
 have hS0:CuS a b c d H K1 j1 0 s []:=⟨by have:=ho1.1;omega,fun i hi=>by rw[ho1.2 i (by omega) (by omega) (fun e=>by simp[newP]at e)];exact hk0 i hi,hp1,⟨by rw[ho1.2 _ (by omega) (by omega) (fun e=>by simp[newP]at e)];exact hq0.row,fun d0 hd0=>by simp[qaf,newP]at hd0⟩,(fun e=>by
  rcases hj1 e with⟨e1,_⟩|e1
  ·simp[newP]at e1
  ·omega),(fun e=>by simp[qaf,newP]at e),(fun _ e=>by simp[qaf,newP]at e),hB1⟩
 simp;refine qaB (cuI a b c d s cs H) (fun fr _=>cs.length-(ai (aget fr 14)).toNat) ⟨0,0,j1,0,by omega,by omega,by simpa using hS0,by simp only[List.drop_zero,List.take_zero,qdW];exact friz⟩ ?_;clear hS0 hB1 ho1 hj1 hp1 hk0 hq0 hp0 hl0 hK0 K0 hBn hBn2 hpbd;rintro fr K ⟨i,n,jp,jq,hi,hnl,hS,x,rfl⟩;have hle:=hS.le;obtain⟨t,ht⟩:=exz (s.take n);obtain⟨u,hu⟩:=exz (s.drop n);have hsu:t++u=s:=by rw[<-ht,<-hu];exact List.take_append_drop n s
 have htl:t.length=n:=by rw[<-ht,zqJ];omega
 have hul:u.length=s.length-n:=by rw[<-hu,zqI]
 rw[ht]at hS⊢;rw[hu];have hft:=qcr (newP a b c d) t;by_cases h:i<cs.length
 ·obtain⟨z,hz⟩:∃z,cs[i]? =some z:=⟨_,zqD h⟩
  have hat:=qsI hz;have hw:IntKind.i64.wrap ((i:Int)+1)=i+1:=wiz;by_cases hz0:z<0
  ·simp[h,hat,hz0,hw];exact Klz ⟨i+1,n,jp,jq,by omega,hnl,by rw[ht];exact hS,by rw[ht,hu];exact friz⟩
  by_cases hz1:(u.length:Int)<z
  ·simp[h,hat,hz0,hz1,hw];exact Klz ⟨i+1,n,jp,jq,by omega,hnl,by rw[ht];exact hS,by rw[ht,hu];exact friz⟩
  obtain⟨m,rfl⟩:=Int.eq_ofNat_of_zero_le (show 0<=z by omega);have hm:m<=u.length:=by omega
  have hfr:=qcr (qaf (newP a b c d) t).1 (u.take m);have hml:(u.take m).length=m:=by rw[zqJ];omega
  have hz0':¬(m:Int)<0:=by omega
  have hz1':¬u.length<m:=by omega
  simp[h,hat,hz0',hz1',hm,-List.length_take];refine qeT E _ hS.pq (qiu h0 t) (fun E2 h02 hF2=>qjI E2 (hE.env h02 hF2)) (u.take m) (by omega) (by omega) (fun j2 K2 hp2 hj2 ho2 hB2=>?_);have hS2:=hS.feed hp2 hj2 ho2 hB2;have htk:t++u.take m=s.take (n+m):=by rw[<-ht,<-hu,List.take_add]
  have hdk:u.drop m=s.drop (n+m):=by rw[<-hu,List.drop_drop]
  have hdk2:(s.drop (n+m)).take (u.length-m)=s.drop (n+m):=zqE (by rw[zqI];omega);have hcnt:(qaf (newP a b c d) (s.take (n+m))).2=(qaf (newP a b c d) t).2+(qaf (qaf (newP a b c d) t).1 (u.take m)).2:=by rw[<-htk,qcT]
  rw[htk]at hS2;have hwm:IntKind.i64.wrap (((qaf (newP a b c d) t).2:Int)+((qaf (qaf (newP a b c d) t).1 (u.take m)).2:Int))=((qaf (newP a b c d) (s.take (n+m))).2:Int):=by rw[qai (by omega) (by omega),hcnt];omega
  simp[hwm,hm,hdk,hdk2,hw,hat];exact Klz ⟨i+1,n+m,jp,j2,by omega,by omega,hS2,friz⟩
 have hfr:=qcr (qaf (newP a b c d) t).1 u;simp[h];refine qeT E _ hS.pq (qiu h0 t) (fun E2 h02 hF2=>qjI E2 (hE.env h02 hF2)) u (by omega) (by omega) (fun j2 K2 hp2 hj2 ho2 hB2=>?_);have hS2:=hS.feed hp2 hj2 ho2 hB2;have hcnt:(qaf (newP a b c d) s).2=(qaf (newP a b c d) t).2+(qaf (qaf (newP a b c d) t).1 u).2:=by rw[<-hsu,qcT]
 rw[hsu]at hS2;have hwm:IntKind.i64.wrap (((qaf (newP a b c d) t).2:Int)+((qaf (qaf (newP a b c d) t).1 u).2:Int))=((qaf (newP a b c d) s).2:Int):=by rw[qai (by omega) (by omega),hcnt];omega
 have hzd:=qkI h0 s (by omega);obtain⟨P,hP⟩:=exz ((qaf (newP a b c d) s).1);obtain⟨N,hN⟩:=exz ((qaf (newP a b c d) s).2);have hpp:=hS2.pp;have hpq:=hS2.pq;have hkeep:=hS2.keep;have hle2:=hS2.le;rw[hP]at hpp hpq hzd;rw[hN]at hwm;rw[hN];obtain⟨f1,f2,f3,hfv⟩:=qou P;obtain⟨R1,hR1⟩:=exz (Rq.if (decide (P.state=4)) P.rq);obtain⟨R2,hR2⟩:=exz (Rq.if (decide (P.state=3)||decide (P.state=4)) P.rqH);have l1:=qqf hzd (decide (P.state=4)) (fun e=>by simp at e;omega);have l2:=qnH hzd (decide (P.state=3)||decide (P.state=4)) (fun e=>by simp at e;omega);rw[hR1]at l1;rw[hR2]at l2;obtain⟨w1,hw1⟩:=exz (P.waits);have hwl:P.state=3->fsz P.fields+P.fields.length<=16777216:=fun e=>by have:=(hzd (by omega)).1;omega
 simp[hwm];refine qb6 E _ hpp hzd.len ?_;rw[hR1];simp[Rq.av,Rq.avs];refine qb6 E _ (hpq.app _) hzd.len ?_;rw[hR1];simp[Rq.av,Rq.avs];refine qc9 E _ (hpp.app _) ?_;rw[hfv];simp;refine qc9 E _ (hpq.app _) ?_;rw[hfv];simp;refine qd6 E _ (hpp.app _) hzd.len ?_;rw[hR2];simp[Rq.av,Rq.avs];refine qd6 E _ (hpq.app _) hzd.len ?_;rw[hR2];simp[Rq.av,Rq.avs];refine qc7 E _ (hpp.app _) ?_;simp;refine qc7 E _ (hpq.app _) ?_;simp;refine qd5 E _ (hpp.app _) ?_;simp;refine qd5 E _ (hpq.app _) ?_;simp;refine qc6 E _ (hpp.app _) hwl ?_;simp;refine qc6 E _ (hpq.app _) hwl ?_;simp;refine qgC E _ R1 l1.1 l1.2 ?_;simp[qal,KP,qag,Rq.av,Rq.avs];refine qbu E _ R1 (by omega) (by omega) ?_;simp;refine qgC E _ R2 l2.1 l2.2 ?_;simp[qal,KP,qag,Rq.av,Rq.avs];refine qbu E _ R2 (by omega) (by omega) ?_;simp;exact qdl hB (by simp;omega) (fun i hi=>by rw[zqA (by omega)];exact hkeep i hi) (by simp) (qaa _) (by simp) hQ
end
def iK:List CK:=[.int .i64]
theorem qfO:∀(rows:List (List AV)),(∀r∈rows,r.length=1/\∀(j:Nat) k y,iK[j]? =some k->r[j]? =some y->qdn k y)->∃cs:List Int,rows=ints cs/\∀z∈cs,-9223372036854775808<=z/\z<=9223372036854775807
 |[],_=>⟨[],rfl,(fun z hz=>by cases hz)⟩
 |r::rows,h=>by
  obtain⟨cs,rfl,hs⟩:=qfO rows (fun q hq=>h q (List.mem_cons_of_mem _ hq));obtain⟨h1,h2⟩:=h r (List.mem_cons_self ..)
  match r,h1 with
  |[y],_=>
   obtain⟨z,rfl,w⟩:=qe0 (h2 0 _ _ rfl rfl);refine⟨z::cs,rfl,fun z' hz'=>?_⟩;rcases List.mem_cons.1 hz' with rfl|hz'
   ·exact w
   ·exact hs z' hz'
theorem qms(W:World)(cs:Array Value)(ks:List AV)(op:Opened W [.int .i64,.int .i64,.int .i64,.int .i64] cs.toList ks)(s:ByteArray)(hs:s.size<=1048576)(bo:Option Addr)(len cap:Nat)(rows:List (List AV))(hr:Rel W (fun _=>0) (old W) (.sl false 1 rows) (.slice bo len cap))(hn:Bnd 0 (.sl false 1 rows))
  (hk:∀r∈rows,r.length=1/\∀(j:Nat) k y,iK[j]? =some k->r[j]? =some y->qdn k y) (e:rows.length=len) (hb:wtA rows.flatten+len<=1048576) (hT:Tabs W) (hM:qcW W):
  Calls Tryz.prog 5 #[.agg cs,.string s,.slice bo len cap] W fun e w'=>e= .returned (.bool true)/\Frm (fun _=>False) W w':=by
 obtain⟨a,b,c,d,w0,w1,w2,w3,hrl⟩:=qeq op;obtain⟨ct,rfl,hct⟩:=qfO rows hk;refine qiE (args:=[limV a b c d,.str s.data.toList,.sl false 1 (ints ct)]) hT hM rfl (fun t x u hx hu=>?_) (fun E Q hE h=>qqv E Q hE.1 a b c d s.data.toList (by rw[qad];omega) ct (by simp at e;omega) hct h)
 match t with
 |0=>simp at hx hu;subst hx;subst hu;exact hrl
 |1=>simp at hx hu;subst hx;subst hu;exact qgt W s hs
 |2=>simp at hx hu;subst hx;subst hu;exact⟨hr,hn,rfl⟩
 |t+3=>simp at hx
theorem maxT{n:Nat}(h:n<=8589934592):(n<=maxLen)=True:=by unfold maxLen;simp;omega
structure POp where
 nx:Bool
 s:List UInt8
def POp.av(o:POp):List AV:=[.bool o.nx,.str o.s]
def pops(l:List POp):List (List AV):=l.map POp.av
@[simp] theorem pops_len (l:List POp):(pops l).length=l.length:=by simp[pops]
theorem qsr{l:List POp}{i:Nat}{o:POp}(h:l[i]? =some o):lat (pops l) i=some [.bool o.nx,.str o.s]:=by simp[lat,pops,h,POp.av]
def ptx:List POp->Nat
 |[]=>0
 |o::l=>o.s.length+ptx l
theorem qqj{l:List POp}{i:Nat}{o:POp}(h:l[i]? =some o):ptx (l.drop i)=o.s.length+ptx (l.drop (i+1)):=by
 rw[List.drop_eq_getElem_cons (at_lt h),(zqC.1 h).2];rfl
structure PlS (a b c d:Int) (H K:Hp) (j:Nat) (all:List UInt8):Prop where
 le:H.length+4<=K.length
 keep:∀i,i<H.length->K[i]? =H[i]?
 k7:K[H.length+3]? =some [.int .i64 a,.int .i64 b,.int .i64 c,.int .i64 d]
 pb:PB K (H.length+2) j (qaf (newP a b c d) all).1
 jj:(qaf (newP a b c d) all).1.dec.isSome=true->H.length+4<=j
 bd:BndH K.length K
 wh:(qaf (newP a b c d) all).2=all.length
section
variable {a b c d:Int}{H K:Hp}{j:Nat}{all t:List UInt8}
theorem PlS.app(h:PlS a b c d H K j all)(J:Hp)(hJ:∀l∈J,∀x∈l,Bnd (K++J).length x):PlS a b c d H (K++J) j all:=by
 have hl:=h.le;exact⟨by simp;omega,fun i hi=>by rw[zqA (by omega)];exact h.keep i hi,by rw[zqA (by omega)];exact h.k7,h.pb.app J,h.jj,qcU (qd2 h.bd (by simp)) hJ,h.wh⟩
theorem qlG(h:(qaf (newP a b c d) all).2=all.length):qaf (newP a b c d) (all++t)=((qaf (qaf (newP a b c d) all).1 t).1,all.length+(qaf (qaf (newP a b c d) all).1 t).2):=by
 rw[qcT,h]
theorem qlF(h:(qaf (newP a b c d) all).2=all.length):qaf (newP a b c d) ((all++t).take (all.length+(qaf (qaf (newP a b c d) all).1 t).2))=((qaf (qaf (newP a b c d) all).1 t).1,all.length+(qaf (qaf (newP a b c d) all).1 t).2):=by
 have h1:=qlG (t:=t) h;have h2:=qhU (all++t) (newP a b c d);rw[h1]at h2;exact h2
theorem qjM(h:(qaf (newP a b c d) all).2=all.length):((all++t).take (all.length+(qaf (qaf (newP a b c d) all).1 t).2)).length=all.length+(qaf (qaf (newP a b c d) all).1 t).2:=by
 have:=qcr (qaf (newP a b c d) all).1 t;rw[zqJ,zqK];omega
theorem PlS.feed(h:PlS a b c d H K j all){K1:Hp}{j1:Nat}(hp:PB K1 (H.length+2) j1 (qaf (qaf (newP a b c d) all).1 t).1)
  (hj:(qaf (qaf (newP a b c d) all).1 t).1.dec.isSome=true->((qaf (newP a b c d) all).1.dec.isSome=true/\j1=j)\/K.length<=j1) (ho:OthP K K1 (H.length+2) j (qaf (newP a b c d) all).1.dec.isSome) (hB:BndH K1.length K1):
  PlS a b c d H K1 j1 ((all++t).take (all.length+(qaf (qaf (newP a b c d) all).1 t).2)):=by
 have hl:=h.le;have hc:=qlF (t:=t) h.wh;refine⟨by have:=ho.1;omega,fun i hi=>?_,?_,by rw[hc];exact hp,fun e=>?_,hB,by rw[hc,qjM h.wh]⟩
 ·rw[ho.2 i (by omega) (by omega) (fun e=>by have:=h.jj e;omega)];exact h.keep i hi
 ·rw[ho.2 _ (by omega) (by omega) (fun e=>by have:=h.jj e;omega)];exact h.k7
 ·rw[hc]at e;rcases hj e with⟨e1,rfl⟩|e1
  ·exact h.jj e1
  ·omega
theorem PlS.next(h:PlS a b c d H K j all)(hp:PB (K.set (H.length+2) ((newP a b c d).av (H.length+2) j)) (H.length+2) j (newP a b c d))(hB:BndH K.length (K.set (H.length+2) ((newP a b c d).av (H.length+2) j))):
  PlS a b c d H (K.set (H.length+2) ((newP a b c d).av (H.length+2) j)) j []:=by
 have hl:=h.le;exact⟨by simpa using hl,fun i hi=>by rw[zqF (by omega)];exact h.keep i hi,by rw[zqF (by omega)];exact h.k7,hp,(fun e=>by simp[qaf,newP]at e),by rw[List.length_set];exact hB,rfl⟩
end
section
variable (E:Env){H:Hp}(Q:AV->Hp->Prop)
def lpI(a b c d:Int)(sc:List POp)(H:Hp)(fr:List AV)(K:Hp):Prop:=∃(i:Nat) (all:List UInt8) (j:Nat),i<=sc.length/\all.length+ptx (sc.drop i)<=1048576/\PlS a b c d H K j all/\
 ∃x:Nat->AV,fr=[x 0,.sl false 2 (pops sc),.ptr (some (H.length,0)),x 3,x 4,.ptr (some (H.length+2,0)),.int .i64 0,.ptr (some (H.length+3,0)),.str all,.int .i64 (i:Int),x 10,x 11,x 12,x 13,x 14,x 15,x 16,x 17,x 18,x 19,x 20,x 21,x 22,x 23,x 24,x 25,x 26,x 27,x 28,x 29,x 30,x 31,x 32,x 33,x 34,x 35,x 36,x 37,x 38,x 39,x 40,x 41,x 42,x 43,x 44,x 45,x 46,x 47,x 48,x 49,x 50,x 51,x 52,x 53,x 54,x 55,x 56,x 57,x 58,x 59,x 60,x 61,x 62,x 63,x 64,x 65,x 66,x 67,x 68,x 69,x 70,x 71,x 72,x 73,x 74,x 75,x 76,x 77,x 78,x 79,x 80,x 81,x 82,x 83,x 84,x 85,x 86,x 87,x 88,x 89,x 90,x 91,x 92,x 93,x 94,x 95,x 96,x 97,x 98,x 99,x 100,x 101,x 102,x 103,x 104,x 105,x 106,x 107,x 108,x 109,x 110,x 111]
theorem qn7(hE:PE E)(a b c d:Int)(sc:List POp)(hn:sc.length<=1048576)(hs:ptx sc<=1048576)(hQ:Q (.bool true) H):PC Tryz.prog E 7 [limV a b c d,.sl false 2 (pops sc)] H Q:=by
 refine qac Tryz.func7 rfl [] [(22,[0,0,0,0,0,0,0,0,4]),(23,[9,0,0,0,0,0,0,2,0,2,0,2])] (by kernel_rfl) (fun hB=>?_);simp[Tryz.ntmps7,Tryz.results7,List.replicate_succ,limV];refine qgv E _ a b c d (fun h0 hBn=>?_) (fun h0=>?_);rotate_left
 ·have h1:(chkE a b c d==0)=false:=by simpa using h0
  have h2:(chkE a b c d !=0)=true:=by simpa using h0
  simp;refine qbS E _ a b c d ?_;simp;refine qcg E _ hE ?_;simp;refine qd0 E _ a b c d ?_;simp[h1,h2];exact aQy hB (v:= .bool true) (h6:=hQ)
 simp[nwH];refine qbS E _ a b c d ?_;simp;refine qcg E _ hE ?_;simp;refine qd0 E _ a b c d ?_;simp[h0];refine qaB (lpI a b c d sc H) (fun fr _=>sc.length-(ai (aget fr 9)).toNat) ⟨0,[],0,by omega,by simpa using hs,⟨by simp,fun i hi=>zqA hi,by simp,⟨by simp[qaf],fun d hd=>by simp[qaf,newP]at hd⟩,(fun e=>by simp[qaf,newP]at e),?_,rfl⟩,friz⟩ ?_
 ·refine qcU (qd2 hB (by simp)) ?_;have hpb:∀z∈(newP a b c d).av (H.length+2) 0,Bnd (H.length+4) z:=Prs.bnd (by omega) (fun d hd=>by simp[newP]at hd);intro l hl x hx;simp only[List.mem_cons,List.not_mem_nil,or_false]at hl;rcases hl with rfl|rfl|rfl|rfl
  ·simp at hx;rcases hx with rfl|rfl|rfl|rfl<;>exact .int _ _
  ·simp at hx;rcases hx with rfl|rfl|rfl|rfl<;>exact .int _ _
  ·exact(hpb x hx).mono (by simp)
  ·simp at hx;rcases hx with rfl|rfl|rfl|rfl<;>exact .int _ _
 rintro fr K ⟨i,all,j,hi,hsz,hS,x,rfl⟩;have hle:=hS.le;have k7:=hS.k7;have hpb:=hS.pb;have hwh:=hS.wh;have g7:∀J:Hp,(K++J)[H.length+3]? =some [.int .i64 a,.int .i64 b,.int .i64 c,.int .i64 d]:=fun J=>by rw[zqA (by omega)];exact k7
 obtain⟨P,hP⟩:=exz ((qaf (newP a b c d) all).1);have hzd:Szd P:=by rw[<-hP];exact qkI h0 all (by omega)
 by_cases h:i<sc.length;rotate_left
 ·simp[h,k7];refine qfR E _ a b c d h0 all (by omega) ?_;rw[hP];simp;refine qde E _ (by rw[<-hP];exact hpb) hzd ?_;simp;exact qdl hB (by omega) hS.keep (by simp) (qaa _) (by simp) hQ
 obtain⟨o,ho⟩:∃o,sc[i]? =some o:=⟨_,zqD h⟩
 have hat:=qsr ho;have htx:=qqj ho;have hw:IntKind.i64.wrap ((i:Int)+1)=i+1:=wiz;obtain⟨nx,t⟩:=o;simp only at hat htx;simp[h,k7,-Int.natCast_add];refine qfR E _ a b c d h0 all (by omega) ?_;rw[hP];obtain⟨X,hX⟩:=exz (qaE P);have hst:X.state=P.state:=by rw[<-hX,qgD]
 have hus:X.used=P.used:=by rw[<-hX,qfu]
 have hPu:P.used=(all.length:Int):=by have:=qed all (newP a b c d);rw[hP,hwh]at this;simpa[newP]using this
 rw[hX]
 have hlaw:∀x∈[AV.int .i64 X.state,.int .i64 X.used,.bool X.head,.str X.r.meth,.str X.r.targ,.int .i64 X.r.major,.int .i64 X.r.minor,.sl false 2 (flds X.r.fields),.str X.r.body,.sl false 2 (flds X.r.trailers),.bool X.waits,.int .i64 X.st,.int .i64 X.err,.int .i64 X.at_],∀N,Bnd N x:=fun x hx N=>by
  simp only[List.mem_cons,List.not_mem_nil,or_false]at hx;rcases hx with rfl|rfl|rfl|rfl|rfl|rfl|rfl|rfl|rfl|rfl|rfl|rfl|rfl|rfl<;>first|exact qbZ _ _ _|constructor
 have hS1:=hS.app [[AV.int .i64 X.state,.int .i64 X.used,.bool X.head,.str X.r.meth,.str X.r.targ,.int .i64 X.r.major,.int .i64 X.r.minor,.sl false 2 (flds X.r.fields),.str X.r.body,.sl false 2 (flds X.r.trailers),.bool X.waits,.int .i64 X.st,.int .i64 X.err,.int .i64 X.at_]] (fun l hl x hx=>by simp only[List.mem_cons,List.not_mem_nil,or_false]at hl;subst hl;exact hlaw x hx _);rw[hP]at hpb;have han:P.anew=newP a b c d:=by rw[<-hP];exact qta a b c d all
 cases nx with
 |true=>
  by_cases h40:P.state=4\/P.state=0
  ·have s7:∀(J:Hp) y,((K++J).set (H.length+2) y)[H.length+3]? =some [.int .i64 a,.int .i64 b,.int .i64 c,.int .i64 d]:=fun J y=>by rw[zqF (by omega)];exact g7 J
   rcases h40 with h4|h0'
   ·simp[Lk.av,Rq.avs,hat,hst,h4];refine qf0 E _ (hpb.app _) (fun _ hpb2 hB2=>?_) (fun e=>absurd (.inl h4) e);rw[han]at hpb2 hB2⊢;simp[s7];refine qfR E _ a b c d h0 [] (by simp) ?_;rw[qdW];simp;refine qde E _ (p:=newP a b c d) hpb2 (fun _=>by simp[newP,fsz]) ?_;simp[hw];rw[hst,h4]at hS1;exact Klz ⟨i+1,[],j,by omega,by simp;omega,hS1.next hpb2 hB2,friz⟩
   ·simp[Lk.av,Rq.avs,hat,hst,h0'];refine qf0 E _ (hpb.app _) (fun _ hpb2 hB2=>?_) (fun e=>absurd (.inr h0') e);rw[han]at hpb2 hB2⊢;simp[s7];refine qfR E _ a b c d h0 [] (by simp) ?_;rw[qdW];simp;refine qde E _ (p:=newP a b c d) hpb2 (fun _=>by simp[newP,fsz]) ?_;simp[hw];rw[hst,h0']at hS1;exact Klz ⟨i+1,[],j,by omega,by simp;omega,hS1.next hpb2 hB2,friz⟩
  ·have h4:(P.state==4)=false:=by simpa using fun e=>h40 (.inl e)
   have h0':(P.state==0)=false:=by simpa using fun e=>h40 (.inr e)
   simp[Lk.av,Rq.avs,hat,hst,h4,h0'];refine qf0 E _ (hpb.app _) (fun e=>absurd e h40) (fun _=>?_);simp;refine qf0 E _ (hpb.app _) (fun e=>absurd e h40) (fun _=>?_);simp[g7];refine qfR E _ a b c d h0 all (by omega) ?_;rw[hP];simp;refine qde E _ (hpb.app _) hzd ?_;simp[hw];rw[hst]at hS1;exact Klz ⟨i+1,all,j,by omega,by omega,hS1,friz⟩
 |false=>
  obtain⟨P',hP'⟩:=exz ((qaf P t).1);obtain⟨n,hn'⟩:=exz ((qaf P t).2);have hnt:=qcr P t;have hfa:=qlG (t:=t) hwh;have hfc:=qlF (t:=t) hwh;have hcw:=qjM (t:=t) hwh;rw[hP,hP',hn']at hfa hfc;rw[hP,hn']at hcw;rw[hn']at hnt;obtain⟨Y,hY⟩:=exz (qaE P');have hPu':P'.used=((all.length+n:Nat):Int):=by have:=qed (all++t) (newP a b c d);rw[hfa]at this;simpa[newP]using this
  have hus':Y.used=((all.length+n:Nat):Int):=by rw[<-hY,qfu,hPu']
  have husX:X.used=(all.length:Int):=by rw[hus,hPu]
  have hmx:(all.length+t.length<=maxLen)=True:=maxT (by omega);simp[Lk.av,Rq.avs,hat,g7,hmx];refine qch fun J=>?_;refine qfR E _ a b c d h0 (all++t) (by rw[zqK];omega) ⟨rfl,?_⟩;rw[hfa];simp only;rw[hY];simp[Lk.av,Rq.avs,hat];refine qrh (fun i=>i=K.length\/i=K.length+1) fun E2 hS2 h02 hF2 hp2=>?_;have hE2:=hE.env h02 hF2;have hft:=qiu h0 all;rw[hP,hwh]at hft
  have hlawY:∀x∈[AV.int .i64 Y.state,.int .i64 Y.used,.bool Y.head,.str Y.r.meth,.str Y.r.targ,.int .i64 Y.r.major,.int .i64 Y.r.minor,.sl false 2 (flds Y.r.fields),.str Y.r.body,.sl false 2 (flds Y.r.trailers),.bool Y.waits,.int .i64 Y.st,.int .i64 Y.err,.int .i64 Y.at_],∀N,Bnd N x:=fun x hx N=>by
   simp only[List.mem_cons,List.not_mem_nil,or_false]at hx;rcases hx with rfl|rfl|rfl|rfl|rfl|rfl|rfl|rfl|rfl|rfl|rfl|rfl|rfl|rfl<;>first|exact qbZ _ _ _|constructor
  have hS12:=hS.app [[AV.int .i64 X.state,.int .i64 X.used,.bool X.head,.str X.r.meth,.str X.r.targ,.int .i64 X.r.major,.int .i64 X.r.minor,.sl false 2 (flds X.r.fields),.str X.r.body,.sl false 2 (flds X.r.trailers),.bool X.waits,.int .i64 X.st,.int .i64 X.err,.int .i64 X.at_],[AV.int .i64 Y.state,.int .i64 Y.used,.bool Y.head,.str Y.r.meth,.str Y.r.targ,.int .i64 Y.r.major,.int .i64 Y.r.minor,.sl false 2 (flds Y.r.fields),.str Y.r.body,.sl false 2 (flds Y.r.trailers),.bool Y.waits,.int .i64 Y.st,.int .i64 Y.err,.int .i64 Y.at_]] (fun l hl x hx=>by
   simp only[List.mem_cons,List.not_mem_nil,or_false]at hl;rcases hl with rfl|rfl
   ·exact hlaw x hx _
   ·exact hlawY x hx _)
  simp[hat];obtain⟨K2,hK2⟩:∃K2:Hp,K++[[AV.int .i64 X.state,.int .i64 X.used,.bool X.head,.str X.r.meth,.str X.r.targ,.int .i64 X.r.major,.int .i64 X.r.minor,.sl false 2 (flds X.r.fields),.str X.r.body,.sl false 2 (flds X.r.trailers),.bool X.waits,.int .i64 X.st,.int .i64 X.err,.int .i64 X.at_],[AV.int .i64 Y.state,.int .i64 Y.used,.bool Y.head,.str Y.r.meth,.str Y.r.targ,.int .i64 Y.r.major,.int .i64 Y.r.minor,.sl false 2 (flds Y.r.fields),.str Y.r.body,.sl false 2 (flds Y.r.trailers),.bool Y.waits,.int .i64 Y.st,.int .i64 Y.err,.int .i64 Y.at_]]=K2:=⟨_,rfl⟩
  have kx2:K2[K.length]? =some [AV.int .i64 X.state,.int .i64 X.used,.bool X.head,.str X.r.meth,.str X.r.targ,.int .i64 X.r.major,.int .i64 X.r.minor,.sl false 2 (flds X.r.fields),.str X.r.body,.sl false 2 (flds X.r.trailers),.bool X.waits,.int .i64 X.st,.int .i64 X.err,.int .i64 X.at_]:=by rw[<-hK2];simp
  have ky2:K2[K.length+1]? =some [AV.int .i64 Y.state,.int .i64 Y.used,.bool Y.head,.str Y.r.meth,.str Y.r.targ,.int .i64 Y.r.major,.int .i64 Y.r.minor,.sl false 2 (flds Y.r.fields),.str Y.r.body,.sl false 2 (flds Y.r.trailers),.bool Y.waits,.int .i64 Y.st,.int .i64 Y.err,.int .i64 Y.at_]:=by rw[<-hK2];simp
  have hl2:K2.length=K.length+2:=by rw[<-hK2];simp
  have hjK:P.dec.isSome=true->j<K.length:=fun e=>by
   obtain⟨d0,hd0⟩:=Option.isSome_iff_exists.1 e;exact(zqC.1 (hpb.dec d0 hd0).2).1
  have hpb2:=hS12.pb;rw[hK2]at hS12 hpb2⊢;rw[hP]at hpb2;refine qeT E2 _ hpb2 hft (fun E3 h03 hF3=>qjI E3 (hE2.env h03 hF3)) t (by rw[hn'];omega) (by omega) (fun j1 K1 hp1 hj1 ho1 hB1=>?_);have kx:K1[K.length]? =some [AV.int .i64 X.state,.int .i64 X.used,.bool X.head,.str X.r.meth,.str X.r.targ,.int .i64 X.r.major,.int .i64 X.r.minor,.sl false 2 (flds X.r.fields),.str X.r.body,.sl false 2 (flds X.r.trailers),.bool X.waits,.int .i64 X.st,.int .i64 X.err,.int .i64 X.at_]:=by rw[ho1.2 _ (by omega) (by omega) (fun e=>by have:=hjK e;omega)];exact kx2
  have ky:K1[K.length+1]? =some [AV.int .i64 Y.state,.int .i64 Y.used,.bool Y.head,.str Y.r.meth,.str Y.r.targ,.int .i64 Y.r.major,.int .i64 Y.r.minor,.sl false 2 (flds Y.r.fields),.str Y.r.body,.sl false 2 (flds Y.r.trailers),.bool Y.waits,.int .i64 Y.st,.int .i64 Y.err,.int .i64 Y.at_]:=by rw[ho1.2 _ (by omega) (by omega) (fun e=>by have:=hjK e;omega)];exact ky2
  have hl1:=ho1.1
  have hKP:KP 2 E2.S K2 K1:=⟨hl1,fun i hi hi2=>by
   rw[hS2]at hi;rcases hi with rfl|rfl
   ·rw[kx,kx2]
   ·rw[ky,ky2]⟩
  have hpF:=hp1;rw[<-hP]at hp1 hj1 ho1;have hS3:=hS12.feed hp1 hj1 ho1 hB1;have hcut2:=hcw;rw[hP,hn']at hS3;rw[hn'];have hsub:IntKind.i64.wrap (((all.length+n:Nat):Int)-(all.length:Int))=(n:Int):=by rw[qai (by omega) (by omega)];omega
  have k71:=hS3.k7;obtain⟨all2,ha2⟩:=exz ((all++t).take (all.length+n));rw[ha2]at hS3 hfc hcut2;have hnl:all.length+n<=(all++t).length:=by rw[zqK];omega
  have hnl2:all.length+n<=all.length+t.length:=by omega
  have hSa:E2.S K.length:=by rw[hS2];exact .inl rfl
  have hSb:E2.S (K.length+1):=by rw[hS2];exact .inr rfl
  simp[qal,hKP,kx,ky,hat,hus',husX,hsub,hmx,hnt,hnl2,ha2,k71,hSa,hSb,-Int.natCast_add];refine qfR E _ a b c d h0 all2 (by omega) ?_;rw[hfc];simp;refine qde E _ (p:=P') (by rw[<-hP'];exact hpF) ?_ ?_
  ·rw[<-hP',<-hP];have:=qkI h0 all2 (by omega);rw[hfc,<-hP',<-hP]at this;exact this
  simp[hw];exact Klz ⟨i+1,all2,j1,by omega,by omega,hS3,friz⟩
end
def pK:List CK:=[.bool,.str]
theorem qfK:∀(rows:List (List AV)),(∀r∈rows,r.length=2/\∀(j:Nat) k y,pK[j]? =some k->r[j]? =some y->qdn k y)->∃sc:List POp,rows=pops sc/\ptx sc=wtA rows.flatten
 |[],_=>⟨[],rfl,rfl⟩
 |r::rows,h=>by
  obtain⟨sc,rfl,ht⟩:=qfK rows (fun q hq=>h q (List.mem_cons_of_mem _ hq));obtain⟨h1,h2⟩:=h r (List.mem_cons_self ..)
  match r,h1 with
  |[y0,y1],_=>
   obtain⟨z0,rfl⟩:=qod (h2 0 _ _ rfl rfl);obtain⟨z1,rfl⟩:=qqy (h2 1 _ _ rfl rfl);refine⟨⟨z0,z1⟩::sc,rfl,?_⟩;rw[List.flatten_cons,qjZ,ptx,ht];simp[wtA]
theorem qkx(W:World)(cs:Array Value)(ks:List AV)(op:Opened W [.int .i64,.int .i64,.int .i64,.int .i64] cs.toList ks)(bo:Option Addr)(len cap:Nat)(rows:List (List AV))(hr:Rel W (fun _=>0) (old W) (.sl false 2 rows) (.slice bo len cap))(hn:Bnd 0 (.sl false 2 rows))
  (hk:∀r∈rows,r.length=2/\∀(j:Nat) k y,pK[j]? =some k->r[j]? =some y->qdn k y) (e:rows.length=len) (hb:wtA rows.flatten+len<=1048576) (hT:Tabs W) (hM:qcW W):
  Calls Tryz.prog 7 #[.agg cs,.slice bo len cap] W fun e w'=>e= .returned (.bool true)/\Frm (fun _=>False) W w':=by
 obtain⟨a,b,c,d,w0,w1,w2,w3,hrl⟩:=qeq op;obtain⟨sc,rfl,ht⟩:=qfK rows hk;refine qiE (args:=[limV a b c d,.sl false 2 (pops sc)]) hT hM rfl (fun t x u hx hu=>?_) (fun E Q hE h=>qn7 E Q hE.1 a b c d sc (by simp at e;omega) (by omega) h)
 match t with
 |0=>simp at hx hu;subst hx;subst hu;exact hrl
 |1=>simp at hx hu;subst hx;subst hu;exact⟨hr,hn,rfl⟩
 |t+2=>simp at hx
end Go.Proofs.YtnnhdehmlkkfjaaGreatDoor
