/- Part 10 of the texts below the law. -/
import Derived.Test.YtnnhdehmlkkfjaaGreatDoorPe9
set_option maxRecDepth 100000
set_option maxHeartbeats 16000000
set_option linter.unusedVariables false
set_option linter.unusedSimpArgs false
set_option linter.unusedSectionVars false
namespace Go.Proofs.YtnnhdehmlkkfjaaGreatDoor
open Go Go.RowKit Go.Shelf
def PE(E:Env):Prop:=SE2 E/\ME E
theorem SE2.env{E E':Env}(h:SE2 E)(h0:E'.w0=E.w0)(hF:E'.Fix=E.Fix):SE2 E':=⟨⟨by rw[hF];exact h.1.1,by rw[h0];exact h.1.2⟩,by rw[hF];exact h.2.1,by rw[h0];exact h.2.2⟩
theorem ME.env{E E':Env}(h:ME E)(h0:E'.w0=E.w0)(hF:E'.Fix=E.Fix):ME E':=⟨by rw[hF];exact h.1,by rw[h0];exact h.2⟩
theorem PE.env{E E':Env}(h:PE E)(h0:E'.w0=E.w0)(hF:E'.Fix=E.Fix):PE E':=⟨h.1.env h0 hF,h.2.env h0 hF⟩
theorem qmT{α:Type}(l:List α)(k:Nat)(x:α)(h:l[k]? =some x):l.drop k=x::l.drop (k+1):=by
 have hlt:=(zqC.1 h).1;rw[List.drop_eq_getElem_cons hlt,(zqC.1 h).2]
theorem qdr(c:UInt8):∀l:List UInt8,(qbl c l).length<=l.length+1/\∀g∈qbl c l,g.length<=l.length
 |[]=>by simp[qbl]
 |x::r=>by
  obtain⟨h1,h2⟩:=qdr c r;rw[qbl];split
  ·refine⟨by simp;omega,fun g hg=>?_⟩;rcases List.mem_cons.1 hg with rfl|hg
   ·simp
   ·have:=h2 g hg;simp;omega
  ·split
   ·rename_i h t he;rw[he]at h1 h2;refine⟨by simp at h1⊢;omega,fun g hg=>?_⟩;rcases List.mem_cons.1 hg with rfl|hg
    ·have:=h2 h (.head _);simp;omega
    ·have:=h2 g (.tail _ hg);simp;omega
   ·exact⟨by simp,fun g hg=>by simp at hg;subst hg;simp⟩
theorem qcS(l:List UInt8)(m:Int)(hm:0<=m):0<=(qae 10 m l).1/\(qae 10 m l).1<=m:=by
 unfold qae
 repeat' split
 all_goals first
  |exact⟨Int.le_refl _,hm⟩
  |skip
 rename_i h1 h2 h3;exact⟨qbw 10 (by decide) l (by simpa using h2),by simp only;omega⟩
theorem qmY(c:UInt8):∀l:List UInt8,(cut2 c l).1.length<=l.length/\(cut2 c l).2.1.length<=l.length
 |[]=>by simp[cut2]
 |[a]=>by simp[cut2]
 |a::b::r=>by
  obtain⟨h1,h2⟩:=qmY c (b::r);rw[cut2];split
  ·simp;omega
  ·simp only[zqL]at h1 h2⊢;omega
section
open Go.Lib
variable (E:Env){H:Hp}(Q:AV->Hp->Prop)
theorem qdx(hE:SE2 E)(n:Int)(h0: -9223372036854775808<=n)(h1:n<=9223372036854775807)(hQ:Q (.str (itoa n)) H):PC Tryz.prog E 56 [.int .i64 n] H Q:=by
 refine qac Tryz.func56 rfl [] [] (by kernel_rfl) (fun hB=>?_);simp[Tryz.ntmps56,Tryz.results56,List.replicate_succ];refine qux E H _ hE n h0 h1 ?_;simp;exact aQz hB (h6:=hQ)
theorem qe9(s:List UInt8)(i:Nat)(c:UInt8)(other:Int)(hc:s[i]? =some c)(hQ:Q (.int .i64 (qcV c other)) H):PC Tryz.prog E 191 [.str s,.int .i64 (i:Int),.int .i64 other] H Q:=by
 refine qac Tryz.func191 rfl [] [] (by kernel_rfl) (fun hB=>?_);have la:=qas hc;unfold qcV at hQ;by_cases h:c=37
 ·subst h;simp[Tryz.ntmps191,Tryz.results191,List.replicate_succ,la];exact aQz hB (h6:=hQ)
 ·have hb:=(qaE c 37 (by decide) 37 rfl h).1;rw[if_neg h]at hQ;simp[Tryz.ntmps191,Tryz.results191,List.replicate_succ,la,hb];exact aQz hB (h6:=hQ)
def dtI(H:Hp)(s:List UInt8)(L:List (List UInt8))(fr:List AV)(K:Hp):Prop:=K=H/\∃i:Nat,i<=L.length/\(L.take i).all qeH=true/\
 ∃x:Nat->AV,fr=[.str s,x 1,x 2,.sl false 1 (strs L),x 4,x 5,x 6,x 7,x 8,x 9,.sl false 1 (strs L),.int .i64 (L.length:Int),.int .i64 (i:Int),x 13,x 14,x 15,x 16,x 17,x 18,x 19,x 20,x 21,x 22,x 23,x 24,x 25,x 26,x 27,x 28,x 29,x 30,x 31,x 32]
theorem qlH(hE:PE E)(s:List UInt8)(hl:s.length<=1073741824)(hQ:Q (.bool (dotB s)) H):PC Tryz.prog E 236 [.str s] H Q:=by
 refine qac Tryz.func236 rfl [] [] (by kernel_rfl) (fun hB=>?_);simp[Tryz.ntmps236,Tryz.results236,List.replicate_succ];refine qme E _ hE.2 s 46 hl ?_;obtain⟨h1,h2⟩:=qdr 46 s;obtain⟨L,hL⟩:=exz (qbl 46 s);unfold dotB at hQ;rw[hL]at h1 h2 hQ⊢;simp;refine qaB (dtI H s L) (fun fr _=>L.length-(ai (aget fr 12)).toNat) ⟨rfl,0,by omega,by simp,friz⟩ ?_;rintro fr K ⟨rfl,i,hi,hS,x,rfl⟩;by_cases h:i<L.length
 ·obtain⟨g,hg⟩:∃g,L[i]? =some g:=⟨_,zqD h⟩
  have hat:=qcW hg;have hgl:=h2 g (zqH hg);have w1:IntKind.i64.wrap ((i:Int)+1)=i+1:=wiz;have hst:=qbB qeH L i g hg;have hsp:=qcO qeH L i g hg;simp[h,hat];refine qcU E _ _ g 255 (by simp only[cap];omega) (by decide) (by decide) ?_;have hr:=qcS g 255 (by decide);by_cases he:(qae 10 255 g).2=0
  ·simp[he];refine qdx E _ hE.1 _ (by omega) (by omega) ?_;by_cases hd:itoa (qae 10 255 g).1=g
   ·have hok:qeH g=true:=by unfold qeH;simp[he,hd]
    simp[hd,w1];exact Klz ⟨rfl,i+1,by omega,by rw[hst,hS,hok];rfl,friz⟩
   ·have hok:qeH g=false:=by unfold qeH;simp[he,hd]
    have hd':(itoa (qae 10 255 g).1==g)=false:=by simpa using hd
    have hd2:(itoa (qae 10 255 g).1 !=g)=true:=by simpa using hd
    rw[hsp hok]at hQ;simp[hd',hd2];exact aQz hB (h6:=(by simpa using hQ))
  ·have hok:qeH g=false:=by unfold qeH;simp[he]
   have he1:((qae 10 255 g).2==0)=false:=by simpa using he
   have he2:((qae 10 255 g).2 !=0)=true:=by simpa using he
   rw[hsp hok]at hQ;simp[he1,he2];exact aQz hB (h6:=(by simpa using hQ))
 ·obtain rfl:i=L.length:=by omega
  rw[List.take_length]at hS;rw[hS,Bool.true_and]at hQ;simp;refine aQz hB (h6:=?_);have:((L.length:Int)==4)=(L.length==4):=by rw[Bool.eq_iff_iff];simp;omega
  rw[this];exact hQ
def grI(H:Hp)(s:List UInt8)(last:Bool)(L:List (List UInt8))(fr:List AV)(K:Hp):Prop:=K=H/\∃i:Nat,i<=L.length/\goG last L 0=goG last (L.drop i) (i:Int)/\
 ∃x:Nat->AV,fr=[.str s,.bool last,x 2,x 3,x 4,x 5,.int .i64 (i:Int),.sl false 1 (strs L),x 8,x 9,x 10,x 11,x 12,x 13,x 14,.sl false 1 (strs L),.int .i64 (L.length:Int),.int .i64 (i:Int),x 18,x 19,x 20,x 21,x 22,x 23,x 24,x 25,x 26,x 27,x 28,x 29,x 30,x 31,x 32,x 33,x 34,x 35,x 36,x 37,x 38,x 39,x 40,x 41,x 42,x 43,x 44,x 45,x 46,x 47,x 48,x 49,x 50,x 51,x 52,x 53,x 54,x 55,x 56,x 57,x 58,x 59,x 60]
def grI2(H:Hp)(s:List UInt8)(last:Bool)(L:List (List UInt8))(g:List UInt8)(i:Nat)(fr:List AV)(K:Hp):Prop:=K=H/\∃k:Nat,k<=g.length/\(g.take k).all (fun c=>decide (0<=hexT c))=true/\
 ∃x:Nat->AV,fr=[.str s,.bool last,x 2,x 3,x 4,x 5,.int .i64 (i:Int),.sl false 1 (strs L),x 8,.str g,x 10,x 11,x 12,x 13,x 14,.sl false 1 (strs L),.int .i64 (L.length:Int),.int .i64 (i:Int),x 18,x 19,x 20,x 21,x 22,x 23,x 24,x 25,x 26,x 27,x 28,x 29,x 30,x 31,x 32,x 33,x 34,x 35,x 36,x 37,x 38,x 39,x 40,x 41,x 42,x 43,x 44,x 45,x 46,.int .i64 (g.length:Int),.int .i64 (k:Int),x 49,x 50,x 51,x 52,x 53,x 54,x 55,x 56,x 57,x 58,x 59,x 60]
theorem qhm(hE:PE E)(s:List UInt8)(last:Bool)(hl:s.length<=1073741824)(hQ:∀v ok,qbz s last=(v,ok)->Q (.tup [.int .i64 v,.bool ok]) H):PC Tryz.prog E 226 [.str s,.bool last] H Q:=by
 refine qac Tryz.func226 rfl [] [] (by kernel_rfl) (fun hB=>?_);by_cases h0:s=[]
 ·subst h0;simp[Tryz.ntmps226,Tryz.results226,List.replicate_succ];exact aQz hB (h6:=(hQ 0 true rfl))
 have h0':(s==[])=false:=by simpa using h0
 simp[Tryz.ntmps226,Tryz.results226,List.replicate_succ,h0'];refine qme E _ hE.2 s 58 hl ?_;obtain⟨h1,h2⟩:=qdr 58 s;have fin:∀v ok,goG last (qbl 58 s) 0=(v,ok)->Q (.tup [.int .i64 v,.bool ok]) H:=fun v ok h=>hQ v ok (by unfold qbz;rw[if_neg h0];exact h);obtain⟨L,hL⟩:=exz (qbl 58 s);rw[hL]at h1 h2 fin⊢;clear hQ;simp;refine qaB (grI H s last L) (fun fr _=>L.length-(ai (aget fr 17)).toNat) ⟨rfl,0,by omega,by simp,friz⟩ ?_;rintro fr K ⟨rfl,i,hi,hS,x,rfl⟩;by_cases h:i<L.length
 ·obtain⟨g,hg⟩:∃g,L[i]? =some g:=⟨_,zqD h⟩
  have hat:=qcW hg;have hgl:=h2 g (zqH hg);have w1:IntKind.i64.wrap ((i:Int)+1)=i+1:=wiz;have w2:IntKind.i64.wrap ((i:Int)+2)=i+2:=wiz;have w3:IntKind.i64.wrap ((L.length:Int)-1)=L.length-1:=wiz;rw[qmT L i g hg,goG]at hS
  have hem:(L.drop (i+1)).isEmpty=((i:Int)==(L.length:Int)-1):=by
   rw[Bool.eq_iff_iff];simp;omega
  rw[hem]at hS;by_cases hcd:(last&&((i:Int)==(L.length:Int)-1))=true
  ·have hla:last=true:=by simp only[Bool.and_eq_true]at hcd;exact hcd.1
   have his:((i:Int)==(L.length:Int)-1)=true:=by simp only[Bool.and_eq_true]at hcd;exact hcd.2
   subst hla;rw[his]at hS;simp[h,hat,w3,his];refine qlR E _ g 46 ?_;cases hc46:g.contains 46 with
   |true=>
    rw[hc46,if_pos (by simp)]at hS;simp[w2];refine qlH E _ hE g (by omega) ?_;simp;exact aQz hB (h6:=(fin _ _ hS))
   |false=>
    rw[hc46,if_neg (by simp)]at hS;simp;clear his hcd;by_cases hlen:g.length<1\/4<g.length
    ·rw[if_pos hlen]at hS;by_cases q1:g.length<1
     ·have q2:g=[]:=List.length_eq_zero_iff.1 (by omega);simp[q2];exact aQz hB (h6:=(fin _ _ hS))
     ·have q2:¬(g.length:Int)<1:=by omega
      have q3:(4:Int)<g.length:=by omega
      simp[q2,q3];exact aQz hB (h6:=(fin _ _ hS))
    ·rw[if_neg hlen]at hS;have q2:¬(g.length:Int)<1:=by omega
     have q3:¬(4:Int)<g.length:=by omega
     simp[q2,q3];refine qaB (grI2 _ s true L g i) (fun fr _=>g.length-(ai (aget fr 48)).toNat) ⟨rfl,0,by omega,by simp,friz⟩ ?_;rintro fr K ⟨rfl,k,hk,hA,y,rfl⟩;by_cases hkl:k<g.length
     ·obtain⟨c,hc⟩:∃c,g[k]? =some c:=⟨_,zqD hkl⟩
      have la:=qas hc;have wk:IntKind.i64.wrap ((k:Int)+1)=k+1:=wiz;simp[hkl,la];refine qfE E _ c ?_;by_cases hx:0<=hexT c
      ·have hx':¬hexT c<0:=by omega
       have ha:=qbB (fun c=>decide (0<=hexT c)) g k c hc;simp[hx',wk];exact Klz ⟨rfl,k+1,by omega,by rw[ha,hA];simpa using hx,friz⟩
      ·have hx':hexT c<0:=by omega
       have ha:=qcO (fun c=>decide (0<=hexT c)) g k c hc (by simpa using hx);rw[ha,if_neg (by simp)]at hS;simp[hx'];exact aQz hB (h6:=(fin _ _ hS))
     ·obtain rfl:k=g.length:=by omega
      rw[List.take_length]at hA;rw[hA,if_pos rfl]at hS;simp[w1];exact Klz ⟨rfl,i+1,by omega,by rw[hS];simp,friz⟩
  ·have hcd':(last&&((i:Int)==(L.length:Int)-1))=false:=by simpa using hcd
   rw[hcd',Bool.false_and,if_neg (by simp)]at hS
   have hpath:last=false\/(last=true/\((i:Int)==(L.length:Int)-1)=false):=by
    cases last
    ·exact .inl rfl
    ·exact .inr ⟨rfl,by simpa using hcd'⟩
   clear hcd hcd';by_cases hlen:g.length<1\/4<g.length
   ·rw[if_pos hlen]at hS;by_cases q1:g.length<1
    ·have q2:(g.length:Int)<1:=by omega
     rcases hpath with rfl|⟨rfl,his⟩
     ·simp[h,hat,w3,q2];exact aQz hB (h6:=(fin _ _ hS))
     ·simp[h,hat,w3,q2,his];exact aQz hB (h6:=(fin _ _ hS))
    ·have q2:¬(g.length:Int)<1:=by omega
     have q3:(4:Int)<g.length:=by omega
     rcases hpath with rfl|⟨rfl,his⟩
     ·simp[h,hat,w3,q2,q3];exact aQz hB (h6:=(fin _ _ hS))
     ·simp[h,hat,w3,q2,q3,his];exact aQz hB (h6:=(fin _ _ hS))
   ·rw[if_neg hlen]at hS;have q2:¬(g.length:Int)<1:=by omega
    have q3:¬(4:Int)<g.length:=by omega
    rcases hpath with rfl|⟨rfl,his⟩
    ·simp[h,hat,w3,q2,q3];refine qaB (grI2 _ s false L g i) (fun fr _=>g.length-(ai (aget fr 48)).toNat) ⟨rfl,0,by omega,by simp,friz⟩ ?_;rintro fr K ⟨rfl,k,hk,hA,y,rfl⟩;by_cases hkl:k<g.length
     ·obtain⟨c,hc⟩:∃c,g[k]? =some c:=⟨_,zqD hkl⟩
      have la:=qas hc;have wk:IntKind.i64.wrap ((k:Int)+1)=k+1:=wiz;simp[hkl,la];refine qfE E _ c ?_;by_cases hx:0<=hexT c
      ·have hx':¬hexT c<0:=by omega
       have ha:=qbB (fun c=>decide (0<=hexT c)) g k c hc;simp[hx',wk];exact Klz ⟨rfl,k+1,by omega,by rw[ha,hA];simpa using hx,friz⟩
      ·have hx':hexT c<0:=by omega
       have ha:=qcO (fun c=>decide (0<=hexT c)) g k c hc (by simpa using hx);rw[ha,if_neg (by simp)]at hS;simp[hx'];exact aQz hB (h6:=(fin _ _ hS))
     ·obtain rfl:k=g.length:=by omega
      rw[List.take_length]at hA;rw[hA,if_pos rfl]at hS;simp[w1];exact Klz ⟨rfl,i+1,by omega,by rw[hS];simp,friz⟩
    ·simp[h,hat,w3,q2,q3,his];refine qaB (grI2 _ s true L g i) (fun fr _=>g.length-(ai (aget fr 48)).toNat) ⟨rfl,0,by omega,by simp,friz⟩ ?_;rintro fr K ⟨rfl,k,hk,hA,y,rfl⟩;by_cases hkl:k<g.length
     ·obtain⟨c,hc⟩:∃c,g[k]? =some c:=⟨_,zqD hkl⟩
      have la:=qas hc;have wk:IntKind.i64.wrap ((k:Int)+1)=k+1:=wiz;simp[hkl,la];refine qfE E _ c ?_;by_cases hx:0<=hexT c
      ·have hx':¬hexT c<0:=by omega
       have ha:=qbB (fun c=>decide (0<=hexT c)) g k c hc;simp[hx',wk];exact Klz ⟨rfl,k+1,by omega,by rw[ha,hA];simpa using hx,friz⟩
      ·have hx':hexT c<0:=by omega
       have ha:=qcO (fun c=>decide (0<=hexT c)) g k c hc (by simpa using hx);rw[ha,if_neg (by simp)]at hS;simp[hx'];exact aQz hB (h6:=(fin _ _ hS))
     ·obtain rfl:k=g.length:=by omega
      rw[List.take_length]at hA;rw[hA,if_pos rfl]at hS;simp[w1];exact Klz ⟨rfl,i+1,by omega,by rw[hS];simp,friz⟩
 ·obtain rfl:i=L.length:=by omega
  rw[List.drop_length,goG]at hS;simp;exact aQz hB (h6:=(fin _ _ hS))
theorem qeY(s:List UInt8)(last:Bool)(hl:s.length<=1073741824):0<=(qbz s last).1/\(qbz s last).1<=2147483648:=by
 refine⟨qez s last,?_⟩;unfold qbz;split
 ·simp
 ·have:=(qpC last (qbl 58 s) 0 (by omega)).2;have:=(qdr 58 s).1;omega
theorem qkt(hE:PE E)(s:List UInt8)(hl:s.length<=1073741824)(hQ:Q (.bool (qf7 s)) H):PC Tryz.prog E 211 [.str s] H Q:=by
 refine qac Tryz.func211 rfl [] [] (by kernel_rfl) (fun hB=>?_);simp[Tryz.ntmps211,Tryz.results211,List.replicate_succ];refine qqk E _ hE.2 s [58,58] hl ?_;rw[ix2];unfold qf7 at hQ;have hln:=qmY 58 s;rcases hcut:cut2 58 s with⟨a,b,there⟩;rw[hcut]at hQ hln;simp only at hln;cases there with
 |false=>
  dsimp only at hQ;simp;refine qhm E _ hE s true hl (fun v ok hg=>?_);rw[hg]at hQ;cases ok
  ·simp;exact aQz hB (h6:=hQ)
  ·simp;exact aQz hB (h6:=(by simpa using hQ))
 |true=>
  dsimp only at hQ;simp;have r1:=qeY a false (by omega);have r2:=qeY b true (by omega);refine qhm E _ hE a false (by omega) (fun v ok hg=>?_);rw[hg]at hQ r1;simp;refine qhm E _ hE b true (by omega) (fun u ok2 hg2=>?_);rw[hg2]at hQ r2;simp only at r1 r2;have w:IntKind.i64.wrap (v+u)=v+u:=wiz;cases ok
  ·simp;exact aQz hB (h6:=(by simpa using hQ))
  ·cases ok2
   ·simp;exact aQz hB (h6:=(by simpa using hQ))
   ·simp[w];exact aQz hB (h6:=(by simpa using hQ))
theorem qfy(hE:PE E)(s:List UInt8)(hl:s.length<=1073741824)(hQ:Q (.bool (qeX s)) H):PC Tryz.prog E 189 [.str s] H Q:=by
 refine qac Tryz.func189 rfl [] [] (by kernel_rfl) (fun hB=>?_);simp[Tryz.ntmps189,Tryz.results189,List.replicate_succ];refine qgm E _ s 91 ?_;unfold qeX at hQ;by_cases h91:s.head? =some 91
 ·rw[if_pos h91]at hQ;simp[h91];refine qkv E _ s 93 ?_;by_cases h93:s.getLast? =some 93
  ·have h2:2<=s.length:=by
    match s,h91,h93 with
    |[a],h91,h93=>simp at h91 h93;rw[h91]at h93;cases h93
    |_::_::_,_,_=>simp
   have w:IntKind.i64.wrap ((s.length:Int)-1)=((s.length-1:Nat):Int):=by rw[qak (by omega) (by omega)];omega
   have q1:1<=s.length-1:=by omega
   have e:(s.tail.take (s.length-1-1))=s.tail.dropLast:=by rw[List.dropLast_eq_take,List.length_tail]
   rw[h93]at hQ;simp[h93,w,q1,e];refine qkt E _ hE _ (by simp;omega) ?_;simp;exact aQz hB (h6:=(by simpa using hQ))
  ·have h93':(s.getLast? ==some 93)=false:=by simpa using h93
   rw[h93']at hQ;simp[h93'];exact aQz hB (h6:=(by simpa using hQ))
 ·rw[if_neg h91]at hQ;have h91':(s.head? ==some 91)=false:=by simpa using h91
  by_cases hne:s=[]
  ·subst hne;simp;exact aQz hB (h6:=(by simpa using hQ))
  ·have hne':(s !=[])=true:=by simpa using hne
   have hie:s.isEmpty=false:=by simpa using hne
   simp[h91',hne'];refine qgu E _ s 3 qcj qpj hl ?_;have e:((qaK qcj s:Int)==(s.length:Int))=(qaK qcj s==s.length):=by rw[Bool.eq_iff_iff];simp;omega
   rw[hie,Bool.not_false,Bool.true_and,<-e]at hQ;simp;exact aQz hB (h6:=hQ)
def finA(host port:List UInt8):List UInt8×Int×Int:=
 if qeX host=false\/5<port.length then([],0,52)else if port=[]then(low host,-1,0)else if(qae 10 65535 port).2≠0 then([],0,52)else(low host,(qae 10 65535 port).1,0)
theorem qpB{s:List UInt8}{c:UInt8}(h:s.head? =some c):lat s 0=some c:=by
 cases s with
 |nil=>cases h
 |cons a r=>simpa[lat]using h
theorem qde (hE : PE E) (s : List UInt8) (hl : s.length ≤ 1073741824) (hQ : ∀ h p e, qbo s = (h, p, e) → -1 ≤ p → p ≤ 65535 → h.length ≤ 1073741824 → Q (.tup [.str h, .int .i64 p, .int .i64 e]) H) : PC Tryz.prog E 163 [.str s] H Q := by
  refine qac Tryz.func163 rfl [] [] (by kernel_rfl) (fun hB => ?_)
  have bad : qbo s = ([], 0, 52) → Q (.tup [.str [], .int .i64 0, .int .i64 52]) H := fun h => hQ _ _ _ h (by decide) (by decide) (by simp)
  simp [Tryz.ntmps163, Tryz.results163, List.replicate_succ]
  refine qaF E _ _ s 93 ?_
  simp
  refine qgm E _ s 91 ?_
  obtain ⟨i1, i2⟩ := qfY s 93
  have ic := qeg s 93
  obtain ⟨t1, t2⟩ := qck (· != 93) s
  by_cases hb : s.head? = some 91 ∧ s.contains 93
  · obtain ⟨h91, h93⟩ := hb
    have h0 : 0 ≤ Lib.indexByte s 93 := by rw [h93] at ic; simpa using ic
    obtain ⟨e1, e2⟩ := i1 h0
    obtain ⟨n, hn⟩ := exz ((s.takeWhile (· != 93)).length)
    rw [hn] at e1 t1 t2
    have hib : Lib.indexByte s 93 = n := by omega
    have hn0 : 0 < n := by
      cases s with
      | nil => cases h91
      | cons a r =>
        simp at h91
        subst h91
        rw [List.takeWhile_cons_of_pos (by decide)] at hn
        rw [← hn]; simp
    have hnl : n < s.length := by
      have : s.drop n ≠ [] := by rw [t2]; exact e2
      rw [Ne, List.drop_eq_nil_iff] at this
      omega
    have w : IntKind.i64.wrap ((n : Int) + 1) = ((n + 1 : Nat) : Int) := by rw [qak (by omega) (by omega)]; omega
    have q1 : n + 1 ≤ s.length := by omega
    have htk : (s.drop (n + 1)).take (s.length - (n + 1)) = s.drop (n + 1) := zqE (by simp)
    have hcutA : qbP s = (s.take (n + 1), (s.drop (n + 1)).drop 1, (s.drop (n + 1)).isEmpty || (s.drop (n + 1)).head? == some 58) := by
      unfold qbP
      rw [if_pos ⟨h91, h93⟩, hn]
    have hlr : (s.drop (n + 1)).length = s.length - (n + 1) := zqI
    obtain ⟨R, hR⟩ := exz (s.drop (n + 1))
    obtain ⟨T, hT⟩ := exz (s.take (n + 1))
    have hTl : T.length ≤ s.length := by rw [← hT, zqJ]; omega
    rw [hR] at hcutA htk hlr
    rw [hT] at hcutA
    have hl1 : ((R.drop 1).length) ≤ s.length := by rw [zqI]; omega
    by_cases hR0 : R = []
    · subst hR0
      have hA : qbo s = finA T [] := by unfold qbo finA; rw [hcutA]; simp
      simp [h91, hib, hn0, w, q1, htk, hT, hR, -Int.natCast_add]
      refine qfd E _ [] 58 ?_
      obtain ⟨port, hport⟩ := exz ((if ([] : List UInt8).head? = some 58 then List.drop 1 ([] : List UInt8) else []))
      rw [hport]
      have hp00 : port = [] := hport.symm
      rw [← hp00] at hA
      have hpl : port.length ≤ s.length := by rw [hp00]; simp
      clear hport hp00
      simp
      refine qfy E _ hE T (by omega) ?_
      cases hh : qeX T with
      | false =>
        simp
        exact aQz hB (h6 := (bad (by rw [hA]; unfold finA; rw [if_pos (.inl hh)])))
      | true =>
        by_cases h5 : 5 < port.length
        · have h5' : (5 : Int) < port.length := by omega
          simp [h5']
          exact aQz hB (h6 := (bad (by rw [hA]; unfold finA; rw [if_pos (.inr h5)])))
        · have h5' : ¬ (5 : Int) < port.length := by omega
          by_cases hp0 : port = []
          · have hA2 : qbo s = (low T, -1, 0) := by rw [hA]; unfold finA; rw [if_neg (by rw [hh]; simp [h5]), if_pos hp0]
            simp [h5', hp0]
            refine qb3 E _ _ T (by simp only [cap]; omega) ?_
            simp
            exact aQz hB (h6 := (hQ _ _ _ hA2 (by decide) (by decide) (by rw [qaO]; omega)))
          · have hp0' : (port != []) = true := by simpa using hp0
            have hr := qcS port 65535 (by decide)
            simp [h5', hp0']
            refine qcU E _ _ port 65535 (by simp only [cap]; omega) (by decide) (by decide) ?_
            by_cases he : (qae 10 65535 port).2 = 0
            · have hA2 : qbo s = (low T, (qae 10 65535 port).1, 0) := by rw [hA]; unfold finA; rw [if_neg (by rw [hh]; simp [h5]), if_neg hp0, if_neg (by simp [he])]
              simp [he]
              refine qb3 E _ _ T (by simp only [cap]; omega) ?_
              simp
              exact aQz hB (h6 := (hQ _ _ _ hA2 (by omega) (by omega) (by rw [qaO]; omega)))
            · have he' : ((qae 10 65535 port).2 != 0) = true := by simpa using he
              have he2 : ((qae 10 65535 port).2 == 0) = false := by simpa using he
              simp [he', he2]
              exact aQz hB (h6 := (bad (by rw [hA]; unfold finA; rw [if_neg (by rw [hh]; simp [h5]), if_neg hp0, if_pos he])))
    · have hR0' : (R != []) = true := by simpa using hR0
      by_cases h58 : R.head? = some 58
      · have ha := qpB h58
        have hRl : 0 < R.length := List.length_pos_iff.2 hR0
        have hA : qbo s = finA T (R.drop 1) := by unfold qbo finA; rw [hcutA, h58]; simp
        simp [h91, hib, hn0, w, q1, htk, hT, hR, hR0', ha, hRl, -Int.natCast_add]
        refine qfd E _ R 58 ?_
        rw [if_pos h58]
        obtain ⟨port, hport⟩ : ∃ p : List UInt8, R.drop 1 = p := ⟨_, rfl⟩
        rw [hport] at hA hl1 ⊢
        have hpl : port.length ≤ s.length := hl1
        simp
        refine qfy E _ hE T (by omega) ?_
        cases hh : qeX T with
        | false =>
          simp
          exact aQz hB (h6 := (bad (by rw [hA]; unfold finA; rw [if_pos (.inl hh)])))
        | true =>
          by_cases h5 : 5 < port.length
          · have h5' : (5 : Int) < port.length := by omega
            simp [h5']
            exact aQz hB (h6 := (bad (by rw [hA]; unfold finA; rw [if_pos (.inr h5)])))
          · have h5' : ¬ (5 : Int) < port.length := by omega
            by_cases hp0 : port = []
            · have hA2 : qbo s = (low T, -1, 0) := by rw [hA]; unfold finA; rw [if_neg (by rw [hh]; simp [h5]), if_pos hp0]
              simp [h5', hp0]
              refine qb3 E _ _ T (by simp only [cap]; omega) ?_
              simp
              exact aQz hB (h6 := (hQ _ _ _ hA2 (by decide) (by decide) (by rw [qaO]; omega)))
            · have hp0' : (port != []) = true := by simpa using hp0
              have hr := qcS port 65535 (by decide)
              simp [h5', hp0']
              refine qcU E _ _ port 65535 (by simp only [cap]; omega) (by decide) (by decide) ?_
              by_cases he : (qae 10 65535 port).2 = 0
              · have hA2 : qbo s = (low T, (qae 10 65535 port).1, 0) := by rw [hA]; unfold finA; rw [if_neg (by rw [hh]; simp [h5]), if_neg hp0, if_neg (by simp [he])]
                simp [he]
                refine qb3 E _ _ T (by simp only [cap]; omega) ?_
                simp
                exact aQz hB (h6 := (hQ _ _ _ hA2 (by omega) (by omega) (by rw [qaO]; omega)))
              · have he' : ((qae 10 65535 port).2 != 0) = true := by simpa using he
                have he2 : ((qae 10 65535 port).2 == 0) = false := by simpa using he
                simp [he', he2]
                exact aQz hB (h6 := (bad (by rw [hA]; unfold finA; rw [if_neg (by rw [hh]; simp [h5]), if_neg hp0, if_pos he])))
      · obtain ⟨a, r, hRa⟩ : ∃ a r, R = a :: r := by
          cases R with
          | nil => exact absurd rfl hR0
          | cons a r => exact ⟨a, r, rfl⟩
        have ha58 : a ≠ 58 := fun e => h58 (by rw [hRa, e]; rfl)
        have hb2 := (qaE a 58 (by decide) 58 rfl ha58).2
        have ha : lat R 0 = some a := by rw [hRa]; rfl
        have hRl : 0 < R.length := List.length_pos_iff.2 hR0
        simp [h91, hib, hn0, w, q1, htk, hT, hR, hR0', ha, hRl, hb2, -Int.natCast_add]
        refine aQz hB (h6 := (bad ?_))
        unfold qbo
        rw [hcutA, if_pos]
        left
        have h58' : (R.head? == some 58) = false := by simpa using h58
        have hie : R.isEmpty = false := by simpa using hR0
        rw [hie, h58']; rfl
  · have hA : qbo s = finA (cut1 58 s).1 (cut1 58 s).2.1 := by
      unfold qbo finA qbP
      rw [if_neg hb]
      simp
    have hcl : (cut1 58 s).1.length ≤ s.length ∧ (cut1 58 s).2.1.length ≤ s.length := by
      obtain ⟨u1, u2⟩ := qck (· != 58) s
      unfold cut1
      simp only
      rw [← u1, ← u2, zqJ, zqI, zqI]
      omega
    have go : ∀ g : Prop, g → g := fun _ h => h
    obtain ⟨T, hT⟩ := exz ((cut1 58 s).1)
    obtain ⟨port, hport⟩ := exz ((cut1 58 s).2.1)
    rw [hT, hport] at hA hcl
    have hpl := hcl.2
    have hTl := hcl.1
    by_cases h91 : s.head? = some 91
    · have h93 : s.contains 93 = false := by simpa using fun h => hb ⟨h91, h⟩
      rw [h93] at ic
      have h0 : ¬ 0 < Lib.indexByte s 93 := by
        have : ¬ 0 ≤ Lib.indexByte s 93 := by simpa using ic
        omega
      simp [h91, h0]
      refine qqk E _ hE.2 s [58] hl ?_
      rw [qmZ, hT, hport]
      simp
      refine qfy E _ hE T (by omega) ?_
      cases hh : qeX T with
      | false =>
        simp
        exact aQz hB (h6 := (bad (by rw [hA]; unfold finA; rw [if_pos (.inl hh)])))
      | true =>
        by_cases h5 : 5 < port.length
        · have h5' : (5 : Int) < port.length := by omega
          simp [h5']
          exact aQz hB (h6 := (bad (by rw [hA]; unfold finA; rw [if_pos (.inr h5)])))
        · have h5' : ¬ (5 : Int) < port.length := by omega
          by_cases hp0 : port = []
          · have hA2 : qbo s = (low T, -1, 0) := by rw [hA]; unfold finA; rw [if_neg (by rw [hh]; simp [h5]), if_pos hp0]
            simp [h5', hp0]
            refine qb3 E _ _ T (by simp only [cap]; omega) ?_
            simp
            exact aQz hB (h6 := (hQ _ _ _ hA2 (by decide) (by decide) (by rw [qaO]; omega)))
          · have hp0' : (port != []) = true := by simpa using hp0
            have hr := qcS port 65535 (by decide)
            simp [h5', hp0']
            refine qcU E _ _ port 65535 (by simp only [cap]; omega) (by decide) (by decide) ?_
            by_cases he : (qae 10 65535 port).2 = 0
            · have hA2 : qbo s = (low T, (qae 10 65535 port).1, 0) := by rw [hA]; unfold finA; rw [if_neg (by rw [hh]; simp [h5]), if_neg hp0, if_neg (by simp [he])]
              simp [he]
              refine qb3 E _ _ T (by simp only [cap]; omega) ?_
              simp
              exact aQz hB (h6 := (hQ _ _ _ hA2 (by omega) (by omega) (by rw [qaO]; omega)))
            · have he' : ((qae 10 65535 port).2 != 0) = true := by simpa using he
              have he2 : ((qae 10 65535 port).2 == 0) = false := by simpa using he
              simp [he', he2]
              exact aQz hB (h6 := (bad (by rw [hA]; unfold finA; rw [if_neg (by rw [hh]; simp [h5]), if_neg hp0, if_pos he])))
    · have h91' : (s.head? == some 91) = false := by simpa using h91
      simp [h91']
      refine qqk E _ hE.2 s [58] hl ?_
      rw [qmZ, hT, hport]
      simp
      refine qfy E _ hE T (by omega) ?_
      cases hh : qeX T with
      | false =>
        simp
        exact aQz hB (h6 := (bad (by rw [hA]; unfold finA; rw [if_pos (.inl hh)])))
      | true =>
        by_cases h5 : 5 < port.length
        · have h5' : (5 : Int) < port.length := by omega
          simp [h5']
          exact aQz hB (h6 := (bad (by rw [hA]; unfold finA; rw [if_pos (.inr h5)])))
        · have h5' : ¬ (5 : Int) < port.length := by omega
          by_cases hp0 : port = []
          · have hA2 : qbo s = (low T, -1, 0) := by rw [hA]; unfold finA; rw [if_neg (by rw [hh]; simp [h5]), if_pos hp0]
            simp [h5', hp0]
            refine qb3 E _ _ T (by simp only [cap]; omega) ?_
            simp
            exact aQz hB (h6 := (hQ _ _ _ hA2 (by decide) (by decide) (by rw [qaO]; omega)))
          · have hp0' : (port != []) = true := by simpa using hp0
            have hr := qcS port 65535 (by decide)
            simp [h5', hp0']
            refine qcU E _ _ port 65535 (by simp only [cap]; omega) (by decide) (by decide) ?_
            by_cases he : (qae 10 65535 port).2 = 0
            · have hA2 : qbo s = (low T, (qae 10 65535 port).1, 0) := by rw [hA]; unfold finA; rw [if_neg (by rw [hh]; simp [h5]), if_neg hp0, if_neg (by simp [he])]
              simp [he]
              refine qb3 E _ _ T (by simp only [cap]; omega) ?_
              simp
              exact aQz hB (h6 := (hQ _ _ _ hA2 (by omega) (by omega) (by rw [qaO]; omega)))
            · have he' : ((qae 10 65535 port).2 != 0) = true := by simpa using he
              have he2 : ((qae 10 65535 port).2 == 0) = false := by simpa using he
              simp [he', he2]
              exact aQz hB (h6 := (bad (by rw [hA]; unfold finA; rw [if_neg (by rw [hh]; simp [h5]), if_neg hp0, if_pos he])))
def tgV(fm pt:Int)(h pa qu:List UInt8)(hq:Bool):AV:= .agg [.int .i64 fm,.str h,.int .i64 pt,.str pa,.str qu,.bool hq]
theorem qhO(fm pt:Int)(h pa qu:List UInt8)(hq:Bool)(s:List UInt8)(at_:Nat)(hat:at_<=s.length)(hl:s.length<=1073741824)(hhl:h.length<=1073741824)
  (hQ:∀fm pt h pa qu hq v,Q (.tup [tgV fm pt h pa qu hq,.int .i64 v,.int .i64 (behE (s.drop at_))]) H):PC Tryz.prog E 164 [tgV fm pt h pa qu hq,.str s,.int .i64 (at_:Int)] H Q:=by
 refine qac Tryz.func164 rfl [] [] (by kernel_rfl) (fun hB=>?_);obtain⟨u,hu⟩:=exz (s.drop at_);have hul:u.length=s.length-at_:=by rw[<-hu,zqI]
 have htk:u.take (s.length-at_)=u:=zqE (by omega);have hnl:=qdt qcZ _ u (Nat.le_refl _);rw[hu]at hQ;have hQ':∀e,behE u=e->∀fm pt h pa qu hq v,Q (.tup [.agg [.int .i64 fm,.str h,.int .i64 pt,.str pa,.str qu,.bool hq],.int .i64 v,.int .i64 e]) H:=fun e he fm pt h pa qu hq v=>he▸hQ fm pt h pa qu hq v;clear hQ;simp[Tryz.ntmps164,Tryz.results164,List.replicate_succ,tgV,hat,hu,htk];refine qgu E _ u 15 qcZ qpi (by omega) ?_;obtain⟨n,hn⟩:=exz (qaK qcZ u);rw[hn]at hnl⊢;obtain⟨k,hk⟩:=exz (at_+n);have w1:IntKind.i64.wrap ((at_:Int)+(n:Int))=(k:Int):=by rw[qak (by omega) (by omega)];omega
 have w2:IntKind.i64.wrap ((k:Int)+1)=((k+1:Nat):Int):=by rw[qak (by omega) (by omega)];omega
 have q1:at_<=k:=by omega
 have q2:k<=s.length:=by omega
 have hdk:u.drop n=s.drop k:=by rw[<-hu,List.drop_drop,hk]
 have htl:(u.take (k-at_)).length<=1073741824:=by rw[zqJ];omega
 obtain⟨P,hP⟩:=exz (u.take (k-at_));rw[hP]at htl;by_cases hP0:P=[]
 ·simp[w1,q1,q2,hu,hP,hP0];have hnn:True:=trivial;by_cases he:k=s.length
  ·have hb:behE u=0:=by unfold behE;rw[hn,hdk,he,List.drop_length]
   simp[he];exact aQy hB (h6:=(hQ' _ hb fm pt h [47] qu hq 0))
  ·have hks:k<s.length:=by omega
   have he':((k:Int)==(s.length:Int))=false:=by simp;omega
   obtain⟨c,hc⟩:∃c,s[k]? =some c:=⟨_,zqD hks⟩
   have la:=qas hc;have hcd:=qay s k c hc;by_cases h63:c=63
   ·subst h63;have q3:k+1<=s.length:=hks;obtain⟨v,hv⟩:=exz (s.drop (k+1));have hvl:v.length=s.length-(k+1):=by rw[<-hv,zqI]
    have htv:v.take (s.length-(k+1))=v:=zqE (by omega);simp[he,he',la,w2,q3,hv,htv,-Int.natCast_add];refine qgu E _ v 31 qdQ qkf (by omega) ?_;have hml:=qdt qdQ _ v (Nat.le_refl _);obtain⟨m,hm⟩:=exz (qaK qdQ v);rw[hm]at hml⊢;obtain⟨k2,hk2⟩:=exz (k+1+m);have w3:IntKind.i64.wrap (((k+1:Nat):Int)+(m:Int))=(k2:Int):=by rw[qak (by omega) (by omega)];omega
    have q4:k+1<=k2:=by omega
    have q5:k2<=s.length:=by omega
    have hdv:v.drop m=s.drop k2:=by rw[<-hv,List.drop_drop,hk2]
    have hbe:behE u=match s.drop k2 with|[]=>0|d::_=>qcV d 54:=by
     unfold behE;rw[hn,hdk,hcd,hv];simp only;rw[hm,hdv,if_neg (by simp)]
     try (cases List.drop k2 s<;>rfl)
    have htl2:(v.take (k2-(k+1))).length<=1073741824:=by rw[zqJ];omega
    by_cases hlt:k2<s.length
    ·obtain⟨d,hd⟩:∃d,s[k2]? =some d:=⟨_,zqD hlt⟩
     rw[qay s k2 d hd]at hbe;simp[w3,q4,q5,hv,hlt,-Int.natCast_add];refine qe9 E _ s k2 d 54 hd ?_;simp;exact aQy hB (h6:=(hQ' _ hbe 0 0 [] [] [] false k2))
    ·have:k2=s.length:=by omega
     rw[this,List.drop_length]at hbe;simp[w3,q4,q5,hv,hlt,-Int.natCast_add];exact aQy hB (h6:=(hQ' _ hbe fm pt h [47] (v.take (k2-(k+1))) true 0))
   ·have hb2:=(qaE c 63 (by decide) 63 rfl h63).2
    have hbe:behE u=qcV c 53:=by
     unfold behE;rw[hn,hdk,hcd];simp only;rw[if_pos h63]
    simp[he,he',la,hb2];refine qe9 E _ s k c 53 hc ?_;simp;exact aQy hB (h6:=(hQ' _ hbe 0 0 [] [] [] false k))
 ·have hP0':(P==[])=false:=by simpa using hP0
  simp[w1,q1,q2,hu,hP,hP0'];have hnn:True:=trivial;by_cases he:k=s.length
  ·have hb:behE u=0:=by unfold behE;rw[hn,hdk,he,List.drop_length]
   simp[he];exact aQy hB (h6:=(hQ' _ hb fm pt h P qu hq 0))
  ·have hks:k<s.length:=by omega
   have he':((k:Int)==(s.length:Int))=false:=by simp;omega
   obtain⟨c,hc⟩:∃c,s[k]? =some c:=⟨_,zqD hks⟩
   have la:=qas hc;have hcd:=qay s k c hc;by_cases h63:c=63
   ·subst h63;have q3:k+1<=s.length:=hks;obtain⟨v,hv⟩:=exz (s.drop (k+1));have hvl:v.length=s.length-(k+1):=by rw[<-hv,zqI]
    have htv:v.take (s.length-(k+1))=v:=zqE (by omega);simp[he,he',la,w2,q3,hv,htv,-Int.natCast_add];refine qgu E _ v 31 qdQ qkf (by omega) ?_;have hml:=qdt qdQ _ v (Nat.le_refl _);obtain⟨m,hm⟩:=exz (qaK qdQ v);rw[hm]at hml⊢;obtain⟨k2,hk2⟩:=exz (k+1+m);have w3:IntKind.i64.wrap (((k+1:Nat):Int)+(m:Int))=(k2:Int):=by rw[qak (by omega) (by omega)];omega
    have q4:k+1<=k2:=by omega
    have q5:k2<=s.length:=by omega
    have hdv:v.drop m=s.drop k2:=by rw[<-hv,List.drop_drop,hk2]
    have hbe:behE u=match s.drop k2 with|[]=>0|d::_=>qcV d 54:=by
     unfold behE;rw[hn,hdk,hcd,hv];simp only;rw[hm,hdv,if_neg (by simp)]
     try (cases List.drop k2 s<;>rfl)
    have htl2:(v.take (k2-(k+1))).length<=1073741824:=by rw[zqJ];omega
    by_cases hlt:k2<s.length
    ·obtain⟨d,hd⟩:∃d,s[k2]? =some d:=⟨_,zqD hlt⟩
     rw[qay s k2 d hd]at hbe;simp[w3,q4,q5,hv,hlt,-Int.natCast_add];refine qe9 E _ s k2 d 54 hd ?_;simp;exact aQy hB (h6:=(hQ' _ hbe 0 0 [] [] [] false k2))
    ·have:k2=s.length:=by omega
     rw[this,List.drop_length]at hbe;simp[w3,q4,q5,hv,hlt,-Int.natCast_add];exact aQy hB (h6:=(hQ' _ hbe fm pt h P (v.take (k2-(k+1))) true 0))
   ·have hb2:=(qaE c 63 (by decide) 63 rfl h63).2
    have hbe:behE u=qcV c 53:=by
     unfold behE;rw[hn,hdk,hcd];simp only;rw[if_pos h63]
    simp[he,he',la,hb2];refine qe9 E _ s k c 53 hc ?_;simp;exact aQy hB (h6:=(hQ' _ hbe 0 0 [] [] [] false k))
theorem quz(l:List UInt8):(0<=Lib.indexAny l [47,63]->(Lib.indexAny l [47,63]).toNat=(l.takeWhile fun c=>c !=47&&c !=63).length)/\(Lib.indexAny l [47,63]<0->l.takeWhile (fun c=>c !=47&&c !=63)=l):=by
 induction l with
 |nil=>exact⟨fun h=>by simp[Lib.indexAny]at h,fun _=>rfl⟩
 |cons b l ih=>
  have hg:=Lib.indexAny_ge [47,63] l;rw[Lib.indexAny];by_cases hb:b=47\/b=63
  ·have hc:([47,63]:List UInt8).contains b=true:=by rcases hb with rfl|rfl<;>rfl
   rw[hc,if_pos rfl,List.takeWhile_cons_of_neg (by rcases hb with rfl|rfl<;>simp)];simp
  ·have hc:([47,63]:List UInt8).contains b=false:=by
    rw[Bool.eq_false_iff];intro h;simp at h;exact hb h
   rw[hc,if_neg (by simp),List.takeWhile_cons_of_pos (by simp;exact⟨fun e=>hb (.inl e),fun e=>hb (.inr e)⟩)];by_cases h2:Lib.indexAny l [47,63]= -1
   ·rw[if_pos (by simpa using h2)];exact⟨fun h3=>absurd h3 (by decide),fun _=>by rw[ih.2 (by omega)]⟩
   ·rw[if_neg (by simpa using h2)];refine⟨fun _=>?_,fun h3=>by omega⟩;have:=ih.1 (by omega);simp only[zqL];omega
theorem qoE(hE:PE E)(m s:List UInt8)(hl:s.length<=4194304)(hasc:∀c∈s,c.toNat<128)(hQ:∀fm pt h pa qu hq v,Q (.tup [tgV fm pt h pa qu hq,.int .i64 v,.int .i64 (tgtE m s)]) H):PC Tryz.prog E 144 [.str m,.str s] H Q:=by
 refine qac Tryz.func144 rfl [] [] (by kernel_rfl) (fun hB=>?_);have hQ':∀e,tgtE m s=e->∀fm pt h pa qu hq v,Q (.tup [.agg [.int .i64 fm,.str h,.int .i64 pt,.str pa,.str qu,.bool hq],.int .i64 v,.int .i64 e]) H:=fun e he fm pt h pa qu hq v=>he▸hQ fm pt h pa qu hq v;clear hQ;cases s with
 |nil=>
  simp[Tryz.ntmps144,Tryz.results144,List.replicate_succ];exact aQy hB (h6:=(hQ' 50 rfl 0 0 [] [] [] false 0))
 |cons c r=>
  obtain⟨s,hs⟩:∃s,s=c::r:=⟨_,rfl⟩
  have hT:tgtE m s=if m=[67,79,78,78,69,67,84]then(if(qbo s).2.2≠0\/(qbo s).2.1<0 then 52 else 0)
    else if c=47 then behE s
    else if s=[42]/\m=[79,80,84,73,79,78,83]then 0
    else if s.length<7\/low (s.take 7)≠[104,116,116,112,58,47,47]then 50
    else if(qbo ((s.drop 7).takeWhile fun c=>c !=47&&c !=63)).2.2≠0 then(qbo ((s.drop 7).takeWhile fun c=>c !=47&&c !=63)).2.2
    else behE ((s.drop 7).dropWhile fun c=>c !=47&&c !=63):=by rw[hs];rfl
  have hne:(s==[])=false:=by rw[hs];rfl
  have hla:lat s 0=some c:=by rw[hs];rfl
  have hlp:0<s.length:=by rw[hs];simp
  rw[<-hs]at hl hasc hQ'⊢;by_cases hm:m=[67,79,78,78,69,67,84]
  ·rw[if_pos hm]at hT;simp[Tryz.ntmps144,Tryz.results144,List.replicate_succ,hne,hm];refine qde E _ hE s (by omega) (fun h p e hA p1 p2 hhl=>?_);rw[hA]at hT;simp only at hT;by_cases he:e=0
   ·subst he;by_cases hp:p<0
    ·rw[if_pos (.inr hp)]at hT;simp[hp];exact aQy hB (h6:=(hQ' 52 hT 0 0 [] [] [] false 0))
    ·rw[if_neg (by simp;omega)]at hT;simp[hp];exact aQy hB (h6:=(hQ' 0 hT 3 p h [] [] false 0))
   ·have he':(e==0)=false:=by simpa using he
    have he2:(e !=0)=true:=by simpa using he
    rw[if_pos (.inl he)]at hT;simp[he',he2];exact aQy hB (h6:=(hQ' 52 hT 0 0 [] [] [] false 0))
  ·have hm':(m==[67,79,78,78,69,67,84])=false:=by simpa using hm
   rw[if_neg hm]at hT;by_cases h47:c=47
   ·subst h47;rw[if_pos rfl]at hT;simp[Tryz.ntmps144,Tryz.results144,List.replicate_succ,hne,hm',hla,hlp];refine qhO E _ 1 (-1) [] [] [] false s 0 (by omega) (by omega) (by simp) (fun fm pt h pa qu hq v=>?_);rw[List.drop_zero];simp[tgV];exact aQy hB (h6:=(hQ' _ hT fm pt h pa qu hq v))
   ·have b47:=(qaE c 47 (by decide) 47 rfl h47).1;rw[if_neg h47]at hT;by_cases hast:s=[42]/\m=[79,80,84,73,79,78,83]
    ·obtain⟨ha1,ha2⟩:=hast;rw[if_pos ⟨ha1,ha2⟩]at hT;have ha1':(s==[42])=true:=by simpa using ha1
     have ha2':(m==[79,80,84,73,79,78,83])=true:=by simpa using ha2
     simp[Tryz.ntmps144,Tryz.results144,List.replicate_succ,hne,hm',hla,hlp,b47,ha1',ha2'];exact aQy hB (h6:=(hQ' _ hT 4 (-1) [] [] [] false 0))
    ·rw[if_neg hast]at hT
     have hpath:(s==[42])=false\/((s==[42])=true/\(m==[79,80,84,73,79,78,83])=false):=by
      by_cases h1:s=[42]
      ·exact .inr ⟨by simpa using h1,by simpa using fun h=>hast ⟨h1,h⟩⟩
      ·exact .inl (by simpa using h1)
     by_cases h7:s.length<7
     ·rw[if_pos (.inl h7)]at hT;have h7':(s.length:Int)<7:=by omega
      rcases hpath with hp|⟨hp,hp2⟩
      ·simp[Tryz.ntmps144,Tryz.results144,List.replicate_succ,hne,hm',hla,hlp,b47,hp,h7'];exact aQy hB (h6:=(hQ' _ hT 0 0 [] [] [] false 0))
      ·simp[Tryz.ntmps144,Tryz.results144,List.replicate_succ,hne,hm',hla,hlp,b47,hp,hp2,h7'];exact aQy hB (h6:=(hQ' _ hT 0 0 [] [] [] false 0))
     ·have h7':¬(s.length:Int)<7:=by omega
      have h7'':7<=s.length:=by omega
      have hp:(s==[42])=false:=by
       rcases hpath with hp|⟨hp,_⟩
       ·exact hp
       ·have:s=[42]:=by simpa using hp
        rw[this]at h7;simp at h7
      have htk7:(s.drop 7).take (s.length-7)=s.drop 7:=zqE (by simp);simp[Tryz.ntmps144,Tryz.results144,List.replicate_succ,hne,hm',hla,hlp,b47,hp,h7',h7''];refine qmt E _ _ (s.take 7) [104,116,116,112,58,47,47] (by rw[zqJ];simp only[cap];omega) (by decide) ?_;have hlow:low [104,116,116,112,58,47,47]=[104,116,116,112,58,47,47]:=by decide
      rw[hlow];by_cases hsch:low (s.take 7)=[104,116,116,112,58,47,47]
      ·rw[if_neg (fun h=>h.elim h7 (fun h=>h hsch))]at hT;obtain⟨R,hR⟩:=exz (s.drop 7);have hRl:R.length=s.length-7:=by rw[<-hR,zqI]
       rw[hR]at hT htk7;simp[hsch,h7'',htk7,hR];refine qlI E _ R [47,63] (by omega) (by decide) (fun b hb=>hasc b (by rw[<-hR]at hb;exact List.mem_of_mem_drop hb)) (by decide) ?_;obtain⟨k1,k2⟩:=quz R;obtain⟨a1,a2⟩:=qck (fun c=>c !=47&&c !=63) R;obtain⟨n,hn⟩:=exz ((R.takeWhile fun c=>c !=47&&c !=63).length);rw[hn]at a1 a2 k1
       have hnl:n<=R.length:=by
        rw[<-hn,<-a1,zqJ];omega
       have hge:=Lib.indexAny_ge [47,63] R;rw[<-a1,<-a2]at hT;have w7:IntKind.i64.wrap (7+(n:Int))=((7+n:Nat):Int):=by rw[qak (by omega) (by omega)];omega
       have hdd:s.drop (7+n)=R.drop n:=by rw[<-hR,List.drop_drop]
       have h7n:7+n<=s.length:=by omega
       have htl:(R.take n).length<=1073741824:=by rw[zqJ];omega
       rcases(by omega:0<=Lib.indexAny R [47,63]\/Lib.indexAny R [47,63]<0)with hi|hi
       ·have hi2:Lib.indexAny R [47,63]=n:=by have:=k1 hi;omega
        have hnn:¬(n:Int)<0:=by omega
        rw[hi2];simp[hnl];refine qde E _ hE (R.take n) htl (fun h p e hA p1 p2 hhl=>?_);rw[hA]at hT;simp only at hT;by_cases he:e=0
        ·subst he;rw[if_neg (by simp)]at hT;simp[w7,-Int.natCast_add];refine qhO E _ 2 p h [] [] false s (7+n) h7n (by omega) hhl (fun fm pt h pa qu hq v=>?_);rw[hdd];simp[tgV];exact aQy hB (h6:=(hQ' _ hT fm pt h pa qu hq v))
        ·have he':(e==0)=false:=by simpa using he
         have he2:(e !=0)=true:=by simpa using he
         rw[if_pos he]at hT;simp[he',he2];exact aQy hB (h6:=(hQ' _ hT 0 0 [] [] [] false 7))
       ·have hnR:R.length=n:=by rw[<-hn,k2 hi]
        have hi2:Lib.indexAny R [47,63]= -1:=by omega
        have htR:R.take R.length=R:=List.take_length;have hnn:(R.length:Int)=(n:Int):=by omega
        rw[hi2];simp[hnR];refine qde E _ hE (R.take n) htl (fun h p e hA p1 p2 hhl=>?_);rw[hA]at hT;simp only at hT;by_cases he:e=0
        ·subst he;rw[if_neg (by simp)]at hT;simp[w7,-Int.natCast_add];refine qhO E _ 2 p h [] [] false s (7+n) h7n (by omega) hhl (fun fm pt h pa qu hq v=>?_);rw[hdd];simp[tgV];exact aQy hB (h6:=(hQ' _ hT fm pt h pa qu hq v))
        ·have he':(e==0)=false:=by simpa using he
         have he2:(e !=0)=true:=by simpa using he
         rw[if_pos he]at hT;simp[he',he2];exact aQy hB (h6:=(hQ' _ hT 0 0 [] [] [] false 7))
      ·have hsch':(low (s.take 7)==[104,116,116,112,58,47,47])=false:=by simpa using hsch
       rw[if_pos (.inr hsch)]at hT;simp[hsch'];exact aQy hB (h6:=(hQ' _ hT 0 0 [] [] [] false 0))
theorem qfK(l:List Fld)(n:List UInt8):∀v∈allB l n,v.length<=fsz l:=by
 intro v hv;unfold allB at hv;obtain⟨f,hf,rfl⟩:=List.mem_map.1 hv;have hf2:=(List.mem_filter.1 hf).1;obtain⟨i,hi,he⟩:=List.mem_iff_getElem.1 hf2;have:=qeh (l:=l) (i:=i) (f:=f) (by rw[<-he];exact zqD hi);omega
def fhI(H:Hp)(l:List Fld)(old:Bool)(v:List UInt8)(fr:List AV)(K:Hp):Prop:=K=H/\∃i:Nat,i<=v.length/\(v.take i).any (fun b=>decide (b.toNat<33)||decide (126<b.toNat)||[34,35,47,60,62,63,64,92].contains b)=false/\
 ∃x:Nat->AV,fr=[.sl false 2 (flds l),.bool old,x 2,x 3,x 4,x 5,x 6,.sl false 1 (strs [v]),x 8,x 9,x 10,x 11,x 12,x 13,x 14,x 15,x 16,x 17,x 18,x 19,x 20,x 21,.int .i64 (v.length:Int),.int .i64 (i:Int),x 24,x 25,x 26,x 27,x 28,x 29,x 30,x 31,x 32,x 33,x 34,x 35,x 36,x 37,x 38,x 39,x 40,x 41,x 42,x 43,x 44,x 45]
theorem qsk(l:List Fld)(old:Bool)(hl:fsz l+l.length<=4194304)(hQ:∀h ok e,qd7 l old=(h,ok,e)->Q (.tup [.str h,.bool ok,.int .i64 e]) H):PC Tryz.prog E 195 [.sl false 2 (flds l),.bool old] H Q:=by
 refine qac Tryz.func195 rfl [] [] (by kernel_rfl) (fun hB=>?_);simp[Tryz.ntmps195,Tryz.results195,List.replicate_succ];refine qkV E _ _ l [72,111,115,116] (by omega) (by decide) ?_;unfold qd7 at hQ;have hsz:=qfK l [72,111,115,116];rcases hal:allB l [72,111,115,116]with _|⟨v,_|⟨w,t⟩⟩
 ·rw[hal]at hQ;cases old
  ·simp[strs];exact aQz hB (h6:=(hQ _ _ _ rfl))
  ·simp[strs];exact aQz hB (h6:=(hQ _ _ _ rfl))
 ·rw[hal]at hQ hsz;dsimp only at hQ;have hvl:=hsz v (.head _);have hat:lat (strs [v]) 0=some [AV.str v]:=rfl;simp[hat];refine qaB (fhI _ l old v) (fun fr _=>v.length-(ai (aget fr 23)).toNat) ⟨rfl,0,by omega,by simp,qag (by simp[strs])⟩ ?_;rintro fr K ⟨rfl,i,hi,hA,x,rfl⟩;by_cases h:i<v.length
  ·obtain⟨b,hb⟩:∃b,v[i]? =some b:=⟨_,zqD h⟩
   have la:=qas hb;have w1:IntKind.i64.wrap ((i:Int)+1)=i+1:=wiz
   have hst:(v.take (i+1)).any (fun b=>decide (b.toNat<33)||decide (126<b.toNat)||[34,35,47,60,62,63,64,92].contains b)=((v.take i).any (fun b=>decide (b.toNat<33)||decide (126<b.toNat)||[34,35,47,60,62,63,64,92].contains b)||(decide (b.toNat<33)||decide (126<b.toNat)||[34,35,47,60,62,63,64,92].contains b)):=by
    rw[List.take_add_one,hb,List.any_append];simp
   have hsp:(decide (b.toNat<33)||decide (126<b.toNat)||[34,35,47,60,62,63,64,92].contains b)=true->v.any (fun b=>decide (b.toNat<33)||decide (126<b.toNat)||[34,35,47,60,62,63,64,92].contains b)=true:=fun hh=>List.any_eq_true.2 ⟨b,zqH hb,hh⟩;have i1:=qeg [34,35,47,60,62,63,64,92] b;by_cases h33:b.toNat<33
   ·have g1:(b.toNat:Int)<33:=by omega
    rw[hsp (by simp[h33])]at hQ;simp[h,hat,la,g1];exact aQz hB (h6:=(hQ _ _ _ rfl))
   ·have g1:¬(b.toNat:Int)<33:=by omega
    by_cases h126:126<b.toNat
    ·have g2:(126:Int)<b.toNat:=by omega
     rw[hsp (by simp[h126])]at hQ;simp[h,hat,la,g1,g2];exact aQz hB (h6:=(hQ _ _ _ rfl))
    ·have g2:¬(126:Int)<b.toNat:=by omega
     simp[h,hat,la,g1,g2];refine qaF E _ _ _ b ?_;cases hc:([34,35,47,60,62,63,64,92]:List UInt8).contains b with
     |true=>
      rw[hc]at i1;have j1:0<=Lib.indexByte [34,35,47,60,62,63,64,92] b:=by simpa using i1
      rw[hsp (by rw[hc];simp)]at hQ;simp[j1];exact aQz hB (h6:=(hQ _ _ _ rfl))
     |false=>
      rw[hc]at i1;have j1:¬0<=Lib.indexByte [34,35,47,60,62,63,64,92] b:=by simpa using i1
      simp[j1,w1];exact Klz ⟨rfl,i+1,by omega,by rw[hst,hA,hc];simp[h33,h126],qag (by simp[strs])⟩
  ·obtain rfl:i=v.length:=by omega
   rw[List.take_length]at hA;rw[hA]at hQ;simp[hat];exact aQz hB (h6:=(hQ _ _ _ rfl))
 ·rw[hal]at hQ;have g:(1:Int)<(t.length:Int)+1+1:=by omega
  have g0:((t.length:Int)+1+1==0)=false:=by rw[beq_eq_false_iff_ne];omega
  simp[strs,g,g0];exact aQz hB (h6:=(hQ _ _ _ rfl))
end
end Go.Proofs.YtnnhdehmlkkfjaaGreatDoor
namespace Go.Proofs.YtnnhdehmlkkfjaaGreatDoor
open Go Go.RowKit
theorem qow:∀n,n<256->((qc1 (UInt8.ofNat n)||qbX (UInt8.ofNat n))||([45,46,95,126]:List UInt8).contains (UInt8.ofNat n))=qbK (UInt8.ofNat n):=by decide
theorem qrh(b:UInt8):((qc1 b||qbX b)||([45,46,95,126]:List UInt8).contains b)=qbK b:=by
 have:=qow b.toNat b.toNat_lt;rwa[qce]at this
theorem quA:∀n,n<256->qaT (UInt8.ofNat n)=decide (0<=hexT (UInt8.ofNat n)):=by decide
theorem qti(b:UInt8):qaT b=decide (0<=hexT b):=by
 have:=quA b.toNat b.toNat_lt;rwa[qce]at this
section
open Go.Lib
variable (E:Env){H:Hp}(Q:AV->Hp->Prop)
def rfinI(b:UInt8)(l:List UInt8)(H:Hp)(fr:List AV)(K:Hp):Prop:=K=H/\∃i:Nat,i<=l.length/\(l.take i).contains b=false/\∃x:Nat->AV,fr=[.int .u8 (b.toNat:Int),.str l,x 2,x 3,x 4,.int .i64 (i:Int),x 6,x 7,x 8,x 9,x 10,x 11,x 12,x 13,x 14,x 15,x 16]
theorem qiZ(b:UInt8)(l:List UInt8)(hl:l.length<=1073741824)(hQ:Q (.bool (l.contains b)) H):PC Tryz.prog E 125 [.int .u8 (b.toNat:Int),.str l] H Q:=by
 refine qac Tryz.func125 rfl [] [] (by kernel_rfl) (fun hB=>?_);have fin:∀c:Bool,l.contains b=c->Q (.bool c) H:=fun c hc=>hc▸hQ;simp[Tryz.ntmps125,Tryz.results125,List.replicate_succ];refine qaB (rfinI b l H) (fun fr _=>l.length-(ai (aget fr 5)).toNat) ⟨rfl,0,by omega,rfl,friz⟩ ?_;rintro fr K ⟨rfl,i,hi,hall,x,rfl⟩;by_cases h:i<l.length
 ·obtain⟨c,hc⟩:∃c,l[i]? =some c:=⟨_,zqD h⟩
  have la:=qas hc;have w1:IntKind.i64.wrap ((i:Int)+1)=i+1:=wiz;by_cases he:c=b
  ·subst he;simp[h,la];exact aQz hB (h6:=(fin _ (by rw[List.contains_iff_mem];exact zqH hc)))
  ·have t1:((c.toNat:Int)==(b.toNat:Int))=false:=by
    rw[beq_eq_false_iff_ne];exact fun hh=>he (UInt8.toNat_inj.1 (by omega))
   simp[h,la,t1,w1];refine Klz ⟨rfl,i+1,by omega,?_,friz⟩;rw[List.take_add_one,hc];simp at hall;simp[hall];exact fun e=>he e.symm
 ·obtain rfl:i=l.length:=by omega
  rw[List.take_length]at hall;simp;exact aQz hB (h6:=(fin _ hall))
theorem qic(b:UInt8)(hQ:Q (.bool (qbK b)) H):PC Tryz.prog E 122 [.int .u8 (b.toNat:Int)] H Q:=by
 refine qac Tryz.func122 rfl [] [] (by kernel_rfl) (fun hB=>?_);rw[<-qrh]at hQ;simp[Tryz.ntmps122,Tryz.results122,List.replicate_succ];refine qgf E _ _ b ?_;cases h1:qc1 b with
 |true=>
  rw[h1]at hQ;simp;exact aQz hB (h6:=(by simpa using hQ))
 |false=>
  rw[h1]at hQ;simp;refine qdP E _ _ b ?_;cases h2:qbX b with
  |true=>
   rw[h2]at hQ;simp;exact aQz hB (h6:=(by simpa using hQ))
  |false=>
   rw[h2]at hQ;simp;refine qiZ E _ b [45,46,95,126] (by decide) ?_;rw[Bool.or_false,Bool.false_or]at hQ
   generalize ([45,46,95,126]:List UInt8).contains b=z at hQ⊢
   simp;exact aQz hB (h6:=hQ)
theorem qml(b:UInt8)(hQ:Q (.bool (qb1 b)) H):PC Tryz.prog E 123 [.int .u8 (b.toNat:Int)] H Q:=by
 refine qac Tryz.func123 rfl [] [] (by kernel_rfl) (fun hB=>?_);simp[Tryz.ntmps123,Tryz.results123,List.replicate_succ];refine qiZ E _ b [33,36,38,39,40,41,42,43,44,59,61] (by decide) ?_;unfold qb1 at hQ
 generalize ([33,36,38,39,40,41,42,43,44,59,61]:List UInt8).contains b=z at hQ⊢
 simp;exact aQz hB (h6:=hQ)
theorem qgZ(s:List UInt8)(i:Nat)(hi:i<s.length)(hl:s.length<=1073741824)(hQ:Q (.bool (qbI (s.drop i))) H):PC Tryz.prog E 121 [.str s,.int .i64 (i:Int)] H Q:=by
 refine qac Tryz.func121 rfl [] [] (by kernel_rfl) (fun hB=>?_);have w2:IntKind.i64.wrap ((i:Int)+2)=i+2:=wiz;have w1:IntKind.i64.wrap ((i:Int)+1)=i+1:=wiz;by_cases h:i+2<s.length
 ·obtain⟨a,ha⟩:∃a,s[i]? =some a:=⟨_,zqD hi⟩
  obtain⟨b,hb⟩:∃b,s[i+1]? =some b:=⟨_,zqD (by omega)⟩
  obtain⟨c,hc⟩:∃c,s[i+2]? =some c:=⟨_,zqD h⟩
  have la:=qas ha;have lb:=qas hb;have lc:=qas hc;have n1:(i:Int)+2<s.length:=by omega
  have q1:((i:Int)+1).toNat=i+1:=by omega
  have q2:((i:Int)+2).toNat=i+2:=by omega
  have q3:(0:Int)<=i+1:=by omega
  have q4:(0:Int)<=i+2:=by omega
  have hd:s.drop i=a::b::c::s.drop (i+3):=by rw[qay s i a ha,qay s (i+1) b hb,qay s (i+2) c hc]
  rw[hd]at hQ;by_cases h37:a=37
  ·subst h37;simp[Tryz.ntmps121,Tryz.results121,List.replicate_succ,w2,w1,n1,la,lb,lc,q1,q2,q3,q4];refine qmq E _ b ?_;rw[qti];by_cases x1:0<=hexT b
   ·simp[x1,lb,lc,q1,q2,q3,q4,w1,w2];refine qmq E _ c ?_;rw[qti];have e:qbI (37::b::c::s.drop (i+3))=decide (0<=hexT c):=by simp[qbI,x1]
    rw[e]at hQ;simp;exact aQz hB (h6:=hQ)
   ·have e:qbI (37::b::c::s.drop (i+3))=false:=by simp[qbI,x1]
    rw[e]at hQ;simp[x1];exact aQz hB (h6:=hQ)
  ·have hb2:=(qaE a 37 (by decide) 37 rfl h37).1;have e:qbI (a::b::c::s.drop (i+3))=false:=by simp[qbI,h37]
   rw[e]at hQ;simp[Tryz.ntmps121,Tryz.results121,List.replicate_succ,w2,w1,n1,la,hb2];exact aQz hB (h6:=hQ)
 ·have n1:¬(i:Int)+2<s.length:=by omega
  have e:qbI (s.drop i)=false:=by
   have:(s.drop i).length<=2:=by rw[zqI];omega
   match s.drop i,this with
   |[],_=>rfl
   |[_],_=>rfl
   |[_,_],_=>rfl
  rw[e]at hQ;simp[Tryz.ntmps121,Tryz.results121,List.replicate_succ,w2,n1];exact aQz hB (h6:=hQ)
def rfscI(s more:List UInt8)(other:Int)(may:UInt8->Bool)(H:Hp)(fr:List AV)(K:Hp):Prop:=K=H/\∃i:Nat,i<=s.length/\qaK may s=i+qaK may (s.drop i)/\
 ∃x:Nat->AV,fr=[.str s,x 1,.str more,.int .i64 other,x 4,x 5,x 6,x 7,x 8,x 9,.int .i64 (i:Int),x 11,x 12,x 13,x 14,x 15,x 16,x 17,x 18,x 19,x 20,x 21,x 22,x 23,x 24,x 25,x 26,x 27,x 28,x 29,x 30,x 31,x 32,x 33,x 34,x 35,x 36,x 37,x 38,x 39,x 40,x 41,x 42,x 43,x 44,x 45,x 46,x 47,x 48,x 49,x 50,x 51,x 52,x 53,x 54,x 55,x 56,x 57]
theorem qoR{may:UInt8->Bool}{s:List UInt8}{i:Nat}{c:UInt8}(hS:qaK may s=i+qaK may (s.drop i))(hc:s[i]? =some c)(ht:qbI (s.drop i)=false)(hm:may c=false)(other:Int):qc5 may other s=qcV c other:=by
 have hd:=qay s i c hc;rw[hd]at hS ht;rw[qbx,if_neg (by rw[ht];simp),if_neg (by rw[hm];simp)]at hS;unfold qc5;rw[hS,Nat.add_zero,hd]
theorem qjR(s more:List UInt8)(other:Int)(may:UInt8->Bool)(hm:∀c,(((qbK c||qb1 c)||([58,64]:List UInt8).contains c)||more.contains c)=may c)(h37:may 37=false)(hl:s.length<=1073741824)(hml:more.length<=1024)(hQ:∀v:Int,0<=v->v<=1073741824->Q (.tup [.int .i64 v,.int .i64 (qc5 may other s)]) H):PC Tryz.prog E 93 [.str s,.int .i64 0,.str more,.int .i64 other] H Q:=by
 refine qac Tryz.func93 rfl [] [] (by kernel_rfl) (fun hB=>?_);have fin:∀e,qc5 may other s=e->∀v:Int,0<=v->v<=1073741824->Q (.tup [.int .i64 v,.int .i64 e]) H:=fun e h v h1 h2=>h▸hQ v h1 h2;simp[Tryz.ntmps93,Tryz.results93,List.replicate_succ];refine qaB (rfscI s more other may H) (fun fr _=>s.length-(ai (aget fr 10)).toNat) ⟨rfl,0,by omega,by simp,friz⟩ ?_;rintro fr K ⟨rfl,i,hi,hS,x,rfl⟩;by_cases h:i<s.length
 ·obtain⟨c,hc⟩:∃c,s[i]? =some c:=⟨_,zqD h⟩
  have la:=qas hc;have hd:=qay s i c hc;have w3:IntKind.i64.wrap ((i:Int)+3)=i+3:=wiz;have w1:IntKind.i64.wrap ((i:Int)+1)=i+1:=wiz;by_cases h3:c=37
  ·subst h3;simp[h,la];refine qgZ E _ s i h hl ?_;cases ht:qbI (s.drop i)with
   |true=>
    have h3:=qfb ht;rw[zqI]at h3;rw[hd]at hS ht;rw[qbx,if_pos ht,List.drop_drop]at hS;simp[w3];exact Klz ⟨rfl,i+3,by omega,by rw[hS,show i+1+2=i+3 by omega];omega,friz⟩
   |false=>
    have he:=qoR hS hc ht h37 other;simp;exact aQz hB (h6:=(fin 51 he _ (by omega) (by omega)))
  ·have h3':=(qaE c 37 (by decide) 37 rfl h3).1
   have ht:qbI (s.drop i)=false:=by
    rw[hd]
    match s.drop (i+1)with
    |[]=>rfl
    |[_]=>rfl
    |_::_::_=>simp[qbI,h3]
   have hmc:=hm c
   have go:may c=true->qaK may s=(i+1)+qaK may (s.drop (i+1)):=fun hy=>by
    rw[hd]at hS ht;rw[hS,qbx,if_neg (by rw[ht];simp),if_pos hy];omega
   simp[h,la,h3'];refine qic E _ c ?_;cases u1:qbK c with
   |true=>
    rw[u1]at hmc;simp[w1];exact Klz ⟨rfl,i+1,by omega,go (by rw[<-hmc];rfl),friz⟩
   |false=>
    simp[la];refine qml E _ c ?_;cases u2:qb1 c with
    |true=>
     rw[u1,u2]at hmc;simp[w1];exact Klz ⟨rfl,i+1,by omega,go (by rw[<-hmc];rfl),friz⟩
    |false=>
     simp[la];refine qiZ E _ c [58,64] (by decide) ?_;cases u3:([58,64]:List UInt8).contains c with
     |true=>
      rw[u1,u2,u3]at hmc;simp[w1];exact Klz ⟨rfl,i+1,by omega,go (by rw[<-hmc];rfl),friz⟩
     |false=>
      simp[la];refine qiZ E _ c more (by omega) ?_;rw[u1,u2,u3,Bool.false_or,Bool.false_or,Bool.false_or]at hmc;rw[hmc];cases u4:may c with
      |true=>
       simp[w1];exact Klz ⟨rfl,i+1,by omega,go u4,friz⟩
      |false=>
       have he:=qoR hS hc ht u4 other;have hw:qcV c other=other:=by unfold qcV;rw[if_neg h3]
       simp;exact aQz hB (h6:=(fin other (he.trans hw) _ (by omega) (by omega)))
 ·obtain rfl:i=s.length:=by omega
  have h0:qc5 may other s=0:=by
   unfold qc5;rw[hS,List.drop_length,qds,Nat.add_zero,List.drop_length]
  simp;exact aQz hB (h6:=(fin 0 h0 0 (by omega) (by omega)))
def rfcutI(s:List UInt8)(c:UInt8)(H:Hp)(fr:List AV)(K:Hp):Prop:=K=H/\∃i:Nat,i<=s.length/\(∀x∈s.take i,x≠c)/\∃x:Nat->AV,fr=[.str s,.int .u8 (c.toNat:Int),x 2,x 3,x 4,x 5,x 6,.int .i64 (i:Int),x 8,x 9,x 10,x 11,x 12,x 13,x 14,x 15,x 16,x 17,x 18,x 19,x 20,x 21,x 22,x 23,x 24,x 25,x 26]
theorem qsv {s : List UInt8} {c : UInt8} {i : Nat} (h : ∀ x ∈ s.take i, x ≠ c) (hc : s[i]? = some c) : cut1 c s = (s.take i, s.drop (i + 1), true) := by
  have hs : s = s.take i ++ c :: s.drop (i + 1) := by rw [← qay s i c hc, List.take_append_drop]
  have h1 : s.takeWhile (· != c) = s.take i := by
    conv => lhs; rw [hs]
    rw [List.takeWhile_append_of_pos (fun x hx => by simpa using h x hx), List.takeWhile_cons_of_neg (by simp), List.append_nil]
  have h2 : s.dropWhile (· != c) = c :: s.drop (i + 1) := by
    conv => lhs; rw [hs]
    rw [List.dropWhile_append_of_pos (fun x hx => by simpa using h x hx), List.dropWhile_cons_of_neg (by simp)]
  unfold cut1
  rw [h1, h2]
  refine Prod.ext rfl (Prod.ext rfl ?_)
  show s.contains c = true
  rw [List.contains_iff_mem]
  exact zqH hc
theorem qhJ {s : List UInt8} {c : UInt8} (h : ∀ x ∈ s, x ≠ c) : cut1 c s = (s, [], false) := by
  have h1 : s.takeWhile (· != c) = s := by
    have := List.takeWhile_append_of_pos (p := (· != c)) (l₁ := s) (l₂ := []) (fun x hx => by simpa using h x hx)
    simpa using this
  have h2 : s.dropWhile (· != c) = [] := by
    have := List.dropWhile_append_of_pos (p := (· != c)) (l₁ := s) (l₂ := []) (fun x hx => by simpa using h x hx)
    simpa using this
  unfold cut1
  rw [h1, h2]
  refine Prod.ext rfl (Prod.ext rfl ?_)
  show s.contains c = false
  rw [Bool.eq_false_iff]
  intro hc
  rw [List.contains_iff_mem] at hc
  exact h c hc rfl
theorem qfp(s:List UInt8)(c:UInt8)(hl:s.length<=1073741824)(hQ:Q (.tup [.str (cut1 c s).1,.str (cut1 c s).2.1,.bool (cut1 c s).2.2]) H):PC Tryz.prog E 89 [.str s,.int .u8 (c.toNat:Int)] H Q:=by
 refine qac Tryz.func89 rfl [] [] (by kernel_rfl) (fun hB=>?_);have fin:∀a b t,cut1 c s=(a,b,t)->Q (.tup [.str a,.str b,.bool t]) H:=fun a b t h=>by rw[h]at hQ;exact hQ
 simp[Tryz.ntmps89,Tryz.results89,List.replicate_succ];refine qaB (rfcutI s c H) (fun fr _=>s.length-(ai (aget fr 7)).toNat) ⟨rfl,0,by omega,by simp,friz⟩ ?_;rintro fr K ⟨rfl,i,hi,hall,x,rfl⟩;by_cases h:i<s.length
 ·obtain⟨b,hb⟩:∃b,s[i]? =some b:=⟨_,zqD h⟩
  have la:=qas hb;have w1:IntKind.i64.wrap ((i:Int)+1)=i+1:=wiz;have w1':IntKind.i64.wrap ((i:Int)+1)=((i+1:Nat):Int):=by rw[w1];omega
  by_cases he:b=c
  ·subst he;have q1:i+1<=s.length:=h;have ht:(s.drop (i+1)).take (s.length-(i+1))=s.drop (i+1):=zqE (by simp);simp[h,la,hi,w1',q1,ht,-Int.natCast_add];exact aQz hB (h6:=(fin _ _ _ (qsv hall hb)))
  ·have t1:((b.toNat:Int)==(c.toNat:Int))=false:=by
    rw[beq_eq_false_iff_ne];exact fun hh=>he (UInt8.toNat_inj.1 (by omega))
   simp[h,la,t1,w1];refine Klz ⟨rfl,i+1,by omega,fun y hy=>?_,friz⟩;rw[List.take_add_one,hb]at hy;rcases List.mem_append.1 hy with hy|hy
   ·exact hall y hy
   ·simp at hy;subst hy;exact he
 ·obtain rfl:i=s.length:=by omega
  rw[List.take_length]at hall;simp;exact aQz hB (h6:=(fin _ _ _ (qhJ hall)))
def rfsplI(s:List UInt8)(c:UInt8)(H:Hp)(fr:List AV)(K:Hp):Prop:=K=H/\∃(out:List (List UInt8)) (r:List UInt8),r.length<=s.length/\out.length+r.length<=s.length/\out++qbl c r=qbl c s/\∃x:Nat->AV,fr=[.str r,.int .u8 (c.toNat:Int),x 2,x 3,x 4,.sl true 1 (strs out),x 6,x 7,x 8,x 9,x 10,x 11,x 12,x 13,x 14,x 15,x 16,x 17,x 18,x 19,x 20,x 21,x 22,x 23,x 24]
def aslen:AV->Nat
 | .str l=>l.length
 |_=>0
theorem qid (s : List UInt8) (c : UInt8) (hl : s.length ≤ 1073741824) (hQ : Q (.sl false 1 (strs (qbl c s))) H) : PC Tryz.prog E 146 [.str s, .int .u8 (c.toNat : Int)] H Q := by
  refine qac Tryz.func146 rfl [17] [] (by kernel_rfl) (fun hB => ?_)
  simp [Tryz.ntmps146, Tryz.results146, List.replicate_succ]
  refine qaB (rfsplI s c H) (fun fr _ => aslen (aget fr 0)) ⟨rfl, [], s, by omega, by simp, by simp, qag (by simp [strs])⟩ ?_
  rintro fr K ⟨rfl, out, r, hr, hor, hS, x, rfl⟩
  have m1 : out.length + 1 ≤ maxLen := by unfold maxLen; omega
  have m2 : (out.length + 1) * 16 ≤ 140737488355328 := by omega
  have m3 : out.length ≤ maxLen := by unfold maxLen; omega
  have hsn : ∀ a : List UInt8, strs out ++ [[AV.str a]] = strs (out ++ [a]) := fun a => by simp [strs]
  simp
  refine qfp E _ r c (by omega) ?_
  rw [qrA] at hS
  cases hh : r.contains c with
  | true =>
    rw [if_pos hh] at hS
    have e1 : (cut1 c r).1 = r.takeWhile (· != c) := rfl
    have e2 : (cut1 c r).2.1 = (r.dropWhile (· != c)).drop 1 := rfl
    have e3 : (cut1 c r).2.2 = true := hh
    rw [← e1, ← e2] at hS
    have hne : r.dropWhile (· != c) ≠ [] := by
      have := qeg r c
      rw [hh] at this
      exact ((qfY r c).1 (by simpa using this)).2
    have hlt : (cut1 c r).2.1.length < r.length := by
      rw [e2, zqI]
      obtain ⟨t1, t2⟩ := qck (· != c) r
      have h1 : (r.dropWhile (· != c)).length ≤ r.length := by rw [← t2, zqI]; omega
      have h2 := List.length_pos_iff.2 hne
      omega
    rw [e3]
    generalize (cut1 c r).1 = a at hS ⊢
    generalize (cut1 c r).2.1 = b at hS hlt ⊢
    simp [m1, m2, m3, hsn]
    exact qaH ⟨rfl, out ++ [a], b, by omega, by simp; omega, by rw [← hS]; simp, friz⟩ (by simpa [aslen] using hlt)
  | false =>
    rw [if_neg (by rw [hh]; simp)] at hS
    have e3 : (cut1 c r).2.2 = false := hh
    have e1 : (cut1 c r).1 = r := by
      refine congrArg (·.1) (qhJ (c := c) fun x hx e => ?_)
      subst e
      rw [Bool.eq_false_iff] at hh
      exact hh (List.contains_iff_mem.2 hx)
    rw [e3, e1]
    rw [← hS] at hQ
    simp [m1, m2, m3, hsn]
    exact qaw hB (v0 := .sl false 1 (strs (out ++ [r]))) (v := .sl false 1 (strs (out ++ [r]))) (by simp) (qaa _) (.sl _ _ _ fun q hq y hy => by simp [strs] at hq; rcases hq with ⟨_, _, rfl⟩ | rfl <;> (simp at hy; subst hy; exact .str _)) hQ
theorem qjU(s:List UInt8)(hl:s.length<=1073741824)(hQ:Q (.bool (qeH s)) H):PC Tryz.prog E 168 [.str s] H Q:=by
 refine qac Tryz.func168 rfl [] [] (by kernel_rfl) (fun hB=>?_);simp[Tryz.ntmps168,Tryz.results168,List.replicate_succ];refine qea E _ s 255 (by simp only[cap];omega) (by decide) (by decide) ?_;have hr:=qcS s 255 (by decide);unfold qeH at hQ;by_cases he:(qae 10 255 s).2=0
 ·simp[he];refine qcw E _ _ _ (by omega) (by omega) ?_;rw[he]at hQ;simp;exact aQz hB (h6:=(by simpa using hQ))
 ·have he1:((qae 10 255 s).2==0)=false:=by simpa using he
  rw[he1]at hQ;simp[he1];exact aQz hB (h6:=(by simpa using hQ))
def rfqI(L:List (List UInt8))(H:Hp)(fr:List AV)(K:Hp):Prop:=K=H/\∃i:Nat,i<=L.length/\(L.take i).all qeH=true/\∃x:Nat->AV,fr=[x 0,x 1,x 2,.sl false 1 (strs L),.int .i64 (i:Int),x 5,x 6,x 7,x 8,x 9,x 10,x 11,x 12,x 13,x 14,x 15,x 16,x 17,x 18,x 19,x 20,x 21]
theorem qjS(s:List UInt8)(hl:s.length<=1073741824)(hQ:Q (.bool (dotB s)) H):PC Tryz.prog E 148 [.str s] H Q:=by
 refine qac Tryz.func148 rfl [] [] (by kernel_rfl) (fun hB=>?_);simp[Tryz.ntmps148,Tryz.results148,List.replicate_succ];refine qid E _ s 46 hl ?_;obtain⟨h1,h2⟩:=qdr 46 s;obtain⟨L,hL⟩:=exz (qbl 46 s);unfold dotB at hQ;rw[hL]at h1 h2 hQ⊢;simp;refine qaB (rfqI L H) (fun fr _=>L.length-(ai (aget fr 4)).toNat) ⟨rfl,0,by omega,by simp,friz⟩ ?_;rintro fr K ⟨rfl,i,hi,hS,x,rfl⟩;by_cases h:i<L.length
 ·obtain⟨g,hg⟩:∃g,L[i]? =some g:=⟨_,zqD h⟩
  have hat:=qcW hg;have hgl:=h2 g (zqH hg);have w1:IntKind.i64.wrap ((i:Int)+1)=i+1:=wiz;have hst:=qbB qeH L i g hg;have hsp:=qcO qeH L i g hg;simp[h,hat];refine qjU E _ g (by omega) ?_;cases hd:qeH g with
  |true=>
   simp[w1];exact Klz ⟨rfl,i+1,by omega,by rw[hst,hS,hd];rfl,friz⟩
  |false=>
   rw[hsp hd]at hQ;simp;exact aQz hB (h6:=(by simpa using hQ))
 ·obtain rfl:i=L.length:=by omega
  rw[List.take_length]at hS;rw[hS,Bool.true_and]at hQ;simp;refine aQz hB (h6:=?_);have:((L.length:Int)==4)=(L.length==4):=by rw[Bool.eq_iff_iff];simp;omega
  rw[this];exact hQ
def rfgI(s:List UInt8)(last:Bool)(L:List (List UInt8))(H:Hp)(fr:List AV)(K:Hp):Prop:=K=H/\∃(i:Nat) (n:Int),i<=L.length/\0<=n/\n<=2*i/\goD' last L 0=goD' last (L.drop i) n/\
 ∃x:Nat->AV,fr=[.str s,.bool last,x 2,x 3,x 4,.sl false 1 (strs L),.int .i64 n,.int .i64 (i:Int),x 8,x 9,x 10,x 11,x 12,x 13,x 14,x 15,x 16,x 17,x 18,x 19,x 20,x 21,x 22,x 23,x 24,x 25,x 26,x 27,x 28,x 29,x 30,x 31,x 32,x 33,x 34,x 35,x 36,x 37,x 38,x 39,x 40,x 41,x 42,x 43,x 44,x 45,x 46,x 47,x 48,x 49,x 50,x 51,x 52,x 53,x 54,x 55,x 56,x 57]
theorem qeS(s:List UInt8)(last:Bool)(hl:s.length<=1073741824)(hQ:∀v,grpD s last=v->Q (.int .i64 v) H):PC Tryz.prog E 120 [.str s,.bool last] H Q:=by
 refine qac Tryz.func120 rfl [] [] (by kernel_rfl) (fun hB=>?_);by_cases h0:s=[]
 ·subst h0;simp[Tryz.ntmps120,Tryz.results120,List.replicate_succ];exact aQz hB (h6:=(hQ 0 rfl))
 have h0':(s==[])=false:=by simpa using h0
 simp[Tryz.ntmps120,Tryz.results120,List.replicate_succ,h0'];refine qid E _ s 58 hl ?_;obtain⟨h1,h2⟩:=qdr 58 s;have fin:∀v,goD' last (qbl 58 s) 0=v->Q (.int .i64 v) H:=fun v h=>hQ v (by unfold grpD;rw[if_neg h0];exact h);obtain⟨L,hL⟩:=exz (qbl 58 s);rw[hL]at h1 h2 fin⊢;clear hQ;simp;refine qaB (rfgI s last L H) (fun fr _=>L.length-(ai (aget fr 7)).toNat) ⟨rfl,0,0,by omega,by omega,by omega,by simp,friz⟩ ?_;rintro fr K ⟨rfl,i,n,hi,hn,hn2,hS,x,rfl⟩;by_cases h:i<L.length
 ·obtain⟨g,hg⟩:∃g,L[i]? =some g:=⟨_,zqD h⟩
  have hat:=qcW hg;have hgl:=h2 g (zqH hg);have w1:IntKind.i64.wrap ((i:Int)+1)=i+1:=wiz;have v1:IntKind.i64.wrap (n+1)=n+1:=wiz;have v2:IntKind.i64.wrap (n+2)=n+2:=wiz;have w3:IntKind.i64.wrap ((L.length:Int)-1)=L.length-1:=wiz;rw[qmT L i g hg,goD']at hS
  have hem:(L.drop (i+1)).isEmpty=((i:Int)==(L.length:Int)-1):=by
   rw[Bool.eq_iff_iff];simp;omega
  rw[hem]at hS;simp[h,hat];refine qln E _ g 65535 (by simp only[cap];omega) (by decide) (by decide) ?_;have yes:hexP g=true->goD' last L 0=goD' last (L.drop (i+1)) (n+1):=fun hx=>by rw[hS,hx];simp
  have no:hexP g=false->goD' last L 0=if(last&&((i:Int)==(L.length:Int)-1)&&dotB g)=true then goD' last (L.drop (i+1)) (n+2)else-1:=fun hx=>by rw[hS,hx];simp
  have tail:hexP g=false->(last=false\/(last=true/\((i:Int)==(L.length:Int)-1)=false))->goD' last L 0= -1:=fun hx hc=>by
   rw[no hx];rcases hc with rfl|⟨rfl,hc⟩
   ·simp
   ·rw[hc];simp
  have quadC:hexP g=false->last=true->((i:Int)==(L.length:Int)-1)=true->goD' last L 0=if dotB g=true then goD' last (L.drop (i+1)) (n+2)else-1:=fun hx h1 h2=>by
   rw[no hx,h1,h2];simp
  by_cases he:(qae 16 65535 g).2=0
  ·by_cases h4:g.length<=4
   ·have hx:hexP g=true:=by unfold hexP;simp[he,h4]
    have h4':(g.length:Int)<=4:=by omega
    simp[he,h4',hat,v1,w1];exact Klz ⟨rfl,i+1,n+1,by omega,by omega,by omega,yes hx,friz⟩
   ·have hx:hexP g=false:=by unfold hexP;simp[h4]
    have h4':¬(g.length:Int)<=4:=by omega
    by_cases hcd:last=true
    ·by_cases his:((i:Int)==(L.length:Int)-1)=true
     ·have hq:=quadC hx hcd his;subst hcd;simp[he,h4',hat,w3,his];refine qjS E _ g (by omega) ?_;cases hdq:dotB g with
      |true=>
       rw[hdq,if_pos rfl]at hq;simp[v2,w1];exact Klz ⟨rfl,i+1,n+2,by omega,by omega,by omega,hq,friz⟩
      |false=>
       rw[hdq,if_neg (by simp)]at hq;simp;exact aQz hB (h6:=(fin _ hq))
     ·have his':((i:Int)==(L.length:Int)-1)=false:=by simpa using his
      have hq:=tail hx (.inr ⟨hcd,his'⟩);subst hcd;simp[he,h4',hat,w3,his'];exact aQz hB (h6:=(fin _ hq))
    ·have hcd':last=false:=by simpa using hcd
     have hq:=tail hx (.inl hcd');subst hcd';simp[he,h4',hat];exact aQz hB (h6:=(fin _ hq))
  ·have hx:hexP g=false:=by unfold hexP;simp[he]
   have he1:((qae 16 65535 g).2==0)=false:=by simpa using he
   by_cases hcd:last=true
   ·by_cases his:((i:Int)==(L.length:Int)-1)=true
    ·have hq:=quadC hx hcd his;subst hcd;simp[he1,hat,w3,his];refine qjS E _ g (by omega) ?_;cases hdq:dotB g with
     |true=>
      rw[hdq,if_pos rfl]at hq;simp[v2,w1];exact Klz ⟨rfl,i+1,n+2,by omega,by omega,by omega,hq,friz⟩
     |false=>
      rw[hdq,if_neg (by simp)]at hq;simp;exact aQz hB (h6:=(fin _ hq))
    ·have his':((i:Int)==(L.length:Int)-1)=false:=by simpa using his
     have hq:=tail hx (.inr ⟨hcd,his'⟩);subst hcd;simp[he1,hat,w3,his'];exact aQz hB (h6:=(fin _ hq))
   ·have hcd':last=false:=by simpa using hcd
    have hq:=tail hx (.inl hcd');subst hcd';simp[he1,hat];exact aQz hB (h6:=(fin _ hq))
 ·obtain rfl:i=L.length:=by omega
  rw[List.drop_length,goD']at hS;simp;exact aQz hB (h6:=(fin _ hS))
theorem qmK(s:List UInt8)(last:Bool)(hl:s.length<=1073741824): -1<=grpD s last/\grpD s last<=2147483648:=by
 rw[qjf];have:=qeY s last hl;split<;>omega
def rfaI(s:List UInt8)(H:Hp)(fr:List AV)(K:Hp):Prop:=K=H/\∃i:Nat,i<=s.length/\cut2 58 s=(s.take i++(cut2 58 (s.drop i)).1,(cut2 58 (s.drop i)).2)/\∃x:Nat->AV,fr=[.str s,x 1,x 2,.int .i64 (i:Int),x 4,x 5,x 6,x 7,x 8,x 9,x 10,x 11,x 12,x 13,x 14,x 15,x 16,x 17,x 18,x 19,x 20,x 21,x 22,x 23,x 24,x 25,x 26,x 27,x 28,x 29,x 30,x 31,x 32,x 33,x 34,x 35,x 36,x 37,x 38,x 39,x 40,x 41,x 42,x 43,x 44,x 45,x 46,x 47]
theorem qoX(s:List UInt8)(hl:s.length<=1073741824)(hQ:Q (.bool (qf7 s)) H):PC Tryz.prog E 90 [.str s] H Q:=by
 refine qac Tryz.func90 rfl [] [] (by kernel_rfl) (fun hB=>?_);rw[addrD]at hQ;simp[Tryz.ntmps90,Tryz.results90,List.replicate_succ];refine qaB (rfaI s H) (fun fr _=>s.length-(ai (aget fr 3)).toNat) ⟨rfl,0,by omega,by simp,friz⟩ ?_;rintro fr K ⟨rfl,i,hi,hS,x,rfl⟩;have w1:IntKind.i64.wrap ((i:Int)+1)=i+1:=wiz;have w2:IntKind.i64.wrap ((i:Int)+2)=((i+2:Nat):Int):=by rw[qak (by omega) (by omega)];omega
 by_cases h:i+1<s.length
 ·obtain⟨a,ha⟩:∃a,s[i]? =some a:=⟨_,zqD (by omega)⟩
  obtain⟨b,hb⟩:∃b,s[i+1]? =some b:=⟨_,zqD h⟩
  have la:=qas ha;have lb:=qas hb;have h':(i:Int)+1<s.length:=by omega
  have q1:((i:Int)+1).toNat=i+1:=by omega
  have q3:(0:Int)<=i+1:=by omega
  have hd:s.drop i=a::b::s.drop (i+2):=by rw[qay s i a ha,qay s (i+1) b hb]
  have hd1:s.drop (i+1)=b::s.drop (i+2):=qay s (i+1) b hb
  have next:¬(a=58/\b=58)->cut2 58 s=(s.take (i+1)++(cut2 58 (s.drop (i+1))).1,(cut2 58 (s.drop (i+1))).2):=fun hn=>by
   rw[hS,hd,cut2,if_neg hn,hd1,List.take_add_one,ha];simp
  by_cases h1:a=58
  ·subst h1;by_cases h2:b=58
   ·subst h2
    have hcut:cut2 58 s=(s.take i,s.drop (i+2),true):=by
     rw[hS,hd,cut2,if_pos ⟨rfl,rfl⟩];simp
    rw[hcut]at hQ;dsimp only at hQ;have t1:(s.take i).length<=1073741824:=by rw[zqJ];omega
    have t2:(s.drop (i+2)).length<=1073741824:=by rw[zqI];omega
    have r1:=qmK (s.take i) false t1;have r2:=qmK (s.drop (i+2)) true t2;have q5:i+2<=s.length:=h;have ht:(s.drop (i+2)).take (s.length-(i+2))=s.drop (i+2):=zqE (by simp);simp[w1,h',la,lb,q1,q3,hi];refine qeS E _ (s.take i) false t1 (fun v hv=>?_);simp[w2,q5,ht,-Int.natCast_add];refine qeS E _ (s.drop (i+2)) true t2 (fun u hu=>?_);rw[hv]at r1 hQ;rw[hu]at r2 hQ;have w:IntKind.i64.wrap (v+u)=v+u:=wiz;by_cases g1:0<=v
    ·by_cases g2:0<=u
     ·simp[g1,g2,w];exact aQz hB (h6:=(by simpa[g1,g2]using hQ))
     ·simp[g1,g2];exact aQz hB (h6:=(by simpa[g1,g2]using hQ))
    ·simp[g1];exact aQz hB (h6:=(by simpa[g1]using hQ))
   ·have hb2:=(qaE b 58 (by decide) 58 rfl h2).1;simp[w1,h',la,lb,q1,q3,hb2];exact Klz ⟨rfl,i+1,by omega,next (fun e=>h2 e.2),friz⟩
  ·have ha2:=(qaE a 58 (by decide) 58 rfl h1).1;simp[w1,h',la,ha2];exact Klz ⟨rfl,i+1,by omega,next (fun e=>h1 e.1),friz⟩
 ·have h':¬(i:Int)+1<s.length:=by omega
  have hlast:(cut2 58 (s.drop i)).2.2=false:=by
   have:(s.drop i).length<=1:=by rw[zqI];omega
   match s.drop i,this with
   |[],_=>rfl
   |[_],_=>rfl
  have hc2:(cut2 58 s).2.2=false:=by rw[hS];exact hlast
  rcases hcut:cut2 58 s with⟨a,b,t⟩;rw[hcut]at hQ hc2;simp only at hc2;subst hc2;dsimp only at hQ;simp[w1,h'];refine qeS E _ s true hl (fun v hv=>?_);rw[hv]at hQ;simp;exact aQz hB (h6:=hQ)
def rfnI(s:List UInt8)(H:Hp)(fr:List AV)(K:Hp):Prop:=K=H/\∃i:Nat,i<=s.length/\qaK qcj s=i+qaK qcj (s.drop i)/\∃x:Nat->AV,fr=[.str s,x 1,x 2,.int .i64 (i:Int),x 4,x 5,x 6,x 7,x 8,x 9,x 10,x 11,x 12,x 13,x 14,x 15,x 16,x 17,x 18,x 19,x 20,x 21,x 22,x 23,x 24,x 25,x 26,x 27,x 28]
theorem qjT(s:List UInt8)(hl:s.length<=1073741824)(hQ:Q (.bool (!s.isEmpty&&qaK qcj s==s.length)) H):PC Tryz.prog E 91 [.str s] H Q:=by
 refine qac Tryz.func91 rfl [] [] (by kernel_rfl) (fun hB=>?_);have fin:∀c:Bool,(!s.isEmpty&&qaK qcj s==s.length)=c->Q (.bool c) H:=fun c h=>h▸hQ;simp[Tryz.ntmps91,Tryz.results91,List.replicate_succ];refine qaB (rfnI s H) (fun fr _=>s.length-(ai (aget fr 3)).toNat) ⟨rfl,0,by omega,by simp,friz⟩ ?_;rintro fr K ⟨rfl,i,hi,hS,x,rfl⟩;by_cases h:i<s.length
 ·obtain⟨c,hc⟩:∃c,s[i]? =some c:=⟨_,zqD h⟩
  have la:=qas hc;have hd:=qay s i c hc;have w3:IntKind.i64.wrap ((i:Int)+3)=i+3:=wiz;have w1:IntKind.i64.wrap ((i:Int)+1)=i+1:=wiz;simp[h];refine qgZ E _ s i h hl ?_;rw[hd,qbx]at hS;rw[hd];by_cases ht:qbI (c::s.drop (i+1))=true
  ·have h3:=qfb ht;rw[<-hd,zqI]at h3;simp[ht,w3];rw[if_pos ht,List.drop_drop]at hS;exact Klz ⟨rfl,i+3,by omega,by rw[hS,show i+1+2=i+3 by omega];omega,friz⟩
  ·have ht':qbI (c::s.drop (i+1))=false:=by simpa using ht
   rw[if_neg ht]at hS
   have bad:qcj c=false->(!s.isEmpty&&qaK qcj s==s.length)=false:=fun hm=>by
    rw[hm,if_neg (by simp)]at hS;have:(qaK qcj s==s.length)=false:=by rw[beq_eq_false_iff_ne,hS];omega
    rw[this,Bool.and_false]
   have go:qcj c=true->qaK qcj s=(i+1)+qaK qcj (s.drop (i+1)):=fun hm=>by rw[hm,if_pos rfl]at hS;omega
   simp[ht',la];refine qic E _ c ?_;cases u1:qbK c with
   |true=>
    have hm:qcj c=true:=by unfold qcj;rw[u1];rfl
    simp[w1];exact Klz ⟨rfl,i+1,by omega,go hm,friz⟩
   |false=>
    simp[la];refine qml E _ c ?_;cases u2:qb1 c with
    |true=>
     have hm:qcj c=true:=by unfold qcj;rw[u1,u2];rfl
     simp[w1];exact Klz ⟨rfl,i+1,by omega,go hm,friz⟩
    |false=>
     have hm:qcj c=false:=by unfold qcj;rw[u1,u2];rfl
     simp;exact aQz hB (h6:=(fin _ (bad hm)))
 ·obtain rfl:i=s.length:=by omega
  rw[List.drop_length,qds,Nat.add_zero]at hS;by_cases h0:s=[]
  ·subst h0;simp;exact aQz hB (h6:=(fin _ rfl))
  ·have h0':(s !=[])=true:=by simpa using h0
   simp[h0'];exact aQz hB (h6:=(fin _ (by rw[hS];simpa using h0)))
end
end Go.Proofs.YtnnhdehmlkkfjaaGreatDoor
set_option linter.unnecessarySimpa false
namespace Go.Proofs.YtnnhdehmlkkfjaaGreatDoor
open Go Go.RowKit Go.Proofs Go.Lib
section
variable (E:Env)(H:Hp)(Q:AV->Hp->Prop)
end
end Go.Proofs.YtnnhdehmlkkfjaaGreatDoor
namespace Go.Proofs.YtnnhdehmlkkfjaaGreatDoor
open Go Go.RowKit Go.Proofs Go.Deep
theorem qek:∀(rows:List (List AV)),(∀r∈rows,r.length=2/\∀(j:Nat) k y,[CK.str,.str][j]? =some k->r[j]? =some y->qiR k y)->∃ls,rows=flds ls/\fsz ls<=wtA rows.flatten
 |[],_=>⟨[],rfl,by simp[fsz]⟩
 |r::rows,h=>by
  obtain⟨ls,rfl,hw⟩:=qek rows (fun q hq=>h q (List.mem_cons_of_mem _ hq));obtain⟨h1,h2⟩:=h r (List.mem_cons_self ..)
  match r,h1 with
  |[a,b],_=>
   obtain⟨x,rfl⟩:=qmD (h2 0 _ _ rfl rfl);obtain⟨y,rfl⟩:=qmD (h2 1 _ _ rfl rfl);refine⟨⟨x,y⟩::ls,rfl,?_⟩;rw[List.flatten_cons,qk0];simp[fsz,wtA]at hw⊢;omega
end Go.Proofs.YtnnhdehmlkkfjaaGreatDoor
namespace Go.Proofs.YtnnhdehmlkkfjaaGreatDoor
open Go Go.RowKit Go.Proofs
theorem qhL(a b:List (List UInt8)):qaq (a++b)=qaq a++qaq b:=by simp[qaq]
def full(l:List (List UInt8)):List (List UInt8):=l.filter fun p=>p !=[]
theorem qfz(a b:List (List UInt8)):full (a++b)=full a++full b:=by simp[full]
theorem qpF(l:List (List UInt8))(j:Nat):(qaq (full (l.take j))).length<=(qaq (full l)).length:=by
 have h:full l=full (l.take j)++full (l.drop j):=by rw[<-qfz,List.take_append_drop]
 rw[h,qhL,zqK];omega
theorem qgc(l:List (List UInt8))(s:List UInt8):qcz l++[[.str s]]=qcz (l++[s]):=by simp[qcz]
@[simp] theorem qq6 (l:List (List UInt8)):(qcz l).length=l.length:=by simp[qcz]
theorem qkD{l:List (List UInt8)}{j:Nat}{s:List UInt8}(h:l[j]? =some s):s.length<=l.flatten.length:=by
 have:=zqH h
 induction l generalizing j with
 |nil=>cases this
 |cons a l ih=>
  cases j with
  |zero=>simp at h;subst h;simp
  |succ j=>
   have h':l[j]? =some s:=by simpa using h
   have:=ih h' (zqH h');simp only[List.flatten_cons,zqK];omega
section
variable (E:Env)(H:Hp)(Q:AV->Hp->Prop)
theorem qfD(f:Fld)(h1:f.name.length<=16777216)(h2:f.value.length<=16777216)(hQ:Q (.tup [.str (qa6 f).1,.int .i64 (qa6 f).2]) H):PC Tryz.prog E 81 [.agg [.str f.name,.str f.value]] H Q:=by
 refine qac Tryz.func81 rfl [] [] (by kernel_rfl) (fun hB=>?_);have m1:f.name.length+1<=maxLen:=by unfold maxLen;omega
 have m2:f.name.length+2<=maxLen:=by unfold maxLen;omega
 have m3:f.name.length+2+f.value.length<=maxLen:=by unfold maxLen;omega
 have m4:f.name.length+1+1<=maxLen:=by unfold maxLen;omega
 have m5:f.name.length+1+1+f.value.length<=maxLen:=by unfold maxLen;omega
 simp[Tryz.ntmps81,Tryz.results81,List.replicate_succ];refine qg1 E _ _ f.name (by simp only[cap];omega) ?_;cases hn:qbm f.name with
 |false=>
  have e:qa6 f=([],60):=by unfold qa6;rw[if_pos hn]
  rw[e]at hQ;simp;exact qab hB rfl (qaa _) (by simp) hQ
 |true=>
  simp;refine qkL E _ _ f.value (by simp only[cap];omega) ?_;cases hv:qbY f.value with
  |false=>
   have e:qa6 f=([],61):=by unfold qa6;rw[if_neg (by rw[hn];simp),if_pos hv]
   rw[e]at hQ;simp;exact qab hB rfl (qaa _) (by simp) hQ
  |true=>
   have e:qa6 f=(qax f,0):=by unfold qa6;rw[if_neg (by rw[hn];simp),if_neg (by rw[hv];simp)]
   rw[e]at hQ;by_cases he:f.value=[]
   ·have e2:qax f=f.name++[58]:=by unfold qax;rw[if_pos he]
    rw[e2]at hQ;have he':(f.value==[])=true:=by simpa using he
    simp[he',m1];exact qab hB rfl (qaa _) (by simp) hQ
   ·have e2:qax f=f.name++(58::32::f.value):=by unfold qax;rw[if_neg he]
    rw[e2]at hQ;have he':(f.value==[])=false:=by simpa using he
    simp[he',m2,m3,m4,m5];exact qab hB rfl (qaa _) (by simp) hQ
def deInv1(body:List UInt8)(ns:List Int)(ts:List Fld)(H:Hp)(fr:List AV)(H':Hp):Prop:=H'=H/\∃i:Nat,i<=ns.length/\qcA (ns.take i)=true/\
 ∃x:Nat->AV,fr=[.str body,.sl false 1 (ints ns),.sl false 2 (flds ts),x 3,x 4,x 5,x 6,x 7,x 8,x 9,x 10,x 11,x 12,x 13,x 14,x 15,x 16,x 17,x 18,x 19,x 20,x 21,.sl false 1 (ints ns),.int .i64 ns.length,.int .i64 i,x 25,x 26,x 27,x 28,x 29,x 30,x 31,x 32,x 33,x 34,x 35,x 36,x 37,x 38,x 39,x 40,x 41,x 42,x 43,x 44,x 45,x 46,x 47,x 48,x 49,x 50,x 51,x 52,x 53,x 54,x 55,x 56,x 57,x 58,x 59,x 60,x 61,x 62,x 63,x 64,x 65,x 66,x 67,x 68,x 69,x 70,x 71,x 72,x 73,x 74,x 75,x 76,x 77,x 78,x 79,x 80,x 81,x 82,x 83,x 84,x 85,x 86,x 87,x 88,x 89,x 90,x 91,x 92,x 93,x 94,x 95,x 96,x 97,x 98,x 99,x 100,x 101,x 102,x 103]
def deInv2(body:List UInt8)(ns:List Int)(ts:List Fld)(H:Hp)(fr:List AV)(H':Hp):Prop:=∃(J:Hp) (i:Nat),H'=H++J/\i<=ts.length/\(ts.take i).all qbj=true/\
 ∃x:Nat->AV,fr=[.str body,.sl false 1 (ints ns),.sl false 2 (flds ts),x 3,x 4,x 5,x 6,x 7,x 8,x 9,x 10,x 11,x 12,x 13,x 14,x 15,x 16,x 17,x 18,x 19,x 20,x 21,x 22,x 23,x 24,x 25,x 26,x 27,x 28,x 29,x 30,.sl false 2 (flds ts),.int .i64 ts.length,.int .i64 i,x 34,x 35,x 36,x 37,x 38,x 39,x 40,x 41,x 42,x 43,x 44,x 45,x 46,x 47,x 48,x 49,x 50,x 51,x 52,x 53,x 54,x 55,x 56,x 57,x 58,x 59,x 60,x 61,x 62,x 63,x 64,x 65,x 66,x 67,x 68,x 69,x 70,x 71,x 72,x 73,x 74,x 75,x 76,x 77,x 78,x 79,x 80,x 81,x 82,x 83,x 84,x 85,x 86,x 87,x 88,x 89,x 90,x 91,x 92,x 93,x 94,x 95,x 96,x 97,x 98,x 99,x 100,x 101,x 102,x 103]
def deInv3(body:List UInt8)(ns:List Int)(ts:List Fld)(H:Hp)(fr:List AV)(H':Hp):Prop:=∃(J:Hp) (i:Nat) (b:List UInt8) (pcs:List (List UInt8)),H'=H++J/\i<=ns.length/\pcs.length=i/\full pcs++qan b (ns.drop i)=qan body ns/\b.length<=body.length/\
 ∃x:Nat->AV,fr=[.str b,x 1,.sl false 2 (flds ts),x 3,x 4,x 5,x 6,x 7,x 8,x 9,x 10,x 11,.sl true 1 (qcz pcs),x 13,x 14,x 15,x 16,x 17,x 18,x 19,x 20,x 21,x 22,x 23,x 24,x 25,x 26,x 27,x 28,x 29,x 30,x 31,x 32,x 33,x 34,x 35,x 36,x 37,x 38,x 39,x 40,.sl false 1 (ints ns),.int .i64 ns.length,.int .i64 i,x 44,x 45,x 46,x 47,x 48,x 49,x 50,x 51,x 52,x 53,x 54,x 55,x 56,x 57,x 58,x 59,x 60,x 61,x 62,x 63,x 64,x 65,x 66,x 67,x 68,x 69,x 70,x 71,x 72,x 73,x 74,x 75,x 76,x 77,x 78,x 79,x 80,x 81,x 82,x 83,x 84,x 85,x 86,x 87,x 88,x 89,x 90,x 91,x 92,x 93,x 94,x 95,x 96,x 97,x 98,x 99,x 100,x 101,x 102,x 103]
def deInv4(all:List (List UInt8))(ts:List Fld)(H:Hp)(fr:List AV)(H':Hp):Prop:=∃(J:Hp) (i:Nat),H'=H++J/\i<=all.length/\
 ∃x:Nat->AV,fr=[x 0,x 1,.sl false 2 (flds ts),x 3,x 4,x 5,x 6,x 7,x 8,x 9,x 10,x 11,x 12,x 13,x 14,.str (qaq (full (all.take i))),x 16,x 17,x 18,x 19,x 20,x 21,x 22,x 23,x 24,x 25,x 26,x 27,x 28,x 29,x 30,x 31,x 32,x 33,x 34,x 35,x 36,x 37,x 38,x 39,x 40,x 41,x 42,x 43,x 44,x 45,x 46,x 47,x 48,x 49,x 50,x 51,x 52,x 53,x 54,x 55,x 56,x 57,x 58,x 59,x 60,x 61,x 62,x 63,x 64,x 65,.sl true 1 (qcz all),.int .i64 all.length,.int .i64 i,x 69,x 70,x 71,x 72,x 73,x 74,x 75,x 76,x 77,x 78,x 79,x 80,x 81,x 82,x 83,x 84,x 85,x 86,x 87,x 88,x 89,x 90,x 91,x 92,x 93,x 94,x 95,x 96,x 97,x 98,x 99,x 100,x 101,x 102,x 103]
def deInv5(out:List UInt8)(ts:List Fld)(H:Hp)(fr:List AV)(H':Hp):Prop:=∃(J:Hp) (i:Nat),H'=H++J/\i<=ts.length/\
 ∃x:Nat->AV,fr=[x 0,x 1,x 2,x 3,x 4,x 5,x 6,x 7,x 8,x 9,x 10,x 11,x 12,x 13,x 14,.str (out++qav (ts.take i)),x 16,x 17,x 18,x 19,x 20,x 21,x 22,x 23,x 24,x 25,x 26,x 27,x 28,x 29,x 30,x 31,x 32,x 33,x 34,x 35,x 36,x 37,x 38,x 39,x 40,x 41,x 42,x 43,x 44,x 45,x 46,x 47,x 48,x 49,x 50,x 51,x 52,x 53,x 54,x 55,x 56,x 57,x 58,x 59,x 60,x 61,x 62,x 63,x 64,x 65,x 66,x 67,x 68,x 69,x 70,x 71,x 72,x 73,x 74,x 75,x 76,x 77,x 78,x 79,x 80,x 81,x 82,x 83,x 84,x 85,.sl false 2 (flds ts),.int .i64 ts.length,.int .i64 i,x 89,x 90,x 91,x 92,x 93,x 94,x 95,x 96,x 97,x 98,x 99,x 100,x 101,x 102,x 103]
theorem qiL(body:List UInt8)(ns:List Int)(ts:List Fld)(hb:body.length<=1048576)(hn:ns.length<=1048577)(ht:fsz ts+ts.length<=1048577)(hr:∀z∈ns,-9223372036854775808<=z/\z<=9223372036854775807)
  (hQ:Q (.tup [.str (qbh body ns ts).1,.int .i64 (qbh body ns ts).2]) H):PC Tryz.prog E 59 [.str body,.sl false 1 (ints ns),.sl false 2 (flds ts)] H Q:=by
 refine qac Tryz.func59 rfl [53,63] [] (by kernel_rfl) (fun hB=>?_);simp[Tryz.ntmps59,Tryz.results59,List.replicate_succ];refine qaB (deInv1 body ns ts H) (fun fr _=>ns.length-(ai (aget fr 24)).toNat) ⟨rfl,0,by omega,rfl,friz⟩ ?_;rintro fr H' ⟨rfl,i,hi,hall,x,rfl⟩;by_cases h:i<ns.length
 ·obtain⟨z,hz⟩:∃z,ns[i]? =some z:=⟨_,zqD h⟩
  have hat:=qjd hz;have hw:IntKind.i64.wrap ((i:Int)+1)=i+1:=wiz
  have hst:qcA (ns.take (i+1))=(qcA (ns.take i)&&decide (1<=z)):=by
   unfold qcA;rw[List.take_add_one,hz,List.all_append];simp
  by_cases hz1:z<1
  ·have e:qbh body ns ts=([],1):=by
    unfold qbh;rw[if_pos];unfold qcA;rw[List.all_eq_false];exact⟨z,zqH hz,by simp;omega⟩
   rw[e]at hQ;simp[h,hat,hz1];exact aQz hB (h6:=hQ)
  ·simp[h,hat,hz1,hw];exact Klz ⟨rfl,i+1,by omega,by rw[hst,hall];simp;omega,friz⟩
 obtain rfl:i=ns.length:=by omega
 rw[zqE (Nat.le_refl _)]at hall;have hns:∀z∈ns,1<=z:=fun z hz=>by have:=List.all_eq_true.1 hall z hz;simpa using this
 clear hi h;simp;refine qaB (deInv2 body ns ts H') (fun fr _=>ts.length-(ai (aget fr 33)).toNat) ⟨[],0,by simp,by omega,by simp,friz⟩ ?_;rintro fr H2 ⟨J,i,rfl,hi,hts,x,rfl⟩;by_cases h:i<ts.length
 ·obtain⟨f,hf⟩:∃f,ts[i]? =some f:=⟨_,zqD h⟩
  have hat:=qdj hf;have hfm:=qeh hf;have hw:IntKind.i64.wrap ((i:Int)+1)=i+1:=wiz;simp[h,hat];refine qp5 E _ _ f (by simp only[cap];omega) (by simp only[cap];omega) ?_;cases hrt:qbj f
  ·have hq:qbh body ns ts=([],101):=by
    unfold qbh;rw[if_neg (by rw[hall];simp),if_pos];rw[List.all_eq_false];exact⟨f,zqH hf,by rw[hrt];simp⟩
   rw[hq]at hQ;simp;exact qab hB rfl (qaa _) (by simp) hQ
  ·simp[hw];exact Klz ⟨_,i+1,rfl,by omega,by rw[qbB qbj ts i f hf,hts,hrt];rfl,friz⟩
 obtain rfl:i=ts.length:=by omega
 rw[zqE (Nat.le_refl _)]at hts
 have he:qbh body ns ts=(encT (qan body ns) ts,0):=by
  unfold qbh;rw[if_neg (by rw[hall];simp),if_neg (by rw[hts];simp)]
 rw[he]at hQ;simp only at hQ;clear hi h he hall;have hpf:(qan body ns).flatten=body:=qdR ns body;have htot:=qeC (qan body ns) (qfq ns body hns) (by rw[hpf];omega);rw[hpf]at htot;simp;refine qeo 12 1 (by rfl) ?_;simp only[List.set_cons_succ,List.set_cons_zero];refine qaB (deInv3 body ns ts H') (fun fr _=>ns.length-(ai (aget fr 43)).toNat) ⟨J,0,body,[],rfl,by omega,rfl,by simp[full],by omega,qag (by simp[qcz])⟩ ?_;clear J x;rintro fr H3 ⟨J,i,b,pcs,rfl,hi,hpl,hsum,hbl,x,rfl⟩;have m1:pcs.length+1<=maxLen:=by unfold maxLen;omega
 have m2:(pcs.length+1)*16<=140737488355328:=by omega
 by_cases h:i<ns.length
 ·obtain⟨z,hz⟩:∃z,ns[i]? =some z:=⟨_,zqD h⟩
  have hat:=qjd hz;have hz1:=hns z (zqH hz);have hw:IntKind.i64.wrap ((i:Int)+1)=i+1:=wiz;have hdrop:ns.drop i=z::ns.drop (i+1):=by rw[List.drop_eq_getElem_cons h];simp[(zqC.1 hz).2]
  rw[hdrop]at hsum;obtain⟨m,hm⟩:∃m:Nat,(if(b.length:Int)<z then(b.length:Int)else z)=m:=⟨(if(b.length:Int)<z then(b.length:Int)else z).toNat,by split<;>omega⟩
  have hml:m<=b.length:=by split at hm<;>omega
  have htk:b.take m=b.take z.toNat:=by
   split at hm
   ·rw[zqE (by omega),zqE (by omega)]
   ·rw[show m=z.toNat by omega]
  have hdk:b.drop m=b.drop z.toNat:=by
   split at hm
   ·rw[List.drop_of_length_le (by omega),List.drop_of_length_le (by omega)]
   ·rw[show m=z.toNat by omega]
  have hsum2:full (pcs++[b.take m])++qan (b.drop m) (ns.drop (i+1))=qan body ns:=by
   rw[<-hsum,qfz,htk,hdk];by_cases hb0:b=[]
   ·subst hb0;simp[full,qdw]
   ·have hne:b.take z.toNat≠[]:=fun e=>by
     have:=congrArg List.length e;rw[zqJ]at this;have h0:b.length≠0:=fun e=>hb0 (List.length_eq_zero_iff.1 e);have h3:([]:List UInt8).length=0:=rfl;omega
    rw[qgi hb0];simp[full,hne]
  have hsn:=qgc pcs (b.take m);have htl:(b.drop m).take (b.length-m)=b.drop m:=zqE (by rw[zqI];omega);by_cases hlz:(b.length:Int)<z
  ·have hm':m=b.length:=by rw[if_pos hlz]at hm;omega
   subst hm';simp at hsn;simp[h,hat,hlz,m1,m2,hsn,hw];exact Klz ⟨J,i+1,[],pcs++[b],rfl,by omega,by simp[hpl],by simpa using hsum2,by simp,friz⟩
  ·have hzm:z=m:=by rw[if_neg hlz]at hm;exact hm
   subst hzm;have hlz':m<=b.length:=hml;simp[h,hat,hlz,hlz',m1,m2,hsn,hw,htl];exact Klz ⟨J,i+1,b.drop m,pcs++[b.take m],rfl,by omega,by simp[hpl],hsum2,by rw[zqI];omega,friz⟩
 obtain rfl:i=ns.length:=by omega
 rw[List.drop_of_length_le (Nat.le_refl _)]at hsum
 have hall:full (pcs++[b])=qan body ns:=by
  rw[<-hsum,qfz];by_cases hb0:b=[]
  ·subst hb0;simp[full,qdw]
  ·rw[qgh hb0];simp[full,hb0]
 have hsn:=qgc pcs b
 have hflat:(full (pcs++[b])).flatten=(pcs++[b]).flatten:=by
  generalize pcs++[b]=l
  induction l with
  |nil=>rfl
  |cons a l ih=>
   unfold full at ih⊢;rw[List.filter_cons];split
   ·simp[ih]
   ·rename_i hh;have:a=[]:=by simpa using hh
    subst this;simpa using ih
 obtain⟨all,hallE⟩:=exz (pcs++[b]);have hal:all.length=ns.length+1:=by rw[<-hallE];simp[hpl]
 rw[hallE]at hsn hall hflat;simp[m1,m2,hsn];refine qaB (deInv4 all ts H') (fun fr _=>all.length-(ai (aget fr 68)).toNat) ⟨J,0,rfl,by omega,qag (by simp[full,qaq])⟩ ?_;clear J x hsum;rintro fr H4 ⟨J,i,rfl,hi,x,rfl⟩;have hcl:=qpF all i;rw[hall]at hcl;by_cases h:i<all.length
 ·obtain⟨s,hs⟩:∃s,all[i]? =some s:=⟨_,zqD h⟩
  have hat:=qh8 hs;have hsl:=qkD hs;rw[<-hflat,hall,hpf]at hsl;have hw:IntKind.i64.wrap ((i:Int)+1)=i+1:=wiz;have htk:all.take (i+1)=all.take i++[s]:=by rw[List.take_add_one,hs];rfl
  have hs11:=qbG s.length (by omega);by_cases hs0:s=[]
  ·have e:qaq (full (all.take (i+1)))=qaq (full (all.take i)):=by rw[htk,qfz,hs0];simp[full]
   subst hs0;simp[h,hat,hw];exact Klz ⟨J,i+1,rfl,by omega,qag (by rw[e];simp)⟩
  ·have hs1:(s !=[])=true:=by simpa using hs0
   have e:qaq (full (all.take (i+1)))=qaq (full (all.take i))++qbF s:=by
    rw[htk,qfz,qhL];simp[full,hs0,qaq]
   have k1:(hexD s.length).length+1+1<=maxLen:=by unfold maxLen;omega
   have k2:(hexD s.length).length+2<=maxLen:=by unfold maxLen;omega
   have k3:(hexD s.length).length+1+1+s.length<=maxLen:=by unfold maxLen;omega
   have k4:(hexD s.length).length+2+s.length<=maxLen:=by unfold maxLen;omega
   have k5:(hexD s.length).length+(s.length+1+1)+2<=maxLen:=by unfold maxLen;omega
   have k6:(qaq (full (all.take i))).length+((hexD s.length).length+(s.length+1+1+1+1))<=maxLen:=by unfold maxLen;omega
   have k7:(hexD s.length).length+(s.length+1+1+2)<=maxLen:=by unfold maxLen;omega
   have k8:(qaq (full (all.take i))).length+((hexD s.length).length+(s.length+(1+1)+1+1))<=maxLen:=by unfold maxLen;omega
   simp[h,hat,hs1];refine qnW E _ _ s.length (by omega) ?_;simp[k1,k2,k3,k4,k5,k6,k7,k8,hw];exact Klz ⟨J,i+1,rfl,by omega,qag (by rw[e];simp[qbF])⟩
 obtain rfl:i=all.length:=by omega
 rw[zqE (Nat.le_refl _),hall]at hcl⊢;have k0:(qaq (qan body ns)).length+3<=maxLen:=by unfold maxLen;omega
 have k0':(qaq (qan body ns)).length+1+1+1<=maxLen:=by unfold maxLen;omega
 obtain⟨out,hout⟩:=exz (qaq (qan body ns)++[48,13,10]);have hol:out.length<=17000000:=by rw[<-hout];simp;omega
 simp[k0,k0',hout];refine qaB (deInv5 out ts H') (fun fr _=>ts.length-(ai (aget fr 88)).toNat) ⟨J,0,rfl,by omega,qag (by simp[qav])⟩ ?_;clear J x;rintro fr H5 ⟨J,i,rfl,hi,x,rfl⟩;have hlin:=qcx (ts.take i);have hsz:=qgz ts i;rw[zqJ]at hlin;by_cases h:i<ts.length
 ·obtain⟨f,hf⟩:∃f,ts[i]? =some f:=⟨_,zqD h⟩
  have hat:=qdj hf;have hfm:=qeh hf;have hw:IntKind.i64.wrap ((i:Int)+1)=i+1:=wiz;have hrt:qbj f=true:=List.all_eq_true.1 hts f (zqH hf)
  have hlp:qa6 f=(qax f,0):=by
   unfold qbj at hrt;simp at hrt;unfold qa6;rw[if_neg (by rw[qhc hrt.1];simp),if_neg (by rw[hrt.2];simp)]
  have hlt:=qfv f;have hst:=qdS ts i f hf;have k1:(qax f).length+1+1<=maxLen:=by unfold maxLen;omega
  have k2:(qax f).length+2<=maxLen:=by unfold maxLen;omega
  have k3:out.length+(qav (ts.take i)).length+((qax f).length+1+1)<=maxLen:=by unfold maxLen;omega
  have k4:out.length+(qav (ts.take i)).length+((qax f).length+2)<=maxLen:=by unfold maxLen;omega
  simp[h,hat];refine qfD E _ _ f (by omega) (by omega) ?_;simp[hlp,k1,k2,k3,k4,hw];exact Klz ⟨_,i+1,rfl,by omega,qag (by rw[hst];simp)⟩
 ·obtain rfl:i=ts.length:=by omega
  rw[zqE (Nat.le_refl _)]at hlin⊢;have k1:out.length+(qav ts).length+2<=maxLen:=by unfold maxLen;omega
  have k2:out.length+(qav ts).length+1+1<=maxLen:=by unfold maxLen;omega
  have e:encT (qan body ns) ts=out++(qav ts++[13,10]):=by rw[<-hout];unfold encT;simp
  rw[e]at hQ;simp[k1,k2];exact aQy hB (h6:=hQ)
end
section
variable (E:Env)(H:Hp)(Q:AV->Hp->Prop)
theorem qqf(a b:List UInt8)(ha:a.length<=cap)(hb:b.length<=cap)(hQ:Q (.bool (qlA a b)) H):PC Tryz.prog E 126 [.str a,.str b] H Q:=by
 refine qac Tryz.func126 rfl [] [] (by kernel_rfl) (fun hB=>?_);simp[Tryz.ntmps126,Tryz.results126,List.replicate_succ];refine qcv E _ _ a ha ?_;simp;refine qcv E _ _ b hb ?_;simp;exact aQz hB (h6:=hQ)
end
theorem qps(out:List (List UInt8))(x:List UInt8):qco (out++[x])=qco out++(if(qaJ x).isEmpty then []else [qaJ x]):=by
 cases h:(qaJ x).isEmpty<;>simp[qco,h]
section
variable (E:Env)(H:Hp)(Q:AV->Hp->Prop)
theorem qhA(l:List Fld)(n:List UInt8)(hl:fsz l+l.length<=16777216)(hn:n.length<=cap)(hQ:Q (.sl false 1 (strs (allB l n))) H):PC Tryz.prog E 95 [.sl false 2 (flds l),.str n] H Q:=by
 refine qac Tryz.func95 rfl [18] [] (by kernel_rfl) (fun hB=>?_);simp[Tryz.ntmps95,Tryz.results95,List.replicate_succ];refine qeo 5 1 (by rfl) ?_;simp only[List.set_cons_succ,List.set_cons_zero];refine qaB (qts l n H) (fun fr _=>l.length-(ai (aget fr 10)).toNat) ⟨[],0,by simp,by omega,qag (by simp[allB,strs])⟩ ?_;rintro fr H' ⟨J,i,rfl,hi,x,rfl⟩;by_cases h:i<l.length
 ·obtain⟨f,hf⟩:∃f,l[i]? =some f:=⟨_,zqD h⟩
  have hat:=qdj hf;have hfm:=qeh hf;have hw:IntKind.i64.wrap ((i:Int)+1)=i+1:=wiz;have hst:=qkW l n i f hf;have hal:=qm9 (l.take i) n;rw[zqJ]at hal;simp[h,hat];refine qqf E _ _ f.name n (by simp only[cap];omega) hn ?_;cases he:qlA f.name n with
  |false=>
   rw[if_neg (by rw[he];simp),List.append_nil]at hst;simp[hw];exact Klz ⟨_,i+1,rfl,by omega,qag (by simp[hst])⟩
  |true=>
   rw[if_pos he]at hst;have m1:(allB (l.take i) n).length+1<=maxLen:=by unfold maxLen;omega
   have m2:((allB (l.take i) n).length+1)*16<=140737488355328:=by omega
   have hsn:=qgS (allB (l.take i) n) f.value;rw[<-hst]at hsn;simp[m1,m2,hsn,hw];exact Klz ⟨_,i+1,rfl,by omega,friz⟩
 ·obtain rfl:i=l.length:=by omega
  simp;exact qab hB (v0:= .sl false 1 (strs (allB l n))) (by simp) (qaa _) (by simp[qcN]) hQ
def elInv(l:List UInt8)(H:Hp)(fr:List AV)(H':Hp):Prop:=H'=H/\∃(f i:Nat) (out:List (List UInt8)),((f<=i/\i<=l.length/\out.length<=i/\qf2 l out f i)\/(i=l.length+1/\cut [] l=some out))/\
 ∃x:Nat->AV,fr=[.str l,x 1,x 2,x 3,.sl true 1 (strs (qco out)),.int .i64 f,.int .i64 i,x 7,x 8,x 9,x 10,x 11,x 12,x 13,x 14,x 15,x 16,x 17,x 18,x 19,x 20,x 21,x 22,x 23,x 24,x 25,x 26,x 27,x 28,x 29,x 30,x 31,x 32,x 33,x 34,x 35,x 36,x 37,x 38,x 39,x 40,x 41,x 42,x 43,x 44,x 45,x 46,x 47,x 48,x 49,x 50,x 51,x 52,x 53,x 54,x 55,x 56,x 57,x 58]
theorem qp9(l:List UInt8)(hl:l.length<=16777216)(hQ1:qd6 l=none->Q (.tup [.sl false 1 [],.bool false]) H)(hQ2:∀y,qd6 l=some y->Q (.tup [.sl false 1 (strs y),.bool true]) H):PC Tryz.prog E 142 [.str l] H Q:=by
 refine qac Tryz.func142 rfl [52] [] (by kernel_rfl) (fun hB=>?_);simp[Tryz.ntmps142,Tryz.results142,List.replicate_succ];refine qeo 4 1 (by rfl) ?_;simp only[List.set_cons_succ,List.set_cons_zero];refine qaB (elInv l H) (fun fr _=>l.length+1-(ai (aget fr 6)).toNat) ⟨rfl,0,0,[],.inl ⟨by omega,by omega,by simp,qhF l⟩,qag (by simp[strs,qco])⟩ ?_;rintro fr H' ⟨rfl,f,i,out,⟨hf,hi,hout,hc⟩|⟨rfl,hc⟩,x,rfl⟩
 ·have hkl:=qjb out;have hm:(qco out).length+1<=maxLen/\((qco out).length+1)*16<=140737488355328:=by unfold maxLen;omega
  have hle:(i:Int)<=l.length:=by omega
  have hw:IntKind.i64.wrap ((i:Int)+1)=i+1:=wiz;have pl:((l.drop f).take (i-f)).length<=cap:=by rw[zqJ,zqI];simp only[cap];omega
  have hst:=qps out ((l.drop f).take (i-f));by_cases h:i<l.length;rotate_left
  ·obtain rfl:i=l.length:=by omega
   have hcut:=qkN hc hf (Nat.le_refl _);have hsl:(l.drop f).take (l.length-f)=l.drop f:=zqE (by rw[zqI];omega);rw[hsl]at hcut pl hst;simp[hf,hsl];refine qcm E _ _ _ pl ?_;cases ht:(qaJ (l.drop f)).isEmpty
   ·have hne:(qaJ (l.drop f) !=[])=true:=by rw[qhk _ 0,ht];rfl
    rw[ht]at hst;have hsn:=qgS (qco out) (qaJ (l.drop f));simp[hne,hm,hw];exact qaH ⟨rfl,l.length+1,l.length+1,_,.inr ⟨rfl,hcut⟩,qag (by rw[hst];simp[strs])⟩ (by simp)
   ·have hne:(qaJ (l.drop f) !=[])=false:=by rw[qhk _ 0,ht];rfl
    rw[ht]at hst;simp[hne,hw];exact qaH ⟨rfl,l.length+1,l.length+1,_,.inr ⟨rfl,hcut⟩,qag (by rw[hst];simp[strs])⟩ (by simp)
  obtain⟨b,hb⟩:∃b,l[i]? =some b:=⟨_,zqD h⟩
  have hat:=qas hb;have hbn:=b.toNat_lt;have t1:((i:Int)==(l.length:Int))=false:=by simp;omega
  by_cases b34:b.toNat=34
  ·have hx34:b=34:=UInt8.toNat_inj.1 b34;have hb':l[i]? =some 34:=by rw[hb,hx34]
   have t2:((b.toNat:Int)==34)=true:=by simp;omega
   have hd:(l.drop i).take (l.length-i)=l.drop i:=zqE (by rw[zqI];omega);simp[h,hat,t2,hd,hi];refine qjZ E _ _ (l.drop i) (by rw[zqI];omega) (by rw[zqN];exact hb') ?_;cases hu:unquote (l.drop i)with
   |none=>
    have ha:qaU (l.drop i)=([],0,13):=by unfold qaU;rw[hu]
    have hbad:=qkO hc hf hb' hu;simp[ha];exact qaw hB (v0:= .tup [.nil,.bool false]) (by simp) (qcg 1 _ rfl) (by simp) (hQ1 (by unfold qd6;rw[hbad];rfl))
   |some p=>
    obtain⟨y,k⟩:=p;have ha:qaU (l.drop i)=(y,(k:Int),0):=by unfold qaU;rw[hu]
    have hk:=qbQ hu;rw[zqI]at hk;have hk0:((k:Int)==0)=false:=by rw[beq_eq_false_iff_ne];omega
    have hw1:IntKind.i64.wrap ((k:Int)-1)=(k:Int)-1:=wiz;have hw2:IntKind.i64.wrap ((i:Int)+((k:Int)-1))=(i:Int)+((k:Int)-1):=wiz;have hw3:IntKind.i64.wrap ((i:Int)+((k:Int)-1)+1)=((i+k:Nat):Int):=by rw[qak (by omega) (by omega)];omega
    simp[ha,hk0,hw1,hw2,hw3];exact Klz ⟨rfl,f,i+k,out,.inl ⟨by omega,by omega,by omega,qhG hc hf hb' hu⟩,friz⟩
  ·have t2:((b.toNat:Int)==34)=false:=by simp;omega
   have ne34:b≠34:=by rintro rfl;exact b34 rfl
   by_cases b44:b.toNat=44
   ·have hx44:b=44:=UInt8.toNat_inj.1 b44;have hb':l[i]? =some 44:=by rw[hb,hx44]
    have t3:((b.toNat:Int)==44)=true:=by simp;omega
    have hcm:=qhI hc hf hb';simp[h,hat,t1,t2,t3,hf,hi];refine qcm E _ _ _ pl ?_;cases ht:(qaJ ((l.drop f).take (i-f))).isEmpty
    ·have hne:(qaJ ((l.drop f).take (i-f)) !=[])=true:=by rw[qhk _ 0,ht];rfl
     rw[ht]at hst;simp[hne,hm,hw];exact Klz ⟨rfl,i+1,i+1,_,.inl ⟨by omega,by omega,by simp;omega,hcm⟩,qag (by rw[hst];simp[strs])⟩
    ·have hne:(qaJ ((l.drop f).take (i-f)) !=[])=false:=by rw[qhk _ 0,ht];rfl
     rw[ht]at hst;simp[hne,hw];exact Klz ⟨rfl,i+1,i+1,_,.inl ⟨by omega,by omega,by simp;omega,hcm⟩,qag (by rw[hst];simp[strs])⟩
   ·have t3:((b.toNat:Int)==44)=false:=by simp;omega
    have ne44:b≠44:=by rintro rfl;exact b44 rfl
    simp[h,hi,hat,t1,t2,t3,hw];exact Klz ⟨rfl,f,i+1,out,.inl ⟨by omega,by omega,by omega,qhH hc hf hb ne44 ne34⟩,friz⟩
 ·have hgt:¬((l.length:Int)+1<=l.length):=by omega
  have hq:=hQ2 (qco out) (by unfold qd6;rw[hc];rfl);simp[hgt];exact qaw hB (v0:= .tup [.sl false 1 (strs (qco out)),.bool true]) (by simp) (qaa _) (by simp[qcN]) hq
def dlInv(vs:List (List UInt8))(H:Hp)(fr:List AV)(H':Hp):Prop:=H'=H/\∃(i:Nat) (acc:List (List UInt8)),i<=vs.length/\qaY (vs.take i)=some acc/\
 ∃x:Nat->AV,fr=[x 0,x 1,x 2,x 3,x 4,x 5,.sl true 1 (strs acc),x 7,x 8,x 9,x 10,x 11,x 12,.sl false 1 (strs vs),.int .i64 vs.length,.int .i64 i,x 16,x 17,x 18,x 19,x 20,x 21,x 22,x 23,x 24,x 25,x 26,x 27,x 28,x 29,x 30]
theorem qmU(l:List Fld)(n:List UInt8)(hl:fsz l+l.length<=4194304)(hn:n.length<=cap)(hQ:Q (.tup [.sl false 1 (strs (qda l n).1),.int .i64 (qda l n).2]) H):PC Tryz.prog E 115 [.sl false 2 (flds l),.str n] H Q:=by
 have hvz:=qdJ l n
 have q1:qaY (allB l n)=none->Q (.tup [.sl false 1 [],.int .i64 14]) H:=fun h=>by
  have:qda l n=([],14):=by unfold qda;rw[h]
  rw[this]at hQ;exact hQ
 have q2:∀acc,qaY (allB l n)=some acc->Q (.tup [.sl false 1 (strs acc),.int .i64 0]) H:=fun acc h=>by
  have:qda l n=(acc,0):=by unfold qda;rw[h]
  rw[this]at hQ;exact hQ
 refine qac Tryz.func115 rfl [26] [] (by kernel_rfl) (fun hB=>?_);simp[Tryz.ntmps115,Tryz.results115,List.replicate_succ];refine qhA E _ _ l n (by omega) hn ?_
 generalize allB l n=vs at*
 have hvl:=qop vs;simp;refine qeo 6 1 (by rfl) ?_;simp only[List.set_cons_succ,List.set_cons_zero];refine qaB (dlInv vs H) (fun fr _=>vs.length-(ai (aget fr 15)).toNat) ⟨rfl,0,[],by omega,rfl,qag (by simp[strs])⟩ ?_;rintro fr H' ⟨rfl,i,acc,hi,hacc,x,rfl⟩;have hlen:=qca _ _ hacc;have hvt:=ql8 vs i;by_cases h:i<vs.length
 ·obtain⟨s,hs⟩:∃s,vs[i]? =some s:=⟨_,zqD h⟩
  have hat:=qcW hs;have hsz:=qoo hs;have hw:IntKind.i64.wrap ((i:Int)+1)=i+1:=wiz;simp[h,hat];refine qp9 E _ _ s (by omega) (fun hb=>?_) (fun y hb=>?_)
  ·simp;exact qaw hB (v0:= .tup [.nil,.int .i64 14]) (by simp) (qcg 1 _ rfl) (by simp) (q1 (qhf hs hb))
  ·have hyl:=qhh hb;have hst:=qhg hs hacc hb;have m1:acc.length+y.length<=maxLen:=by unfold maxLen;omega
   have m2:(acc.length+y.length)*16<=140737488355328:=by omega
   have hsa:strs acc++strs y=strs (acc++y):=by simp[strs]
   simp[m1,m2,hsa,hw];exact Klz ⟨rfl,i+1,acc++y,by omega,hst,friz⟩
 ·obtain rfl:i=vs.length:=by omega
  rw[zqE (Nat.le_refl _)]at hacc;simp;exact qaw hB (v0:= .tup [.sl false 1 (strs acc),.int .i64 0]) (by simp) (qaa _) (by simp[qcN]) (q2 acc hacc)
def dtInv(acc:List (List UInt8))(H:Hp)(fr:List AV)(H':Hp):Prop:=H'=H/\∃i:Nat,i<=acc.length/\(acc.take i).all tokB=true/\
 ∃x:Nat->AV,fr=[x 0,x 1,x 2,x 3,x 4,x 5,x 6,x 7,.sl true 1 (strs ((acc.take i).map low)),x 9,x 10,x 11,x 12,x 13,x 14,x 15,x 16,x 17,x 18,x 19,.sl false 1 (strs acc),.int .i64 acc.length,.int .i64 i,x 23,x 24,x 25,x 26,x 27,x 28,x 29,x 30,x 31,x 32,x 33,x 34,x 35]
theorem qiH(l:List Fld)(n:List UInt8)(hl:fsz l+l.length<=4194304)(hn:n.length<=cap)(hQ:Q (.tup [.sl false 1 (strs (qb6 l n).1),.int .i64 (qb6 l n).2]) H):PC Tryz.prog E 96 [.sl false 2 (flds l),.str n] H Q:=by
 have hvz:=qdJ l n;refine qac Tryz.func96 rfl [29] [] (by kernel_rfl) (fun hB=>?_);simp[Tryz.ntmps96,Tryz.results96,List.replicate_succ];refine qmU E _ _ l n hl hn ?_;cases hacc:qaY (allB l n)with
 |none=>
  have e1:qda l n=([],14):=by unfold qda;rw[hacc]
  have e2:qb6 l n=([],14):=by unfold qb6;rw[hacc]
  rw[e2]at hQ;rw[e1];simp;exact qaw hB (v0:= .tup [.nil,.int .i64 14]) (by simp) (qcg 1 _ rfl) (by simp) hQ
 |some acc=>
  have e1:qda l n=(acc,0):=by unfold qda;rw[hacc]
  have e2:qb6 l n=if acc.all tokB=true then(acc.map low,0)else([],10):=by unfold qb6;rw[hacc]
  have hmem:=qdC _ _ hacc;have hlen:=qca _ _ hacc;rw[e2]at hQ;rw[e1];clear e1 e2 hacc;simp;refine qeo 8 1 (by rfl) ?_;simp only[List.set_cons_succ,List.set_cons_zero];refine qaB (dtInv acc H) (fun fr _=>acc.length-(ai (aget fr 22)).toNat) ⟨rfl,0,by omega,by simp,qag (by simp[strs])⟩ ?_;rintro fr H' ⟨rfl,i,hi,hall,x,rfl⟩;by_cases h:i<acc.length
  ·obtain⟨u,hu⟩:∃u,acc[i]? =some u:=⟨_,zqD h⟩
   have hat:=qcW hu;have hw:IntKind.i64.wrap ((i:Int)+1)=i+1:=wiz;have hul:=hmem u (zqH hu);simp[h,hat];refine qge E _ _ u (by simp only[cap];omega) ?_;cases ht:tokB u with
   |false=>
    have e:acc.all tokB=false:=qcO tokB acc i u hu ht;rw[if_neg (by rw[e];simp)]at hQ;simp;exact qaw hB (v0:= .tup [.nil,.int .i64 10]) (by simp) (qcg 1 _ rfl) (by simp) hQ
   |true=>
    simp;refine qcv E _ _ u (by simp only[cap];omega) ?_;have m1:(List.take i acc).length+1<=maxLen:=by rw[zqJ];unfold maxLen;omega
    have m2:((List.take i acc).length+1)*16<=140737488355328:=by rw[zqJ];omega
    rw[zqJ,Nat.min_eq_left hi]at m1 m2
    have hst:strs ((acc.take i).map low)++[[.str (low u)]]=strs ((acc.take (i+1)).map low):=by
     rw[List.take_add_one,hu];simp[strs]
    have hmin:min i acc.length=i:=Nat.min_eq_left hi;simp[m1,m2,hmin,hw];exact Klz ⟨rfl,i+1,by omega,by rw[qbB tokB acc i u hu,hall,ht];rfl,qag (by rw[<-hst];simp)⟩
  ·obtain rfl:i=acc.length:=by omega
   rw[zqE (Nat.le_refl _)]at hall;rw[if_pos hall]at hQ;simp;exact qaw hB (v0:= .tup [.sl false 1 (strs (acc.map low)),.int .i64 0]) (by simp) (qaa _) (by simp[qcN]) hQ
end
end Go.Proofs.YtnnhdehmlkkfjaaGreatDoor
namespace Go.Proofs.YtnnhdehmlkkfjaaGreatDoor
open Go Go.RowKit
def finD(host port:List UInt8):List UInt8×Int×Int:=if port=[]then(low host,-1,0)else if(qae 10 65535 port).2≠0\/5<port.length then([],0,52)else(low host,(qae 10 65535 port).1,0)
theorem qjt (c : UInt8) (s : List UInt8) : (cut1 c s).1.length ≤ s.length ∧ (cut1 c s).2.1.length ≤ s.length := by
  obtain ⟨t1, t2⟩ := qck (· != c) s
  constructor
  · show (s.takeWhile (· != c)).length ≤ _
    rw [← t1, zqJ]; omega
  · show ((s.dropWhile (· != c)).drop 1).length ≤ _
    rw [zqI, ← t2, zqI]; omega
theorem qsw {c : UInt8} {s : List UInt8} (h : (cut1 c s).2.2 = true) : (cut1 c s).1.length + 1 ≤ s.length := by
  have h1 : s.contains c = true := h
  have h2 := qeg s c
  rw [h1] at h2
  have h3 := ((qfY s c).1 (by simpa using h2)).2
  have h4 := List.length_pos_iff.2 h3
  obtain ⟨t1, t2⟩ := qck (· != c) s
  show (s.takeWhile (· != c)).length + 1 ≤ _
  rw [← t2, zqI] at h4
  omega
theorem qu3{c:UInt8}{s:List UInt8}(h:(cut1 c s).2.2=false):(cut1 c s).2.1=[]:=by
 have h1:s.contains c=false:=h;rw[qhJ (fun x hx e=>by subst e;rw[Bool.eq_false_iff]at h1;exact h1 (by simpa using hx))]
section
open Go.Lib
variable (E:Env){H:Hp}(Q:AV->Hp->Prop)
theorem qg0(s:List UInt8)(hl:s.length<=1073741824)(hQ:∀h p e,qbo s=(h,p,e)->Q (.tup [.str h,.int .i64 p,.int .i64 e]) H):PC Tryz.prog E 66 [.str s] H Q:=by
 refine qac Tryz.func66 rfl [] [] (by kernel_rfl) (fun hB=>?_);have fin:∀h p e,qf6 s=(h,p,e)->Q (.tup [.str h,.int .i64 p,.int .i64 e]) H:=fun h p e hh=>hQ h p e (by rw[qsK,hh]);clear hQ;by_cases h91:s.head? =some 91
 ·have hd:qf6 s=(if(cut1 93 (s.drop 1)).2.2=false\/qf7 (cut1 93 (s.drop 1)).1=false\/((cut1 93 (s.drop 1)).2.1≠[]/\(cut1 93 (s.drop 1)).2.1.head? ≠some 58)then([],0,52)else finD (s.take ((cut1 93 (s.drop 1)).1.length+2)) ((cut1 93 (s.drop 1)).2.1.drop 1)):=by
   unfold qf6 finD;dsimp only;rw[if_pos h91]
  have hla:=qpB h91;have hne:(s !=[])=true:=by cases s with|nil=>cases h91|cons _ _=>rfl
  have hpos:1<=s.length:=by cases s with|nil=>cases h91|cons _ _=>simp
  obtain⟨T,hT⟩:=exz (s.drop 1);have hTl:T.length=s.length-1:=by rw[<-hT,zqI]
  have htk:T.take (s.length-1)=T:=zqE (by omega);rw[hT]at hd;simp[Tryz.ntmps66,Tryz.results66,List.replicate_succ,hne,hla,hpos,hT,htk];refine qfp E _ T 93 (by omega) ?_;have c1:=qjt 93 T;have c2:(cut1 93 T).2.2=true->(cut1 93 T).1.length+1<=T.length:=qsw;obtain⟨inner,hin⟩:=exz ((cut1 93 T).1);obtain⟨rs,hrs⟩:=exz ((cut1 93 T).2.1);obtain⟨sh,hsh⟩:=exz ((cut1 93 T).2.2);rw[hin,hrs,hsh]at hd;rw[hin,hrs]at c1;rw[hin,hsh]at c2;rw[hin,hrs,hsh];cases sh with
  |false=>
   rw[if_pos (.inl rfl)]at hd;simp;exact aQz hB (h6:=(fin _ _ _ hd))
  |true=>
   have c3:=c2 rfl;simp;refine qoX E _ inner (by omega) ?_;cases ha:qf7 inner with
   |false=>
    rw[if_pos (.inr (.inl ha))]at hd;simp;exact aQz hB (h6:=(fin _ _ _ hd))
   |true=>
    have w2:IntKind.i64.wrap ((inner.length:Int)+2)=((inner.length+2:Nat):Int):=by rw[qak (by omega) (by omega)];omega
    have q2:inner.length+2<=s.length:=by omega
    have htl:(s.take (inner.length+2)).length<=cap:=by rw[zqJ];simp only[cap];omega
    obtain⟨host,hhost⟩:=exz (s.take (inner.length+2));rw[hhost]at hd htl;cases rs with
    |nil=>
     rw[if_neg (by rw[ha];simp)]at hd;have hd2:qf6 s=(low host,-1,0):=by rw[hd];rfl
     simp[w2,q2,hhost,-Int.natCast_add];refine qdO E _ _ host htl ?_;simp;exact aQz hB (h6:=(fin _ _ _ hd2))
    |cons b port=>
     have hlb:lat (b::port) 0=some b:=rfl;have hcn:(b::port !=[])=true:=rfl;by_cases h58:b=58
     ·subst h58;rw[if_neg (by rw[ha];simp)]at hd;have hd2:qf6 s=finD host port:=hd;simp only[zqL]at c1;simp[w2,q2,hhost,hcn,hlb,-Int.natCast_add];refine qdO E _ _ host htl ?_;by_cases hp0:port=[]
      ·subst hp0;simp;exact aQz hB (h6:=(fin _ _ _ hd2))
      ·have hp0':(port==[])=false:=by simpa using hp0
       unfold finD at hd2;rw[if_neg hp0]at hd2;simp[hp0'];refine qea E _ port 65535 (by simp only[cap];omega) (by decide) (by decide) ?_;by_cases he:(qae 10 65535 port).2=0
       ·by_cases h5:5<port.length
        ·have h5':(5:Int)<port.length:=by omega
         rw[if_pos (.inr h5)]at hd2;simp[he,h5'];exact aQz hB (h6:=(fin _ _ _ hd2))
        ·have h5':¬(5:Int)<port.length:=by omega
         rw[if_neg (fun h=>h.elim (fun h=>h he) h5)]at hd2;simp[he,h5'];exact aQz hB (h6:=(fin _ _ _ hd2))
       ·have he2:((qae 10 65535 port).2 !=0)=true:=by simpa using he
        have he3:((qae 10 65535 port).2==0)=false:=by simpa using he
        rw[if_pos (.inl he)]at hd2;simp[he2,he3];exact aQz hB (h6:=(fin _ _ _ hd2))
     ·have hb1:=(qaE b 58 (by decide) 58 rfl h58).1;have hb2:=(qaE b 58 (by decide) 58 rfl h58).2;rw[if_pos (.inr (.inr ⟨by simp,by simpa using h58⟩))]at hd;simp[hlb,hcn,hb1,hb2];exact aQz hB (h6:=(fin _ _ _ hd))
 ·have hd:qf6 s=(if(cut1 58 s).1=[]\/qaK qcj (cut1 58 s).1≠(cut1 58 s).1.length then([],0,52)else finD (cut1 58 s).1 (cut1 58 s).2.1):=by
   unfold qf6 finD;dsimp only;rw[if_neg h91]
  have c1:=qjt 58 s;have c2:(cut1 58 s).2.2=false->(cut1 58 s).2.1=[]:=qu3;obtain⟨host,hin⟩:=exz ((cut1 58 s).1);obtain⟨port,hrs⟩:=exz ((cut1 58 s).2.1);obtain⟨sh,hsh⟩:=exz ((cut1 58 s).2.2);have htl:(cut1 58 s).1.length<=cap:=by simp only[cap];omega
  rw[hin]at htl;rw[hin,hrs]at hd c1;rw[hrs,hsh]at c2;rcases s with _|⟨a,r⟩
  ·simp[Tryz.ntmps66,Tryz.results66,List.replicate_succ];refine qfp E _ [] 58 (by simp) ?_;have:cut1 58 []=([],[],false):=rfl;rw[this]at hin;simp only at hin;subst hin;rw[if_pos (.inl rfl)]at hd;rw[this];simp;refine qjT E _ [] (by simp) ?_;simp;exact qaw (v:= .tup [.str [],.int .i64 0,.int .i64 52]) hB rfl (qaa _) (by simp) (fin _ _ _ hd)
  ·have hne:(a::r !=[])=true:=rfl;have hla:lat (a::r) 0=some a:=rfl;have ha1:=(qaE a 91 (by decide) 91 rfl (fun e=>h91 (by rw[e];rfl))).1;have hlp:0<(a::r).length:=by simp
   obtain⟨s,hs⟩:∃s,s=a::r:=⟨_,rfl⟩
   rw[<-hs]at hne hla hlp hd hin hrs hsh c1 hl fin⊢;simp[Tryz.ntmps66,Tryz.results66,List.replicate_succ,hne,hla,ha1,hlp];refine qfp E _ s 58 hl ?_;rw[hin,hrs,hsh];simp;refine qjT E _ host (by omega) ?_;by_cases hbad:host=[]\/qaK qcj host≠host.length
   ·rw[if_pos hbad]at hd
    have hx:(!host.isEmpty&&qaK qcj host==host.length)=false:=by
     rcases hbad with rfl|hbad
     ·rfl
     ·rw[Bool.and_eq_false_iff];exact .inr (by simpa using hbad)
    rw[hx];simp;exact aQz hB (h6:=(fin _ _ _ hd))
   ·rw[if_neg hbad]at hd
    have hx:(!host.isEmpty&&qaK qcj host==host.length)=true:=by
     simp only[not_or,Decidable.not_not]at hbad;rw[hbad.2];simpa using hbad.1
    rw[hx];simp;refine qdO E _ _ host htl ?_;cases sh with
    |false=>
     have:=c2 rfl;subst this;have hd2:qf6 s=(low host,-1,0):=by rw[hd];rfl
     simp;exact aQz hB (h6:=(fin _ _ _ hd2))
    |true=>
     by_cases hp0:port=[]
     ·subst hp0;have hd2:qf6 s=(low host,-1,0):=by rw[hd];rfl
      simp;exact aQz hB (h6:=(fin _ _ _ hd2))
     ·have hp0':(port==[])=false:=by simpa using hp0
      unfold finD at hd;rw[if_neg hp0]at hd;simp[hp0'];refine qea E _ port 65535 (by simp only[cap];omega) (by decide) (by decide) ?_;by_cases he:(qae 10 65535 port).2=0
      ·by_cases h5:5<port.length
       ·have h5':(5:Int)<port.length:=by omega
        rw[if_pos (.inr h5)]at hd;simp[he,h5'];exact aQz hB (h6:=(fin _ _ _ hd))
       ·have h5':¬(5:Int)<port.length:=by omega
        rw[if_neg (fun h=>h.elim (fun h=>h he) h5)]at hd;simp[he,h5'];exact aQz hB (h6:=(fin _ _ _ hd))
      ·have he2:((qae 10 65535 port).2 !=0)=true:=by simpa using he
       have he3:((qae 10 65535 port).2==0)=false:=by simpa using he
       rw[if_pos (.inl he)]at hd;simp[he2,he3];exact aQz hB (h6:=(fin _ _ _ hd))
theorem qpb(c:UInt8):(((qbK c||qb1 c)||([58,64]:List UInt8).contains c)||([47]:List UInt8).contains c)=qcZ c:=by
 have:∀n,n<256->(((qbK (UInt8.ofNat n)||qb1 (UInt8.ofNat n))||([58,64]:List UInt8).contains (UInt8.ofNat n))||([47]:List UInt8).contains (UInt8.ofNat n))=qcZ (UInt8.ofNat n):=by decide
 have:=this c.toNat c.toNat_lt;rwa[qce]at this
theorem qo2(c:UInt8):(((qbK c||qb1 c)||([58,64]:List UInt8).contains c)||([47,63]:List UInt8).contains c)=qdQ c:=by
 have:∀n,n<256->(((qbK (UInt8.ofNat n)||qb1 (UInt8.ofNat n))||([58,64]:List UInt8).contains (UInt8.ofNat n))||([47,63]:List UInt8).contains (UInt8.ofNat n))=qdQ (UInt8.ofNat n):=by decide
 have:=this c.toNat c.toNat_lt;rwa[qce]at this
theorem qu4(s:List UInt8):behE s=if qc5 qcZ 53 (cut1 63 s).1≠0 then qc5 qcZ 53 (cut1 63 s).1 else qc5 qdQ 54 (cut1 63 s).2.1:=behD s
theorem qfo(fm pt:Int)(h pa qu:List UInt8)(hq:Bool)(s:List UInt8)(at_:Nat)(hat:at_<=s.length)(hl:s.length<=1073741824)
  (hQ:∀fm pt h pa qu hq v,Q (.tup [tgV fm pt h pa qu hq,.int .i64 v,.int .i64 (behE (s.drop at_))]) H):PC Tryz.prog E 67 [.str s,.int .i64 (at_:Int),tgV fm pt h pa qu hq] H Q:=by
 refine qac Tryz.func67 rfl [] [] (by kernel_rfl) (fun hB=>?_);obtain⟨u,hu⟩:=exz (s.drop at_);have hul:u.length=s.length-at_:=by rw[<-hu,zqI]
 have htk:u.take (s.length-at_)=u:=zqE (by omega);rw[hu,qu4]at hQ;simp[Tryz.ntmps67,Tryz.results67,List.replicate_succ,tgV,hat,hu,htk];refine qfp E _ u 63 (by omega) ?_;obtain⟨c1,c2⟩:=qjt 63 u
 generalize (cut1 63 u).1=p at*
 generalize (cut1 63 u).2.1=q at*
 generalize (cut1 63 u).2.2=t at*
 have hQ':∀e,(if qc5 qcZ 53 p≠0 then qc5 qcZ 53 p else qc5 qdQ 54 q)=e->∀fm pt h pa qu hq v,Q (.tup [.agg [.int .i64 fm,.str h,.int .i64 pt,.str pa,.str qu,.bool hq],.int .i64 v,.int .i64 e]) H:=fun e he fm pt h pa qu hq v=>he▸hQ fm pt h pa qu hq v;clear hQ;simp;refine qjR E _ p [47] 53 qcZ qpb (by decide) (by omega) (by simp) (fun v hv1 hv2=>?_);have w1:IntKind.i64.wrap ((at_:Int)+v)=at_+v:=wiz;by_cases he:qc5 qcZ 53 p=0
 ·rw[if_neg (by simpa using he)]at hQ';simp[he];refine qjR E _ q [47,63] 54 qdQ qo2 (by decide) (by omega) (by simp) (fun v hv1 hv2=>?_);have w2:IntKind.i64.wrap ((at_:Int)+(p.length:Int))=at_+(p.length:Int):=wiz;have w3:IntKind.i64.wrap ((at_:Int)+(p.length:Int)+1)=at_+(p.length:Int)+1:=wiz;have w4:IntKind.i64.wrap ((at_:Int)+(p.length:Int)+1+v)=at_+(p.length:Int)+1+v:=wiz;by_cases he2:qc5 qdQ 54 q=0
  ·by_cases hp0:p=[]
   ·subst hp0;simp[he2];exact aQy hB (h6:=(hQ' _ he2 fm pt h [47] q t 0))
   ·have hp0':(p==[])=false:=by simpa using hp0
    simp[he2,hp0'];exact aQy hB (h6:=(hQ' _ he2 fm pt h p q t 0))
  ·have h1:(qc5 qdQ 54 q !=0)=true:=by simpa using he2
   have h2:(qc5 qdQ 54 q==0)=false:=by simpa using he2
   simp[h1,h2,w2,w3,w4];exact aQy hB (h6:=(hQ' _ rfl 0 0 [] [] [] false (at_+(p.length:Int)+1+v)))
 ·rw[if_pos he]at hQ';have h1:(qc5 qcZ 53 p !=0)=true:=by simpa using he
  have h2:(qc5 qcZ 53 p==0)=false:=by simpa using he
  simp[h1,h2,w1];exact aQy hB (h6:=(hQ' _ rfl 0 0 [] [] [] false (at_+v)))
end
end Go.Proofs.YtnnhdehmlkkfjaaGreatDoor
