/- Part 11 of the texts below the law. -/
import Derived.Test.YtnnhdehmlkkfjaaGreatDoorPe10
set_option maxRecDepth 100000
set_option maxHeartbeats 16000000
set_option linter.unusedVariables false
set_option linter.unusedSimpArgs false
set_option linter.unusedSectionVars false
namespace Go.Proofs.YtnnhdehmlkkfjaaGreatDoor
open Go Go.RowKit
def nsl(c:UInt8):Bool:=c !=47&&c !=63
theorem qk5(p:UInt8->Bool)(l:List UInt8)(k:Nat)(hk:k<=l.length)(ha:(l.take k).all p=true)(hs:∀c,l[k]? =some c->p c=false):l.takeWhile p=l.take k/\l.dropWhile p=l.drop k:=by
 have hl:l=l.take k++l.drop k:=(List.take_append_drop k l).symm;have h1:∀x∈l.take k,p x=true:=fun x hx=>List.all_eq_true.1 ha x hx
 have h2:(l.drop k).takeWhile p=[]/\(l.drop k).dropWhile p=l.drop k:=by
  cases hd:l.drop k with
  |nil=>exact⟨rfl,rfl⟩
  |cons c r=>
   have hc:l[k]? =some c:=by
    have:=congrArg (fun z=>z[0]?) hd;simpa using this
   have:=hs c hc;exact⟨List.takeWhile_cons_of_neg (by rw[this];simp),List.dropWhile_cons_of_neg (by rw[this];simp)⟩
 constructor
 ·conv=>lhs;rw[hl]
  rw[List.takeWhile_append_of_pos h1,h2.1,List.append_nil]
 ·conv=>lhs;rw[hl]
  rw[List.dropWhile_append_of_pos h1,h2.2]
section
open Go.Lib
variable (E:Env){H:Hp}(Q:AV->Hp->Prop)
def rfpI(m s:List UInt8)(H:Hp)(fr:List AV)(K:Hp):Prop:=K=H++[[.int .i64 0,.str [],.int .i64 0,.str [],.str [],.bool false]]/\∃i:Nat,7<=i/\i<=s.length/\((s.drop 7).take (i-7)).all nsl=true/\
 ∃x:Nat->AV,fr=[.str m,.str s,x 2,x 3,.ptr (some (H.length,0)),.int .i64 0,.int .i64 0,x 7,x 8,x 9,.int .i64 (i:Int),x 11,x 12,x 13,x 14,x 15,x 16,x 17,x 18,x 19,x 20,x 21,x 22,x 23,x 24,x 25,x 26,x 27,x 28,x 29,x 30,x 31,x 32,x 33,x 34,x 35,x 36,x 37,x 38,x 39,x 40,x 41,x 42,x 43,x 44,x 45,x 46,x 47,x 48,x 49,x 50,x 51,x 52,x 53,x 54,x 55,x 56,x 57,x 58,x 59,x 60,x 61,x 62,x 63,x 64,x 65,x 66,x 67,x 68,x 69,x 70,x 71,x 72,x 73,x 74,x 75,x 76,x 77,x 78,x 79,x 80,x 81,x 82,x 83,x 84,x 85,x 86,x 87,x 88,x 89,x 90,x 91,x 92,x 93,x 94,x 95,x 96,x 97,x 98]
theorem qnq(m s:List UInt8)(hl:s.length<=4194304)(hQ:∀fm pt h pa qu hq v,Q (.tup [tgV fm pt h pa qu hq,.int .i64 v,.int .i64 (tgtE m s)]) H):PC Tryz.prog E 50 [.str m,.str s] H Q:=by
 refine qac Tryz.func50 rfl [] [] (by kernel_rfl) (fun hB=>?_);have hQ':∀e,tgtE m s=e->∀fm pt h pa qu hq v,Q (.tup [.agg [.int .i64 fm,.str h,.int .i64 pt,.str pa,.str qu,.bool hq],.int .i64 v,.int .i64 e]) H:=fun e he fm pt h pa qu hq v=>he▸hQ fm pt h pa qu hq v;clear hQ;cases s with
 |nil=>
  simp[Tryz.ntmps50,Tryz.results50,List.replicate_succ];exact aQy hB (h6:=(hQ' 50 rfl 0 0 [] [] [] false 0))
 |cons c r=>
  obtain⟨s,hs⟩:∃s,s=c::r:=⟨_,rfl⟩
  have hT:tgtE m s=if m=[67,79,78,78,69,67,84]then(if(qbo s).2.2≠0\/(qbo s).2.1<0 then 52 else 0)
    else if c=47 then behE s
    else if s=[42]/\m=[79,80,84,73,79,78,83]then 0
    else if s.length<7\/low (s.take 7)≠[104,116,116,112,58,47,47]then 50
    else if(qbo ((s.drop 7).takeWhile nsl)).2.2≠0 then(qbo ((s.drop 7).takeWhile nsl)).2.2
    else behE ((s.drop 7).dropWhile nsl):=by rw[hs];rfl
  have hne:(s==[])=false:=by rw[hs];rfl
  have hla:lat s 0=some c:=by rw[hs];rfl
  have hlp:0<s.length:=by rw[hs];simp
  rw[<-hs]at hl hQ'⊢;by_cases hm:m=[67,79,78,78,69,67,84]
  ·rw[if_pos hm]at hT;simp[Tryz.ntmps50,Tryz.results50,List.replicate_succ,hne,hm];refine qg0 E _ s (by omega) (fun h p e hA=>?_);rw[hA]at hT;simp only at hT;by_cases he:e=0
   ·subst he;by_cases hp:p<0
    ·rw[if_pos (.inr hp)]at hT;simp[hp];exact aQy hB (h6:=(hQ' 52 hT 0 0 [] [] [] false 0))
    ·rw[if_neg (by simp;omega)]at hT;simp[hp];exact aQy hB (h6:=(hQ' 0 hT 3 p h [] [] false 0))
   ·have he':(e==0)=false:=by simpa using he
    have he2:(e !=0)=true:=by simpa using he
    rw[if_pos (.inl he)]at hT;simp[he',he2];exact aQy hB (h6:=(hQ' 52 hT 0 0 [] [] [] false 0))
  ·have hm':(m==[67,79,78,78,69,67,84])=false:=by simpa using hm
   rw[if_neg hm]at hT;by_cases h47:c=47
   ·subst h47;rw[if_pos rfl]at hT;simp[Tryz.ntmps50,Tryz.results50,List.replicate_succ,hne,hm',hla,hlp];refine qfo E _ 1 (-1) [] [] [] false s 0 (by omega) (by omega) (fun fm pt h pa qu hq v=>?_);rw[List.drop_zero];simp[tgV];exact aQy hB (h6:=(hQ' _ hT fm pt h pa qu hq v))
   ·have b47:=(qaE c 47 (by decide) 47 rfl h47).1;rw[if_neg h47]at hT;by_cases hast:s=[42]/\m=[79,80,84,73,79,78,83]
    ·obtain⟨ha1,ha2⟩:=hast;rw[if_pos ⟨ha1,ha2⟩]at hT;have ha1':(s==[42])=true:=by simpa using ha1
     have ha2':(m==[79,80,84,73,79,78,83])=true:=by simpa using ha2
     simp[Tryz.ntmps50,Tryz.results50,List.replicate_succ,hne,hm',hla,hlp,b47,ha1',ha2'];exact aQy hB (h6:=(hQ' _ hT 4 (-1) [] [] [] false 0))
    ·rw[if_neg hast]at hT
     have hpath:(s==[42])=false\/((s==[42])=true/\(m==[79,80,84,73,79,78,83])=false):=by
      by_cases h1:s=[42]
      ·exact .inr ⟨by simpa using h1,by simpa using fun h=>hast ⟨h1,h⟩⟩
      ·exact .inl (by simpa using h1)
     by_cases h7:s.length<7
     ·rw[if_pos (.inl h7)]at hT;have h7':(s.length:Int)<7:=by omega
      rcases hpath with hp|⟨hp,hp2⟩
      ·simp[Tryz.ntmps50,Tryz.results50,List.replicate_succ,hne,hm',hla,hlp,b47,hp,h7'];exact aQy hB (h6:=(hQ' _ hT 0 0 [] [] [] false 0))
      ·simp[Tryz.ntmps50,Tryz.results50,List.replicate_succ,hne,hm',hla,hlp,b47,hp,hp2,h7'];exact aQy hB (h6:=(hQ' _ hT 0 0 [] [] [] false 0))
     ·have h7':¬(s.length:Int)<7:=by omega
      have h7'':7<=s.length:=by omega
      have hp:(s==[42])=false:=by
       rcases hpath with hp|⟨hp,_⟩
       ·exact hp
       ·have:s=[42]:=by simpa using hp
        rw[this]at h7;simp at h7
      simp[Tryz.ntmps50,Tryz.results50,List.replicate_succ,hne,hm',hla,hlp,b47,hp,h7',h7''];refine qdO E _ _ (s.take 7) (by rw[zqJ];simp only[cap];omega) ?_;by_cases hsch:low (s.take 7)=[104,116,116,112,58,47,47]
      ·rw[if_neg (fun h=>h.elim h7 (fun h=>h hsch))]at hT;obtain⟨R,hR⟩:=exz (s.drop 7);have hRl:R.length=s.length-7:=by rw[<-hR,zqI]
       rw[hR]at hT;simp[hsch];refine qaB (rfpI m s H) (fun fr _=>s.length-(ai (aget fr 10)).toNat) ⟨rfl,7,by omega,h7'',by simp,friz⟩ ?_;rintro fr K ⟨rfl,i,hi7,hi,hall,x,rfl⟩;rw[hR]at hall;have w1:IntKind.i64.wrap ((i:Int)+1)=i+1:=wiz;have hRi:∀b,s[i]? =some b->R[i-7]? =some b:=fun b hb=>by rw[<-hR,zqN,show 7+(i-7)=i by omega];exact hb
       have hdi:s.drop i=R.drop (i-7):=by rw[<-hR,List.drop_drop,show 7+(i-7)=i by omega]
       have hi7':(7:Int)<=i:=by omega
       by_cases hlt:i<s.length
       ·obtain⟨b,hb⟩:∃b,s[i]? =some b:=⟨_,zqD hlt⟩
        have la:=qas hb;have hRb:=hRi b hb;by_cases q47:b=47
        ·subst q47;obtain⟨e1,e2⟩:=qk5 nsl R (i-7) (by omega) hall (fun c hc=>by rw[hRb]at hc;obtain rfl:=Option.some.inj hc;rfl);simp[hlt,la,hi7,hi7',hi,hR];have hrl:(R.take (i-7)).length<=1073741824:=by rw[zqJ];omega
         refine qg0 E _ (R.take (i-7)) hrl (fun h p e hA=>?_);rw[e1,e2,hA]at hT;simp only at hT;by_cases he:e=0
         ·subst he;rw[if_neg (by simp)]at hT;simp;refine qfo E _ 2 p h [] [] false s i hi (by omega) (fun fm pt h pa qu hq v=>?_);rw[hdi];simp[tgV];exact aQy hB (h6:=(hQ' _ hT fm pt h pa qu hq v))
         ·have h52:e=52:=by have:=qhP (R.take (i-7));rw[hA]at this;exact this.resolve_left he
          subst h52;rw[if_pos he]at hT;simp;exact aQy hB (h6:=(hQ' _ hT 0 0 [] [] [] false 7))
        ·have b1:=(qaE b 47 (by decide) 47 rfl q47).1;have b2:=(qaE b 47 (by decide) 47 rfl q47).2;by_cases q63:b=63
         ·subst q63;obtain⟨e1,e2⟩:=qk5 nsl R (i-7) (by omega) hall (fun c hc=>by rw[hRb]at hc;obtain rfl:=Option.some.inj hc;rfl);simp[hlt,la,hi7,hi7',hi,hR];have hrl:(R.take (i-7)).length<=1073741824:=by rw[zqJ];omega
          refine qg0 E _ (R.take (i-7)) hrl (fun h p e hA=>?_);rw[e1,e2,hA]at hT;simp only at hT;by_cases he:e=0
          ·subst he;rw[if_neg (by simp)]at hT;simp;refine qfo E _ 2 p h [] [] false s i hi (by omega) (fun fm pt h pa qu hq v=>?_);rw[hdi];simp[tgV];exact aQy hB (h6:=(hQ' _ hT fm pt h pa qu hq v))
          ·have h52:e=52:=by have:=qhP (R.take (i-7));rw[hA]at this;exact this.resolve_left he
           subst h52;rw[if_pos he]at hT;simp;exact aQy hB (h6:=(hQ' _ hT 0 0 [] [] [] false 7))
         ·have b3:=(qaE b 63 (by decide) 63 rfl q63).1;have b4:=(qaE b 63 (by decide) 63 rfl q63).2;simp[hlt,la,b1,b2,b3,b4,w1];refine Klz ⟨rfl,i+1,by omega,by omega,?_,friz⟩;rw[hR,show i+1-7=(i-7)+1 by omega,List.take_add_one,hRb,List.all_append,hall];simp[nsl,q47,q63]
       ·obtain⟨e1,e2⟩:=qk5 nsl R (i-7) (by omega) hall (fun c hc=>by have:=(zqC.1 hc).1;omega);simp[hlt,hi7,hi7',hi,hR];have hrl:(R.take (i-7)).length<=1073741824:=by rw[zqJ];omega
        refine qg0 E _ (R.take (i-7)) hrl (fun h p e hA=>?_);rw[e1,e2,hA]at hT;simp only at hT;by_cases he:e=0
        ·subst he;rw[if_neg (by simp)]at hT;simp;refine qfo E _ 2 p h [] [] false s i hi (by omega) (fun fm pt h pa qu hq v=>?_);rw[hdi];simp[tgV];exact aQy hB (h6:=(hQ' _ hT fm pt h pa qu hq v))
        ·have h52:e=52:=by have:=qhP (R.take (i-7));rw[hA]at this;exact this.resolve_left he
         subst h52;rw[if_pos he]at hT;simp;exact aQy hB (h6:=(hQ' _ hT 0 0 [] [] [] false 7))
      ·have hsch':(low (s.take 7)==[104,116,116,112,58,47,47])=false:=by simpa using hsch
       have hsch2:(low (s.take 7) !=[104,116,116,112,58,47,47])=true:=by simpa using hsch
       rw[if_pos (.inr hsch)]at hT;simp[hsch',hsch2];exact aQy hB (h6:=(hQ' _ hT 0 0 [] [] [] false 0))
def rfhI(l:List Fld)(old:Bool)(v:List UInt8)(H:Hp)(fr:List AV)(K:Hp):Prop:=K=H/\∃i:Nat,i<=v.length/\(v.take i).any (fun b=>decide (b.toNat<33)||decide (126<b.toNat)||[34,35,47,60,62,63,64,92].contains b)=false/\
 ∃x:Nat->AV,fr=[.sl false 2 (flds l),.bool old,x 2,x 3,.str [],.bool false,.int .i64 0,.sl false 1 (strs [v]),.int .i64 (i:Int),x 9,x 10,x 11,x 12,x 13,x 14,x 15,x 16,x 17,x 18,x 19,x 20,x 21,x 22,x 23,x 24,x 25,x 26,x 27,x 28,x 29,x 30,x 31,x 32,x 33,x 34,x 35,x 36,x 37,x 38,x 39,x 40,x 41,x 42,x 43,x 44,x 45]
theorem qoW(l:List Fld)(old:Bool)(hl:fsz l+l.length<=4194304)(hQ:∀h ok e,qd7 l old=(h,ok,e)->Q (.tup [.str h,.bool ok,.int .i64 e]) H):PC Tryz.prog E 94 [.sl false 2 (flds l),.bool old] H Q:=by
 refine qac Tryz.func94 rfl [] [] (by kernel_rfl) (fun hB=>?_);simp[Tryz.ntmps94,Tryz.results94,List.replicate_succ];refine qhA E _ _ l [72,111,115,116] (by omega) (by decide) ?_;unfold qd7 at hQ;have hsz:=qfK l [72,111,115,116];rcases hal:allB l [72,111,115,116]with _|⟨v,_|⟨w,t⟩⟩
 ·rw[hal]at hQ;cases old
  ·simp[strs];exact aQz hB (h6:=(hQ _ _ _ rfl))
  ·simp[strs];exact aQz hB (h6:=(hQ _ _ _ rfl))
 ·rw[hal]at hQ hsz;dsimp only at hQ;have hvl:=hsz v (.head _);have hat:lat (strs [v]) 0=some [AV.str v]:=rfl;simp[hat];refine qaB (rfhI l old v H) (fun fr _=>v.length-(ai (aget fr 8)).toNat) ⟨rfl,0,by omega,by simp,qag (by simp[strs])⟩ ?_;rintro fr K ⟨rfl,i,hi,hA,x,rfl⟩;by_cases h:i<v.length
  ·obtain⟨b,hb⟩:∃b,v[i]? =some b:=⟨_,zqD h⟩
   have la:=qas hb;have w1:IntKind.i64.wrap ((i:Int)+1)=i+1:=wiz
   have hst:(v.take (i+1)).any (fun b=>decide (b.toNat<33)||decide (126<b.toNat)||[34,35,47,60,62,63,64,92].contains b)=((v.take i).any (fun b=>decide (b.toNat<33)||decide (126<b.toNat)||[34,35,47,60,62,63,64,92].contains b)||(decide (b.toNat<33)||decide (126<b.toNat)||[34,35,47,60,62,63,64,92].contains b)):=by
    rw[List.take_add_one,hb,List.any_append];simp
   have hsp:(decide (b.toNat<33)||decide (126<b.toNat)||[34,35,47,60,62,63,64,92].contains b)=true->v.any (fun b=>decide (b.toNat<33)||decide (126<b.toNat)||[34,35,47,60,62,63,64,92].contains b)=true:=fun hh=>List.any_eq_true.2 ⟨b,zqH hb,hh⟩;have i1:=qeg [34,35,47,60,62,63,64,92] b;by_cases h33:b.toNat<33
   ·have g1:(b.toNat:Int)<33:=by omega
    rw[hsp (by simp[h33])]at hQ;simp[h,hat,la,g1];exact aQz hB (h6:=(hQ _ _ _ rfl))
   ·have g1:¬(b.toNat:Int)<33:=by omega
    by_cases h126:126<b.toNat
    ·have g2:(126:Int)<b.toNat:=by omega
     rw[hsp (by simp[h126])]at hQ;simp[h,hat,la,g1,g2];exact aQz hB (h6:=(hQ _ _ _ rfl))
    ·have g2:¬(126:Int)<b.toNat:=by omega
     simp[h,hat,la,g1,g2];refine qhs E _ _ [34,35,47,60,62,63,64,92] b (by decide) ?_;cases hc:([34,35,47,60,62,63,64,92]:List UInt8).contains b with
     |true=>
      rw[hc]at i1;have j1:0<=Lib.indexByte [34,35,47,60,62,63,64,92] b:=by simpa using i1
      rw[hsp (by rw[hc];simp)]at hQ;simp[j1];exact aQz hB (h6:=(hQ _ _ _ rfl))
     |false=>
      rw[hc]at i1;have j1:¬0<=Lib.indexByte [34,35,47,60,62,63,64,92] b:=by simpa using i1
      simp[j1,w1];exact Klz ⟨rfl,i+1,by omega,by rw[hst,hA,hc];simp[h33,h126],qag (by simp[strs])⟩
  ·obtain rfl:i=v.length:=by omega
   rw[List.take_length]at hA;rw[hA]at hQ;simp[hat];exact aQz hB (h6:=(hQ _ _ _ rfl))
 ·rw[hal]at hQ;have g:(1:Int)<(t.length:Int)+1+1:=by omega
  have g0:((t.length:Int)+1+1==0)=false:=by rw[beq_eq_false_iff_ne];omega
  simp[strs,g,g0];exact aQz hB (h6:=(hQ _ _ _ rfl))
end
def SR.us(u:Int):SR->Prop
 | .go p1 _=>p1.used=u
 | .bad p1 _ _ _=>p1.used=u
theorem qpy(p:Prs):(qa7 p).us p.used:=by
 unfold qa7 qdY qaA;dsimp only
 repeat' split
 all_goals rfl
theorem qoJ(p:Prs)(m:Md)(c:UInt8):(qba p m c).us p.used:=by
 cases m
 ·show(qdq p c).us p.used;unfold qdq qbW qaA
  repeat' split
  all_goals rfl
 ·show(qbL p c).us p.used;unfold qbL qaA
  repeat' split
  all_goals rfl
 ·show(qbW p c).us p.used;unfold qbW qaA
  repeat' split
  all_goals rfl
 ·show(qb7 p c).us p.used;unfold qb7 qaA
  repeat' split
  all_goals rfl
 ·show(qct p c).us p.used;unfold qct qaA;dsimp only
  repeat' split
  all_goals rfl
 ·show(qbg p c).us p.used;unfold qbg qaA;dsimp only
  repeat' split
  all_goals first
   |rfl
   |exact qpy _
 ·show(qcL p c).us p.used;unfold qcL qdY;dsimp only;split<;>rfl
 ·show(qbA p c).us p.used;unfold qbA qdY qaA;split
  ·rfl
  ·dsimp only
   repeat' split
   all_goals rfl
theorem quC{p p1:Prs}{m:Md}{c:UInt8}{st err at_:Int}(hs:qba p m c= .bad p1 st err at_):p1.used=p.used:=by
 have:=qoJ p m c;rw[hs]at this;exact this
theorem qtK{p p1:Prs}{m:Md}{c:UInt8}{nx:Option Md}(hs:qba p m c= .go p1 nx):p1.used=p.used:=by
 have:=qoJ p m c;rw[hs]at this;exact this
def SR.fit(n:Nat):SR->Prop
 | .go p1 nx=>fitP (n+1) {p1 with nx:=nx,used:=p1.used+1}
 | .bad ..=>True
theorem fitP.up{n:Nat}{p:Prs}(h:fitP n p)(nx:Option Md)(hnx:nx≠some .target)(hnl:nx≠some .line):fitP (n+1) {p with nx:=nx,used:=p.used+1}:=
 ⟨by have:=h.a;simp only;omega,by have:=h.b;simp only;omega,fun d hd=>⟨(h.c d hd).1,by have:=(h.c d hd).2;omega⟩,h.lt,h.lh,h.lf,h.lb,by have:=h.head;simp only;omega,by have:=h.left;simp only;omega,by have:=h.used;simp only;omega,by have:=h.beg;simp only;omega,h.asc,fun e=>absurd e hnx,fun e=>absurd e hnl,by have:=h.tr;simp only;omega,by have:=h.rb;simp only;omega⟩
theorem qpo{t:List UInt8}{c:UInt8}(h:∀k x,t[k]? =some x->qaM k x=true)(hc:qaM t.length c=true)(k:Nat)(x:UInt8)(hx:(t++[c])[k]? =some x):qaM k x=true:=by
 rcases(by omega:k<t.length\/k=t.length\/t.length<k)with hk|rfl|hk
 ·rw[zqA hk]at hx;exact h k x hx
 ·simp at hx;subst hx;exact hc
 ·rw[zqB (by omega),List.getElem?_eq_none (by simp;omega)]at hx;cases hx
theorem qis{n:Nat}{p:Prs}(h:fitP n p)(c:UInt8):(qbW p c).fit n:=by
 have ha:=h.a;unfold qbW qaA;split
 ·split
  ·trivial
  ·exact{h.up none (by decide) (by decide)with tx:=(fun e=>by cases e),ln:=(fun e=>by cases e),a:=by simp only[zqK,zqL,List.length_nil];omega}
 ·split
  ·exact{h.up none (by decide) (by decide)with tx:=(fun _ x hx=>by simp at hx),ln:=(fun e=>by cases e),a:=by simp only[List.length_nil];omega}
  ·trivial
theorem qhn(l:List Fld)(f:Fld):fsz (l++[f])=fsz l+(f.name.length+f.value.length):=by
 induction l with
 |nil=>simp[fsz]
 |cons a l ih=>simp only[List.cons_append,fsz,ih];omega
theorem qmx{l:List UInt8}(h:(qaR l).2.2=0):(qaR l).1.name.length+(qaR l).1.value.length+1<=l.length:=by
 unfold qaR at h⊢;split at h
 ·cases h
 ·split at h
  ·cases h
  ·split at h
   ·cases h
   ·split at h
    ·cases h
    ·split at h
     ·cases h
     ·split at h
      ·cases h
      ·rename_i h1 h2 h3 h4 h5 h6;rw[if_neg h1,if_neg h2,if_neg h3,if_neg h4,if_neg h5,if_neg h6];have:=qk6 (l.drop (run ncol l+1));simp only[zqJ,zqI]at this⊢;omega
theorem quv(l:List UInt8)(hl:l.length<=8388608):0<=(qaR l).2.1/\(qaR l).2.1<=16777216:=by
 have h1:=qbp ncol l;have h2:=qbp fcB (l.drop (run ncol l+1));have h3:=qbp qaf (l.drop (run ncol l+1));rw[zqI]at h2 h3;unfold qaR
 repeat' split
 all_goals (simp only;omega)
theorem qnH{n:Nat}{p:Prs}(h:fitP (n+1) p)(hu:p.used<=n):(qa7 p).fit n:=by
 unfold qa7 qdY qaA;dsimp only;have h':∀nx,nx≠some .target->nx≠some .line->fitP (n+1) {p with nx:=nx,used:=p.used+1}:=fun nx hnx hnl=>{h with used:=(by have:=h.used;simp only;omega),tx:=(fun e=>absurd e hnx),ln:=fun e=>absurd e hnl}
 repeat' split
 all_goals first
  |trivial
  |skip
 ·exact{h' none (by decide) (by decide)with tx:=(fun e=>by cases e),ln:=(fun e=>by cases e),c:=fun d hd=>by cases hd;exact⟨qun _ _ _ (by have:=h.lb;omega) (by have:=h.lh;omega) (by have:=h.lf;omega),Nat.zero_le _⟩}
 ·exact{h' none (by decide) (by decide)with tx:=(fun e=>by cases e),ln:=(fun e=>by cases e),left:=by have:=h.lb;simp only;omega}
 ·exact{h' none (by decide) (by decide)with rb:=h.b,tx:=(fun e=>by cases e),ln:=fun e=>by cases e}
theorem qrt{n:Nat}{p:Prs}(h:fitP n p)(m:Md)(hm:p.nx=some m)(c:UInt8):(qba p m c).fit n:=by
 have ha:=h.a;have hu:=h.used;cases m
 ·show(qdq p c).fit n;unfold qdq;split
  ·exact h.up _ (by decide) (by decide)
  ·exact qis (p:={p with state:=1}) {h with} c
 ·show(qbL p c).fit n;unfold qbL qaA;split
  ·trivial
  ·exact h.up _ (by decide) (by decide)
 ·exact qis h c
 ·show(qb7 p c).fit n;unfold qb7 qaA;split
  ·split
   ·trivial
   ·exact{h.up none (by decide) (by decide)with ln:=(fun e=>by cases e),tx:=(fun _ x hx=>by simp only[List.mem_append,List.mem_singleton]at hx;exact hx.elim (fun hx=>h.tx hm x hx) (fun hx=>by subst hx;omega)),a:=by simp only[zqK,zqL,List.length_nil];omega}
  ·split
   ·exact{h.up none (by decide) (by decide)with tx:=(fun e=>by cases e),ln:=(fun _ k x hx=>by simp at hx),asc:=h.tx hm,a:=by simp only[List.length_nil];omega}
   ·trivial
 ·show(qct p c).fit n;unfold qct qaA;split
  ·trivial
  ·rename_i hgood;split
   ·exact{h.up none (by decide) (by decide)with tx:=(fun e=>by cases e),ln:=(fun _ k x hx=>qpo (h.ln hm) (by simpa using hgood) k x hx),a:=by simp only[zqK,zqL,List.length_nil];omega}
   ·dsimp only;split
    ·trivial
    ·split
     ·trivial
     ·exact{h.up none (by decide) (by decide)with tx:=(fun e=>by cases e),ln:=(fun e=>by cases e),a:=by simp only[List.length_nil];omega,beg:=by simp only;omega}
 ·show(qbg p c).fit n;have hh:=h.head;unfold qbg qaA;split
  ·trivial
  ·split
   ·trivial
   ·split
    ·exact{h.up none (by decide) (by decide)with tx:=(fun e=>by cases e),ln:=(fun e=>by cases e),a:=by simp only[zqK,zqL,List.length_nil];omega,head:=by simp only;omega}
    ·rename_i g1 g2 g3;dsimp only;split
     ·exact qnH {h with tr:=(by have:=h.tr;simp only;omega),rb:=(by have:=h.rb;simp only;omega),tx:=(fun _ x hx=>by simp at hx),ln:=(fun _ k x hx=>by simp at hx),a:=by simp only[List.length_nil];omega,b:=by have:=h.b;simp only;omega,c:=fun d hd=>⟨(h.c d hd).1,by have:=(h.c d hd).2;omega⟩,head:=by simp only;omega,left:=by have:=h.left;simp only;omega,used:=by simp only;omega,beg:=by have:=h.beg;simp only;omega} hu.2
     ·split
      ·trivial
      ·split
       ·trivial
       ·rename_i g4 g5 g6;have h0:(qaR p.text.dropLast).2.2=0:=by simpa using g6
        have h1:=qmx h0;rw[List.length_dropLast]at h1;exact{h.up none (by decide) (by decide)with tx:=(fun e=>by cases e),ln:=(fun e=>by cases e),a:=by simp only[qhn,zqK,zqL,List.length_nil];omega,head:=by simp only;omega,beg:=by simp only;omega}
 ·show(qcL p c).fit n;have hb:=h.b;have hl:=h.left;unfold qcL qdY;dsimp only;split
  ·exact{h.up none (by decide) (by decide)with tx:=(fun e=>by cases e),ln:=(fun e=>by cases e),b:=by simp only[zqK,zqL,List.length_nil];omega,left:=by simp only;omega}
  ·exact{h.up none (by decide) (by decide)with tx:=(fun e=>by cases e),ln:=(fun e=>by cases e),rb:=(by simp only[zqK,zqL,List.length_nil];omega),b:=by simp only[zqK,zqL,List.length_nil];omega,left:=by simp only;omega}
 ·show(qbA p c).fit n;unfold qbA qdY qaA;split
  ·trivial
  ·rename_i d hd;obtain⟨k1,k2⟩:=h.c d hd;obtain⟨f1,f2⟩:=qjl [c] d k1;have f3:(qat d [c]).2<=1:=by simp only[qat];split<;>simp
   have hb:(qat d [c]).1.body.length<=(qat d [c]).1.total:=f1.2.1;have f4:(qat d [c]).1.total<=n+1:=by omega
   have f5:(qat d [c]).1.body.length<=n+1:=by omega
   have f6:(qat d [c]).1.trailers.length<=n+1:=by have:(qat d [c]).1.trailers.length<=(qat d [c]).1.total:=f1.2.2.1;omega
   have hc:∀d',some (qat d [c]).1=some d'->okD d'/\d'.total<=n+1:=fun d' hd'=>by cases hd';exact⟨f1,f4⟩
   dsimp only
   repeat' split
   all_goals first
    |trivial
    |exact{h.up none (by decide) (by decide)with tx:=(fun e=>by cases e),ln:=(fun e=>by cases e),c:=hc}
    |exact{h.up none (by decide) (by decide)with tx:=(fun e=>by cases e),ln:=(fun e=>by cases e),c:=hc,b:=f5,rb:=f5,tr:=f6}
theorem qtj{n:Nat}{p p1:Prs}{m:Md}{c:UInt8}{nx:Option Md}(h:fitP n p)(hm:p.nx=some m)(hs:qba p m c= .go p1 nx):fitP (n+1) {p1 with nx:=nx,used:=p1.used+1}/\p1.used=p.used:=by
 have:=qrt h m hm c;rw[hs]at this;exact⟨this,qtK hs⟩
set_option linter.unnecessarySimpa false
inductive Pln:AV->Prop
 |int (k n):Pln (.int k n)
 |bool (b):Pln (.bool b)
 |str (s):Pln (.str s)
 |agg (l) (h:∀x∈l,Pln x):Pln (.agg l)
 |tup (l) (h:∀x∈l,Pln x):Pln (.tup l)
attribute [simp] Pln.int Pln.bool Pln.str
@[simp] theorem pln_agg (l:List AV):Pln (.agg l)↔∀x∈l,Pln x:=⟨fun h=>by cases h;assumption,.agg l⟩
@[simp] theorem pln_tup (l:List AV):Pln (.tup l)↔∀x∈l,Pln x:=⟨fun h=>by cases h;assumption,.tup l⟩
section
variable {P:Program}{E:Env}{w:World}{β:Nat->Nat}{Rd:Nat->Nat->Prop}{Ow:Nat->Option Hold}{H:Hp}
end
section
variable {K:Hp}{c:Nat}(h:c<K.length)
include h
end
theorem qeE{N:Nat}{H J:Hp}(h:BndH N H)(h2:∀l∈J,∀x∈l,Bnd N x):BndH N (H++J):=fun l hl x hx=>by
 rcases List.mem_append.1 hl with h'|h'
 ·exact h l h' x hx
 ·exact h2 l h' x hx
theorem qf5{N M:Nat}{H:Hp}(h:BndH N H)(hm:N<=M):BndH M H:=fun l hl x hx=>(h l hl x hx).mono hm
theorem qfH{N:Nat}{H:Hp}(h:BndH N H)(c:Nat){l:List AV}(hl:∀x∈l,Bnd N x):BndH N (H.set c l):=fun m hm x hx=>by
 rcases List.mem_or_eq_of_mem_set hm with h1|rfl
 ·exact h m h1 x hx
 ·exact hl x hx
theorem qbu{P:Program}{rs:List ResultVar}{n:Nat}{Q:AV->Hp->Prop}{fr:List AV}{H':Hp}{v:AV}(h1:ares P fr H' rs=some v)(h3:n<=H'.length)(h4:BndH H'.length H')(h5:Bnd H'.length v)(h6:Q v H'):
  qci P rs n Q .ret fr H':=⟨v,v,H',H',[],h1,qaa _,qb0 _,(List.append_nil H').symm,h3,h4,h5,h6⟩
def smp(y:AV):Prop:=Pln y/\y.one=true
@[simp] theorem smp_int (k n):smp (.int k n):=⟨.int _ _,rfl⟩
@[simp] theorem smp_bool (b):smp (.bool b):=⟨.bool _,rfl⟩
@[simp] theorem smp_str (s):smp (.str s):=⟨.str _,rfl⟩
section
variable {K:Hp}{G:Nat->Prop}{v:AV}{n k:Nat}{C C':Nat->AV->Prop}
end
section
variable {P:Program}{E:Env}{w w':World}{β β':Nat->Nat}{Rd Rd':Nat->Nat->Prop}{Ow Ow':Nat->Option Hold}{fr:List AV}{H K:Hp}{tmps:Array Value}
def qs4(w:World)(β:Nat->Nat)(Ow:Nat->Option Hold)(N:Nat):Nat->Prop:=fun b=>b<w.heap.size/\(∀i,i<N->β i≠b)/\Ow b=none
theorem S3.start(hr:HR E w β Rd Ow H)(hl:fr.length=tmps.size)(h:∀(t:Nat) x u,fr[t]? =some x->tmps[t]? =some u->Rel w β Rd x u/\Bnd H.length x)(hf:∀x∈fr,x.free=true):S3 E w (qs4 w β Ow H.length) Rd w β Rd Ow fr H tmps:=by
 refine⟨hr,⟨hl,fun t x u hx hu=>?_⟩,⟨fun b hb=>hb.1,fun _ _=>rfl,fun b hb=>hb.2.2,fun b i hb hi=>hb.2.1 i hi,fun _ _ _ h=>h,rfl,rfl,rfl,Nat.le_refl _,fun _ _ h=>⟨h,rfl⟩⟩,fun x hx=>qa3 (hf x hx)⟩;obtain⟨r1,r2⟩:=h t x u hx hu;exact⟨r1,r2,fun g hg=>by rw[qaL (hf x (qar hx))]at hg;cases hg⟩
theorem S3.post(hS:S3 E w (qs4 w β Ow H.length) Rd w' β' Rd' Ow' fr K tmps)(hβ:∀i,i<H.length->β' i=β i)(hl:H.length<=K.length)(k:IntKind)(z:Int):Post E w β Rd Ow H w' β' Rd' Ow' K (.int k z) (.int k z):=
 ⟨.int _ _,.int _ _,(fun g hg=>by cases hg),rfl,hS.hr,hβ,hl,fun g o hg=>hS.fo.keep g o hg,fun b hb h1 h2=>⟨hS.fo.same b ⟨hb,h1,h2⟩,hS.fo.own b ⟨hb,h1,h2⟩,fun i hi=>hS.fo.box b i ⟨hb,h1,h2⟩ hi,fun o ho=>hS.fo.rd b o ⟨hb,h1,h2⟩ ho⟩,hS.fo.os,hS.fo.tape,hS.fo.output,hS.fo.size⟩
theorem cut4{a b c d:Code}{Q:Exit->Act->World->Prop}{x:Act}(h:∀T:Code,(∃_:Unit,T=d)->(Code.seq a (.seq b (.seq c T))).wp P Q x w):(Code.seq a (.seq b (.seq c d))).wp P Q x w:=h d ⟨(),rfl⟩
end
def qtw(E:Env)(b:Nat):Prop:=∀(K:Hp) (j:Nat) (p:Prs) (m:Md) (c:UInt8) (n:Nat) (Q:AV->Hp->Prop) (R:Value->Hp->Prop),fitP n p->n<4194304->p.nx=some m->PB K b j p->
 (∀p1 nx j1 K1,qba p m c= .go p1 nx->PB K1 b j1 p1->(p1.dec.isSome=true->(p.dec.isSome=true/\j1=j)\/K.length<=j1)->OthP K K1 b j p.dec.isSome->BndH K1.length K1->Q (nxV b nx) K1)->
 (∀p1 st err at_ j1 K1,qba p m c= .bad p1 st err at_->PB K1 b j1 p1->(p1.dec.isSome=true->(p.dec.isSome=true/\j1=j)\/K.length<=j1)->OthP K K1 b j p.dec.isSome->BndH K1.length K1->R (qcC st err at_) K1)->
 PX Tryz.prog E m.fid [.ptr (some (b,0)),.int .u8 (c.toNat:Int)] K Q R
theorem qjk(p:Prs)(s:List UInt8):(qao p s).2<=s.length:=by
 induction s generalizing p with
 |nil=>exact Nat.le_refl _
 |cons c r ih=>
  unfold qao;split
  ·simp
  ·split
   ·have:=ih;simp only[zqL];rename_i p1 nx _;have:=ih {p1 with nx:=nx,used:=p1.used+1};omega
   ·simp
theorem qpW{fr:List AV}{K:Hp}{q:Nat}{z:Int}(h4:fr[4]? =some (.ptr (some (q,0))))(hk:K[q]? =some [.int .i64 z]):ares Tryz.prog fr K (Tryz.f23).results.toList=some (.int .i64 z):=by
 rw[Tryz.results23];simp[ares,qkU,ares1,List.getD,h4,hk]
theorem Prs.bnd{b j N:Nat}{p:Prs}(hb:b<N)(hj:∀d,p.dec=some d->j<N):∀z∈p.av b j,Bnd N z:=by
 intro z hz
 have hn:Bnd N (nxV b p.nx):=by
  cases p.nx with
  |none=>exact .raw _
  |some m=>exact .fn _ _ fun x hx=>by simp at hx;subst hx;exact .tup _ fun y hy=>by simp at hy;subst hy;exact .ptr _ _ hb
 have hd:Bnd N (.ptr (p.dec.map fun _=>(j,0))):=by
  cases h:p.dec with
  |none=>exact .ptr0
  |some d=>exact .ptr _ _ (hj d h)
 simp only[Prs.av,List.mem_cons,List.not_mem_nil,or_false]at hz;rcases hz with rfl|rfl|rfl|rfl|rfl|rfl|rfl|rfl|rfl|rfl|rfl|rfl|rfl|rfl|rfl|rfl|rfl|rfl|rfl|rfl|rfl|rfl|rfl|rfl|rfl
 all_goals first
  |exact hn
  |exact hd
  |exact qdd _ _ _
  |exact .sl _ _ _ (qlU _)
  |constructor
section
variable (E:Env){H:Hp}(Q:AV->Hp->Prop)
structure FdJ (H:Hp) (b j:Nat) (p:Prs) (N:Nat) (s:List UInt8) (n:Nat) (j':Nat) (p':Prs) (K:Hp):Prop where
 le:n<=s.length
 pb:PB K b j' p'
 fit:p'.nx≠none->fitP (N+n) p'
 fd:qao p s=((qao p' (s.drop n)).1,(qao p' (s.drop n)).2+n)
 k0:K[H.length]? =some [.ptr (some (b,0))]
 k1:K[H.length+1]? =some [.int .i64 (n:Int)]
 len:H.length+2<=K.length
 oth:∀i,i<H.length->i≠b->(p.dec.isSome=true->i≠j)->K[i]? =H[i]?
 jj:p'.dec.isSome=true->(p.dec.isSome=true/\j'=j)\/H.length+2<=j'
def fdI(H:Hp)(b j:Nat)(p:Prs)(N:Nat)(s:List UInt8)(fr:List AV)(K:Hp):Prop:=∃n j' p',FdJ H b j p N s n j' p' K/\BndH K.length K/\
 ∃x:Nat->AV,fr=[.ptr (some (b,0)),.str s,.ptr (some (H.length,0)),x 3,.ptr (some (H.length+1,0)),x 5,x 6,x 7,x 8,x 9,x 10,x 11,x 12,x 13,x 14,x 15,x 16,x 17,x 18,x 19,x 20,x 21,x 22,x 23,x 24,x 25,x 26,x 27,x 28,x 29,x 30,x 31,x 32,x 33,x 34,x 35,x 36,x 37,x 38,x 39]
theorem qrQ{b j:Nat}{p:Prs}(hp:PB H b j p){N:Nat}(hf:p.nx≠none->fitP N p)(hst:∀E':Env,E'.w0=E.w0->E'.Fix=E.Fix->qtw E' b)(s:List UInt8)(hM:N+(qao p s).2<=4194304)(hsl:s.length<=1073741824)
  (hQ:∀j1 K1,PB K1 b j1 (qao p s).1->((qao p s).1.dec.isSome=true->(p.dec.isSome=true/\j1=j)\/H.length<=j1)->OthP H K1 b j p.dec.isSome->BndH K1.length K1->Q (.int .i64 (qao p s).2) K1):
  PC Tryz.prog E 23 [.ptr (some (b,0)),.str s] H Q:=by
 have hmf:∀(fn:Fn) (first cap:Array Value) (w:World),(Instr.makeFunc fn first cap).run Tryz.prog w= .ok (.func fn first cap) w:=fun _ _ _ _=>rfl
 obtain⟨R0,hR0⟩:∃R0:List AV->Value->Hp->Prop,R0=fun fr v K=>fr[4]? =some (.ptr (some (H.length+1,0)))/\∃(n j':Nat) (p' p1:Prs) (j1:Nat) (st err at_:Int),v=qcC st err at_/\n+1=(qao p s).2/\(qao p s).1=(SR.bad p1 st err at_).prs/\PB K b j1 p1/\
   0<=p1.used/\p1.used<=1099511627776/\K[H.length]? =some [.ptr (some (b,0))]/\K[H.length+1]? =some [.int .i64 (n:Int)]/\H.length+2<=K.length/\(∀i,i<H.length->i≠b->(p.dec.isSome=true->i≠j)->K[i]? =H[i]?)/\(p1.dec.isSome=true->(p.dec.isSome=true/\j1=j)\/H.length+2<=j1):=⟨_,rfl⟩
 refine PC.env (E:=E) (E':={E with pan:=R0,S:=fun i=>i=H.length}) rfl rfl ?_;obtain⟨E',hE'⟩:∃E':Env,E'={E with pan:=R0,S:=fun i=>i=H.length}:=⟨_,rfl⟩
 rw[<-hE'];refine⟨by kernel_rfl,fun w β Rd Ow cargs hr hcell hsz hargs=>?_⟩;obtain⟨u0,u1,rfl,hu,hv⟩:=args2 hsz fun t x u hx hu=>(hargs t x u hx hu).1;obtain⟨ss,rfl,hss,hs⟩:=qaC hv;obtain rfl:=qcX hu
 go_enter_defers Tryz.func23,Tryz.ntmps23
 refine cut4 fun T hT=>?_
 go_wp2
 obtain⟨_,rfl⟩:=hT;show Code.wp _ _ (bodyPostD Tryz.prog Tryz.f23 _) _ _;have key:∀(t:Nat) x u,([.ptr (some (b,0)),.str s]:List AV)[t]? =some x->(#[.pointer (some ⟨β b,0,none⟩),.string ss]:Array Value)[t]? =some u->Rel w β Rd x u/\Bnd H.length x:=fun t x u hx hu=>⟨(hargs t x u hx hu).1,(hargs t x u hx hu).2.1⟩
 have b0:S3 E' w (qs4 w β Ow H.length) Rd w β Rd Ow ([.ptr (some (b,0)),.str s]++List.replicate 38 (.raw undef)) H (#[.pointer (some ⟨β b,0,none⟩),.string ss]++Array.replicate 38 undef):=by
  refine S3.start hr (by simp) (fun t x u hx hu=>?_) (by simp[AV.free]);by_cases ht:t<2
  ·rw[zqA (by simpa using ht)]at hx;rw[Array.getElem?_append_left (by simpa using ht)]at hu;exact key t x u hx hu
  ·rw[zqB (by simpa using ht),List.getElem?_replicate]at hx;rw[Array.getElem?_append_right (by simpa using ht),Array.getElem?_replicate]at hu;split at hx
   ·cases hx;split at hu
    ·cases hu;exact⟨.raw _,.raw _⟩
    ·cases hu
   ·cases hx
 have hbl:b<H.length:=(zqC.1 hp.row).1
 have b1:=b0.newBox [.ptr (some (b,0))] #[.pointer (some ⟨β b,0,none⟩)] 45 rfl (fun k x u hx hu=>by
  match k with
  |0=>simp at hx hu;subst hx;subst hu;exact⟨.ptr _ _,rfl,.ptr _ _ hbl,fun g hg=>by cases hg⟩
  |k+1=>simp at hx) (qpg b0) (fun t ht=>by simp at ht)
 have b2:=b1.newBox [.int .i64 0] #[.int .i64 0] 3 rfl (fun k x u hx hu=>by
  match k with
  |0=>simp at hx hu;subst hx;subst hu;exact⟨.int _ _,rfl,.int _ _,fun g hg=>by cases hg⟩
  |k+1=>simp at hx) (qpg b1) (fun t ht=>by simp at ht)
 have hs1:(w.alloc (.cells #[.pointer (some ⟨β b,0,none⟩)] 45)).heap.size=w.heap.size+1:=by simp
 have e1:H++[[AV.ptr (some (b,0))]]++[[AV.int .i64 0]]=H++[[.ptr (some (b,0))],[.int .i64 0]]:=by simp
 have e2:(H++[[AV.ptr (some (b,0))]]).length=H.length+1:=by simp
 rw[e1,e2,hs1]at b2;obtain⟨β2,hβ2⟩:∃β2,β2=bup (bup β H.length w.heap.size) (H.length+1) (w.heap.size+1):=⟨_,rfl⟩
 rw[<-hβ2]at b2;have c0:β2 H.length=w.heap.size:=by rw[hβ2,qd0 (by omega),qcB]
 have c1:β2 (H.length+1)=w.heap.size+1:=by rw[hβ2,qcB]
 have b3:=b2.put 2 (v:= .ptr (some (H.length,0))) (c:= .pointer (some ⟨w.heap.size,0,none⟩)) (by have:=Rel.ptr (w:=(w.alloc (.cells #[.pointer (some ⟨β b,0,none⟩)] 45)).alloc (.cells #[.int .i64 0] 3)) (β:=β2) (Rd:=Rd) H.length 0;rw[c0]at this;exact this) (.ptr _ _ (by simp)) rfl (fun g hg=>by cases hg);have b4:=b3.put 4 (v:= .ptr (some (H.length+1,0))) (c:= .pointer (some ⟨w.heap.size+1,0,none⟩)) (by have:=Rel.ptr (w:=(w.alloc (.cells #[.pointer (some ⟨β b,0,none⟩)] 45)).alloc (.cells #[.int .i64 0] 3)) (β:=β2) (Rd:=Rd) (H.length+1) 0;rw[c1]at this;exact this) (.ptr _ _ (by simp)) rfl (fun g hg=>by cases hg);have b5:=b4.put 5 (v:= .raw (.pointer (some ⟨β b,0,none⟩))) (c:= .pointer (some ⟨β b,0,none⟩)) (.raw _) (.raw _) rfl (fun g hg=>by cases hg);have b6:=b5.put 6 (v:= .bool false) (c:= .bool false) (.bool _) (.bool _) rfl (fun g hg=>by cases hg);have b7:=b6.put 7 (v:= .raw (.func (.func 43) #[] #[.pointer (some ⟨w.heap.size,0,none⟩),.pointer (some ⟨w.heap.size+1,0,none⟩)])) (c:= .func (.func 43) #[] #[.pointer (some ⟨w.heap.size,0,none⟩),.pointer (some ⟨w.heap.size+1,0,none⟩)]) (.raw _) (.raw _) rfl (fun g hg=>by cases hg);clear b0 b1 b2 b3 b4 b5 b6;simp[Array.replicate_succ,List.replicate_succ]at b7;have hst':=hst E' (by rw[hE']) (by rw[hE']);have hpan:E'.pan=R0:=by rw[hE']
 have hSS:E'.S=fun i=>i=H.length:=by rw[hE']
 have hdj:∀d,p.dec=some d->j<H.length:=fun d hd=>(zqC.1 (hp.dec d hd).2).1;have hβH:∀i,i<H.length->β2 i=β i:=fun i hi=>by rw[hβ2,qd0 (by omega),qd0 hi]
 refine qtG (E:=E') (B:=[]) (ND:=[(5,[8,8,2,0,0,0,0,0,0,0,3,0,0,0])]) (n:=H.length+2) (β0:=β2) (by kernel_rfl) (fun id m hm=>absurd hm (qes (by rfl) id m)) _ (fun e fr' K'=>(e= .normal\/e= .ret)/\∃z,ares Tryz.prog fr' K' (Tryz.f23).results.toList=some (.int .i64 z)/\Q (.int .i64 z) K') _ _ _ _ _ (by kernel_rfl) (.inr ?_)
  ⟨rfl,by simp,β2,Rd,Ow,b7,fun i hi=>rfl⟩ ?_ ?_
 ·intro fr H1 a w1 cv hs hk;obtain⟨hd,hn,β',Rd',Ow',hS',hβ'⟩:=hs;rw[hpan,hR0]at hk;obtain⟨hfr4,n,j',p',p1,j1,st,err,at_,rfl,hn1,hp1,hPB,hu1,hu2,k0,k1,hlen,hoth,hjj⟩:=hk;have hfr:fr[4]? =some (.ptr (some (H.length+1,0))):=by rw[List.getElem?_take]at hfr4;simpa using hfr4
  have bb0:β' H.length=w.heap.size:=(hβ' _ (by omega)).trans c0;have bb1:β' (H.length+1)=w.heap.size+1:=(hβ' _ (by omega)).trans c1;have hnle:=qjk p s;obtain⟨T0,cs0,g0,gs0,gr0⟩:=hS'.hr.box _ _ k0;obtain⟨T1,cs1,g1,gs1,gr1⟩:=hS'.hr.box _ _ k1;obtain⟨T2,cs2,g2,gs2,gr2⟩:=hS'.hr.box _ _ hPB.row;obtain⟨z0,rfl⟩:∃z0,cs0= #[z0]:=by match cs0,gs0 with|⟨[z]⟩,_=>exact⟨z,rfl⟩
  obtain⟨z1,rfl⟩:∃z1,cs1= #[z1]:=by match cs1,gs1 with|⟨[z]⟩,_=>exact⟨z,rfl⟩
  obtain rfl:=qcX (gr0 0 _ z0 rfl rfl).1;obtain rfl:=qaD (gr1 0 _ z1 rfl rfl).1;obtain⟨c0,c1,c2,c3,c4,c5,c6,c7,c8,c9,c10,c11,c12,c13,c14,c15,c16,c17,c18,c19,c20,c21,c22,c23,c24,rfl⟩:∃c0 c1 c2 c3 c4 c5 c6 c7 c8 c9 c10 c11 c12 c13 c14 c15 c16 c17 c18 c19 c20 c21 c22 c23 c24,cs2= #[c0,c1,c2,c3,c4,c5,c6,c7,c8,c9,c10,c11,c12,c13,c14,c15,c16,c17,c18,c19,c20,c21,c22,c23,c24]:=by match cs2,gs2 with|⟨[c0,c1,c2,c3,c4,c5,c6,c7,c8,c9,c10,c11,c12,c13,c14,c15,c16,c17,c18,c19,c20,c21,c22,c23,c24]⟩,_=>exact⟨c0,c1,c2,c3,c4,c5,c6,c7,c8,c9,c10,c11,c12,c13,c14,c15,c16,c17,c18,c19,c20,c21,c22,c23,c24,rfl⟩
  obtain rfl:=qaD (gr2 6 _ c6 rfl rfl).1;rw[bb0]at g0;rw[bb1]at g1;show Leaves _ _ a.tmps _ a.defers (.panicking [_]) w1;rw[hd];refine leaves_cons (f:=43) (args:= #[.pointer (some ⟨w.heap.size,0,none⟩),.pointer (some ⟨w.heap.size+1,0,none⟩)]) (by simp) (by simp[go_sem]) ?_;have nb0:w.heap.size≠β' b:=by rw[<-bb0];exact fun e=>by have:=hS'.hr.inj _ _ (by omega) (by omega) e;omega
  have nb1:w.heap.size+1≠β' b:=by rw[<-bb1];exact fun e=>by have:=hS'.hr.inj _ _ (by omega) (by omega) e;omega
  refine(qhM w.heap.size (w.heap.size+1) (β' b) T2 T0 T1 n p1.used st err at_ c0 c1 c2 c3 c4 c5 c7 c8 c9 c10 c11 c12 c13 c14 c15 c16 c17 c18 c19 c20 c21 c22 c23 c24 w1 g0 g1 g2 nb0 nb1).mono ?_;rintro e u' w2 ⟨rfl,rfl,rfl⟩;have wu:wrap64 (p1.used+1)=p1.used+1:=by unfold wrap64;omega
  have wn:wrap64 ((n:Int)+1)=((n+1:Nat):Int):=by unfold wrap64;omega
  have hb1:b<H1.length:=by omega
  have s1:=hS'.store b _ hPB.row 14 [.int .i64 st,.int .i64 err,.int .i64 at_] [.int .i64 st,.int .i64 err,.int .i64 at_] rfl (by simp[Prs.av]) (fun k x u hx hu=>by
   match k with
   |0=>simp at hx hu;subst hx;subst hu;exact⟨.int _ _,rfl,.int _ _,fun g hg=>by cases hg⟩
   |1=>simp at hx hu;subst hx;subst hu;exact⟨.int _ _,rfl,.int _ _,fun g hg=>by cases hg⟩
   |2=>simp at hx hu;subst hx;subst hu;exact⟨.int _ _,rfl,.int _ _,fun g hg=>by cases hg⟩
   |k+3=>simp at hx) (fun t ht=>by simp at ht)
  have s2:=s1.store b _ (zqO hb1) 5 [.int .i64 5] [.int .i64 5] rfl (by simp[Prs.av,setR]) (fun k x u hx hu=>by
   match k with
   |0=>simp at hx hu;subst hx;subst hu;exact⟨.int _ _,rfl,.int _ _,fun g hg=>by cases hg⟩
   |k+1=>simp at hx) (fun t ht=>by simp at ht)
  have s3:=s2.store b _ (zqO (by simpa using hb1)) 4 [.raw .nilFunc] [.nilFunc] rfl (by simp[Prs.av,setR]) (fun k x u hx hu=>by
   match k with
   |0=>simp at hx hu;subst hx;subst hu;exact⟨.raw _,rfl,.raw _,fun g hg=>by cases hg⟩
   |k+1=>simp at hx) (fun t ht=>by simp at ht)
  have s4:=s3.store b _ (zqO (by simpa using hb1)) 6 [.int .i64 (p1.used+1)] [.int .i64 (p1.used+1)] rfl (by simp[Prs.av,setR]) (fun k x u hx hu=>by
   match k with
   |0=>simp at hx hu;subst hx;subst hu;exact⟨.int _ _,rfl,.int _ _,fun g hg=>by cases hg⟩
   |k+1=>simp at hx) (fun t ht=>by simp at ht)
  have hbne:b≠H.length+1:=by omega
  have s5:=s4.store (H.length+1) [.int .i64 (n:Int)] (by rw[zqF hbne,zqF hbne,zqF hbne,zqF hbne];exact k1) 0 [.int .i64 ((n+1:Nat):Int)] [.int .i64 ((n+1:Nat):Int)] rfl (by simp) (fun k x u hx hu=>by
   match k with
   |0=>simp at hx hu;subst hx;subst hu;exact⟨.int _ _,rfl,.int _ _,fun g hg=>by cases hg⟩
   |k+1=>simp at hx) (fun t ht=>by simp at ht)
  clear s1 s2 s3 s4;obtain⟨K2,hK2⟩:∃K2,K2=(H1.set b ((SR.bad p1 st err at_).prs.av b j1)).set (H.length+1) [.int .i64 ((n+1:Nat):Int)]:=⟨_,rfl⟩
  have s6:S3 E' w (qs4 w β Ow H.length) Rd (qqr w1 (β' b) (w.heap.size+1) p1.used n st err at_) β' Rd' Ow' fr K2 a.tmps:=by
   rw[hK2];have q:=s5;rw[bb1]at q;simp only[List.set_set]at q;unfold qqr;rw[wu,wn];exact q
  have k2b:K2[b]? =some ((SR.bad p1 st err at_).prs.av b j1):=by rw[hK2,zqF (Ne.symm hbne),zqO hb1]
  have k2n:K2[H.length+1]? =some [.int .i64 ((n+1:Nat):Int)]:=by rw[hK2,zqO (by simp;omega)]
  have k2o:∀i,i≠b->i≠H.length+1->K2[i]? =H1[i]? :=fun i h1 h2=>by rw[hK2,zqF (Ne.symm h2),zqF (Ne.symm h1)]
  have k2l:K2.length=H1.length:=by rw[hK2];simp
  have hres:=qpW (fr:=fr) (K:=K2) hfr k2n;obtain⟨c,Ow2,fr2,hrun,hS2,hrel,_,_⟩:=qjy (a:=a) s6 hres;obtain rfl:=qaD hrel;show Leaves _ _ a.tmps _ [] (settle (.panicking [_])) _;refine⟨_,hrun,_,.int .i64 ((n+1:Nat):Int),K2,β',Rd',Ow2,rfl,?_,S3.post hS2 (fun i hi=>(hβ' i (by omega)).trans (hβH i hi)) (by omega) _ _⟩
  have hdec:∀d,p1.dec=some d->j1≠b/\K2[j1]? =some d.av:=fun d hd=>by
   obtain⟨q1,q2⟩:=hPB.dec d hd;refine⟨q1,?_⟩;rw[k2o j1 q1 (fun e=>?_)]
   ·exact q2
   ·rcases hjj (by rw[hd];rfl)with⟨h1,h2⟩|h1
    ·obtain⟨d0,hd0⟩:=Option.isSome_iff_exists.1 h1;have:=hdj d0 hd0;omega
    ·omega
  have:=hQ j1 K2 (by rw[hp1];exact⟨k2b,hdec⟩) (fun h=>by
   rw[hp1]at h
   exact(hjj h).imp id (fun h=>by omega)) ⟨by omega,fun i hi h1 h2=>by rw[k2o i h1 (by omega)];exact hoth i hi h1 h2⟩ s6.hr.bnd
  rw[<-hn1]at this;exact this
 ·simp;refine qaB (fdI H b j p N s) (fun fr K=>s.length-(match K[H.length+1]? with|some [x]=>(ai x).toNat|_=>0)) ⟨0,j,p,⟨Nat.zero_le _,⟨by rw[zqA hbl];exact hp.row,fun d hd=>⟨(hp.dec d hd).1,by rw[zqA (hdj d hd)];exact(hp.dec d hd).2⟩⟩,hf,by simp,by simp,by simp,by simp,fun i hi _ _=>zqA hi,fun h=> .inl ⟨h,rfl⟩⟩,b7.hr.bnd,friz⟩ ?_;rintro fr K ⟨n,j',p',hJ,hBK,x,rfl⟩;have hrow:=hJ.pb.row;have hk0:=hJ.k0;have hk1:=hJ.k1;have hle:=hJ.le;have hfd:=hJ.fd;have hkl:=hJ.len;have hset:K.set (H.length+1) [.int .i64 (n:Int)]=K:=qfi hk1;simp[Prs.av]at hrow
  have stop:qao p' (s.drop n)=(p',0)->Q (.int .i64 (n:Int)) K:=fun h0=>by
   rw[h0]at hfd;have:=hQ j' K (by rw[hfd];exact hJ.pb) (fun h=>by rw[hfd]at h;exact(hJ.jj h).imp id (fun h=>by omega)) ⟨by omega,hJ.oth⟩ hBK;rw[hfd]at this;simpa using this
  by_cases h1:n<s.length
  ·obtain⟨c,hc⟩:∃c,s[n]? =some c:=⟨_,zqD h1⟩
   have hat:lat s n=some c:=qas hc;have hdr:=qay s n c hc;cases hnx:p'.nx with
   |none=>
    simp[hk0,hk1,hrow,h1,hnx,nxV,hset];exact stop (by rw[hdr];simp[qao,hnx])
   |some m=>
    have hJf:=hJ.fit (by rw[hnx];simp);have hfu:=hJf.used;simp[hk0,hk1,hrow,h1,hnx,nxV,hat];refine⟨by rw[hSS],?_⟩
    have hcnt:n<(qao p s).2:=by
     rw[hfd,hdr];simp only[qao,hnx];split<;>simp<;>omega
    have kj:p'.dec.isSome=true->j'≠H.length/\j'≠H.length+1:=fun h=>by
     rcases hJ.jj h with⟨h2,rfl⟩|h2
     ·obtain⟨d0,hd0⟩:=Option.isSome_iff_exists.1 h2;have:=hdj d0 hd0;omega
     ·omega
    refine hst' K j' p' m c (N+n) _ _ hJf (by omega) hnx hJ.pb ?_ ?_
    ·intro p1 nx j1 K1 hgo hpb1 hj1 hoth1 hB1;obtain⟨hfit1,hused⟩:=qtj hJf hnx hgo;have hrow1:=hpb1.row;simp[Prs.av]at hrow1;have o0:K1[H.length]? =K[H.length]? :=hoth1.2 _ (by omega) (by omega) (fun h=>fun e=>(kj h).1 e.symm);have o1:K1[H.length+1]? =K[H.length+1]? :=hoth1.2 _ (by omega) (by omega) (fun h=>fun e=>(kj h).2 e.symm);rw[hk0]at o0;rw[hk1]at o1;have hb1:b<K1.length:=by have:=hoth1.1;omega
     have hb1':¬K1.length<=b:=by omega
     have wu:IntKind.i64.wrap (p1.used+1)=p1.used+1:=wiz;have wn:IntKind.i64.wrap ((n:Int)+1)=n+1:=wiz;have e1:b≠H.length:=by omega
     have e2:b≠H.length+1:=by omega
     have fin:∀fr' K',(∃x:Nat->AV,fr'=[.ptr (some (b,0)),.str s,.ptr (some (H.length,0)),x 3,.ptr (some (H.length+1,0)),x 5,x 6,x 7,x 8,x 9,x 10,x 11,x 12,x 13,x 14,x 15,x 16,x 17,x 18,x 19,x 20,x 21,x 22,x 23,x 24,x 25,x 26,x 27,x 28,x 29,x 30,x 31,x 32,x 33,x 34,x 35,x 36,x 37,x 38,x 39])->K'=(K1.set b (({p1 with nx:=nx,used:=p1.used+1}:Prs).av b j1)).set (H.length+1) [.int .i64 ((n:Int)+1)]->fdI H b j p N s fr' K':=fun fr' K' hfr hK=>by
      have hl':K'.length=K1.length:=by rw[hK];simp
      have hat1:∀i,i≠b->i≠H.length+1->K'[i]? =K1[i]? :=fun i h2 h3=>by rw[hK,zqF (Ne.symm h3),zqF (Ne.symm h2)]
      have hfeed:qao p' (s.drop n)=((qao {p1 with nx:=nx,used:=p1.used+1} (s.drop (n+1))).1,(qao {p1 with nx:=nx,used:=p1.used+1} (s.drop (n+1))).2+1):=by
       rw[hdr];simp only[qao,hnx,hgo]
      refine⟨n+1,j1,{p1 with nx:=nx,used:=p1.used+1},⟨by omega,⟨by rw[hK,zqF (Ne.symm e2)];exact zqO hb1,fun d hd=>?_⟩,fun _=>by rw[<-Nat.add_assoc];exact hfit1,by rw[hfd,hfeed];simp[Nat.add_assoc,Nat.add_comm],by rw[hat1 _ (Ne.symm e1) (by omega)];exact o0,by rw[hK,zqO (by simp;have:=hoth1.1;omega)];simp,by rw[hl'];have:=hoth1.1;omega,fun i hi h2 h3=>?_,fun h=>?_⟩,?_,hfr⟩
      ·obtain⟨q1,q2⟩:=hpb1.dec d hd;refine⟨q1,?_⟩;rw[hat1 j1 q1 (fun e=>?_)]
       ·exact q2
       ·rcases hj1 (by rw[show p1.dec=some d from hd];rfl)with⟨h4,rfl⟩|h4
        ·exact(kj h4).2 e
        ·omega
      ·rw[hat1 i h2 (by omega),hoth1.2 i (by omega) h2 (fun h=>fun e=>?_)]
       ·exact hJ.oth i hi h2 h3
       ·rcases hJ.jj h with⟨h4,rfl⟩|h4
        ·exact h3 h4 e
        ·omega
      ·rcases hj1 h with⟨h4,rfl⟩|h4
       ·exact hJ.jj h4
       ·exact .inr (by omega)
      ·rw[hl',hK];refine qfH (qfH hB1 _ ?_) _ ?_
       ·exact Prs.bnd hb1 (fun d hd=>(zqC.1 (hpb1.dec d hd).2).1)
       ·intro z hz;simp at hz;subst hz;exact .int _ _
     have kdec:((n:Int).toNat)=n:=rfl;have gs0:∀x,(K1.set b x)[H.length]? =some [.ptr (some (b,0))]:=fun x=>by rw[zqF e1];exact o0
     have gs1:∀x,(K1.set b x)[H.length+1]? =some [.int .i64 (n:Int)]:=fun x=>by rw[zqF e2];exact o1
     have gs2:∀x,(K1.set b x)[b]? =some x:=fun x=>zqO hb1;have hms:∀X,((K1.set b X).set (H.length+1) [.int .i64 ((n:Int)+1)])[H.length+1]? =some [.int .i64 ((n:Int)+1)]:=fun X=>zqO (by simp;have:=hoth1.1;omega);have nf1:Value.nilFunc.oneCell'=true:=rfl;cases nx with
     |none=>
      simp[qap,KP,hSS,o0,o1,hrow1,nxV,hk0,zqO hb1,gs0,gs1,gs2,nf1,wu,wn];exact⟨hoth1.1,qaH (fin _ _ (friz) (by simp[Prs.av,nxV])) (by simp[hms];exact Nat.sub_lt_sub_left h1 (Nat.lt_succ_self n))⟩
     |some m1=>
      simp[qap,KP,hSS,o0,o1,hrow1,nxV,hk0,zqO hb1,gs0,gs1,gs2,nf1,wu,wn];exact⟨hoth1.1,qaH (fin _ _ (friz) (by simp[Prs.av,nxV])) (by simp[hms];exact Nat.sub_lt_sub_left h1 (Nat.lt_succ_self n))⟩
    ·intro p1 st err at_ j1 K1 hbad hpb1 hj1 hoth1 hB1;have hused:=quC hbad;have o0:K1[H.length]? =K[H.length]? :=hoth1.2 _ (by omega) (by omega) (fun h=>fun e=>(kj h).1 e.symm);have o1:K1[H.length+1]? =K[H.length+1]? :=hoth1.2 _ (by omega) (by omega) (fun h=>fun e=>(kj h).2 e.symm);rw[hk0]at o0;rw[hk1]at o1;rw[hpan,hR0]
     have hfp:qao p' (s.drop n)=((SR.bad p1 st err at_).prs,1):=by
      rw[hdr];simp only[qao,hnx,hbad]
     rw[hfp]at hfd;refine⟨rfl,n,j',p',p1,j1,st,err,at_,rfl,by rw[hfd];simp;omega,by rw[hfd],hpb1,by omega,by omega,o0,o1,by have:=hoth1.1;omega,fun i hi h2 h3=>?_,fun h=>?_⟩
     ·rw[hoth1.2 i (by omega) h2 (fun h=>fun e=>?_)]
      ·exact hJ.oth i hi h2 h3
      ·rcases hJ.jj h with⟨h4,rfl⟩|h4
       ·exact h3 h4 e
       ·omega
     ·rcases hj1 h with⟨h4,rfl⟩|h4
      ·exact hJ.jj h4
      ·exact .inr (by omega)
  ·simp[hk0,hk1,hrow,h1,hset];have hn:n=s.length:=by omega
   exact stop (by rw[hn,List.drop_length];rfl)
 ·rintro e fr' K' a w' hs ⟨he,z,hres,hq⟩;obtain⟨hd,hn,β',Rd',Ow',hS',hβ'⟩:=hs;obtain⟨c,Ow2,fr2,hrun,hS2,hrel,_,_⟩:=qjy (a:=a) hS' hres;obtain rfl:=qaD hrel
  have fin:Leaves Tryz.prog Tryz.f23 a.tmps (fun e w'=>∃c v H' β' Rd' Ow',e= .returned c/\Q v H'/\Post E' w β Rd Ow H w' β' Rd' Ow' H' v c) a.defers .returning w':=by
   rw[hd];refine leaves_cons (f:=43) (args:= #[.pointer (some ⟨w.heap.size,0,none⟩),.pointer (some ⟨w.heap.size+1,0,none⟩)]) (by simp) (by simp[go_sem]) ?_;refine(qn1 _ _ _).mono ?_;rintro e u' w2 ⟨rfl,rfl,rfl⟩;show Leaves _ _ a.tmps _ [] (settle .returning) _;exact⟨_,hrun,_,.int .i64 z,K',β',Rd',Ow2,rfl,hq,S3.post hS2 (fun i hi=>(hβ' i (by omega)).trans (hβH i hi)) (by omega) _ _⟩
  rcases he with rfl|rfl
  ·exact fin
  ·exact fin
end
def ql2(E:Env)(b:Nat)(f:FuncId)(S:Prs->UInt8->SR):Prop:=∀(K:Hp) (j:Nat) (p:Prs) (c:UInt8) (n:Nat) (Q:AV->Hp->Prop) (R:Value->Hp->Prop),fitP n p->n<4194304->PB K b j p->
 (∀p1 nx j1 K1,S p c= .go p1 nx->PB K1 b j1 p1->(p1.dec.isSome=true->(p.dec.isSome=true/\j1=j)\/K.length<=j1)->OthP K K1 b j p.dec.isSome->BndH K1.length K1->Q (nxV b nx) K1)->
 (∀p1 st err at_ j1 K1,S p c= .bad p1 st err at_->PB K1 b j1 p1->(p1.dec.isSome=true->(p.dec.isSome=true/\j1=j)\/K.length<=j1)->OthP K K1 b j p.dec.isSome->BndH K1.length K1->R (qcC st err at_) K1)->
 PX Tryz.prog E f [.ptr (some (b,0)),.int .u8 (c.toNat:Int)] K Q R
theorem OthP.refl(K:Hp)(b j:Nat)(d:Bool):OthP K K b j d:=⟨Nat.le_refl _,fun _ _ _ _=>rfl⟩
theorem OthP.put(K:Hp)(b j:Nat)(d:Bool)(x:List AV):OthP K (K.set b x) b j d:=⟨by simp,fun i _ h _=>zqF (Ne.symm h)⟩
theorem PB.lt{K:Hp}{b j:Nat}{p:Prs}(h:PB K b j p):b<K.length:=(zqC.1 h.row).1
theorem PB.put{K:Hp}{b j:Nat}{p p1:Prs}(h:PB K b j p)(hd:p1.dec=p.dec):PB (K.set b (p1.av b j)) b j p1:=
 ⟨zqO h.lt,fun d hd1=>by
  obtain⟨q1,q2⟩:=h.dec d (by rw[<-hd];exact hd1)
  exact⟨q1,by rw[zqF (Ne.symm q1)];exact q2⟩⟩
theorem PB.bnd{K:Hp}{b j:Nat}{p p1:Prs}(h:PB K b j p)(hd:p1.dec=p.dec):∀z∈p1.av b j,Bnd K.length z:=
 Prs.bnd h.lt fun d hd1=>(zqC.1 (h.dec d (by rw[<-hd];exact hd1)).2).1
theorem qa2{N b:Nat}(hb:b<N)(m:Option Md):Bnd N (nxV b m):=by
 cases m with
 |none=>exact .raw _
 |some m=>exact .fn _ _ fun x hx=>by simp at hx;subst hx;exact .tup _ fun y hy=>by simp at hy;subst hy;exact .ptr _ _ hb
theorem SE.env{E E':Env}(h:SE E)(h0:E'.w0=E.w0)(hF:E'.Fix=E.Fix):SE E':=⟨by rw[hF];exact h.1,by rw[h0];exact h.2⟩
theorem qa0(l:List UInt8)(c:UInt8):bts l++[[.int .u8 (c.toNat:Int)]]=bts (l++[c]):=by simp[bts]
theorem qcr(b j:Nat)(p:Prs)(h:p.text=[]):nilL [AV.int .i64 p.lt,.int .i64 p.lh,.int .i64 p.lf,.int .i64 p.lb,nxV b p.nx,.int .i64 p.state,.int .i64 p.used,.str p.meth,.str p.targ,.int .i64 p.major,.int .i64 p.minor,.sl true 2 (flds p.fields),.str p.rbody,.sl false 2 (flds p.trailers),
 .int .i64 p.fst_,.int .i64 p.ferr,.int .i64 p.fat,.nil,.str [],.int .i64 p.head,.int .i64 p.begin_,.int .i64 p.left,.sl true 1 (bts p.body),.ptr (p.dec.map fun _=>(j,0)),.bool p.bodied] (p.av b j):=by
 unfold Prs.av;rw[h];exact⟨.inl rfl,.inl rfl,.inl rfl,.inl rfl,.inl rfl,.inl rfl,.inl rfl,.inl rfl,.inl rfl,.inl rfl,.inl rfl,.inl rfl,.inl rfl,.inl rfl,.inl rfl,.inl rfl,.inl rfl,.inr ⟨rfl,true,1,rfl⟩,.inl rfl,.inl rfl,.inl rfl,.inl rfl,.inl rfl,.inl rfl,.inl rfl,trivial⟩
theorem qbS(b j:Nat)(p:Prs):nilL [AV.int .i64 p.lt,.int .i64 p.lh,.int .i64 p.lf,.int .i64 p.lb,nxV b p.nx,.int .i64 p.state,.int .i64 p.used,.str p.meth,.str p.targ,.int .i64 p.major,.int .i64 p.minor,.sl true 2 (flds p.fields),.str p.rbody,.sl false 2 (flds p.trailers),
 .int .i64 p.fst_,.int .i64 p.ferr,.int .i64 p.fat,.sl true 1 (bts p.text),.str [],.int .i64 p.head,.int .i64 p.begin_,.int .i64 p.left,.sl true 1 (bts p.body),.ptr (p.dec.map fun _=>(j,0)),.bool p.bodied] (p.av b j):=qbD _
section
variable (E:Env){K:Hp}{b j:Nat}{p:Prs}{Q:AV->Hp->Prop}{R:Value->Hp->Prop}
theorem qal(hp:PB K b j p)(st err:Int)(hR:R (qcC st err p.used) K):PX Tryz.prog E 86 [.ptr (some (b,0)),.int .i64 st,.int .i64 err] K Q R:=by
 refine qbZ R (fun _=>False) Tryz.func86 rfl [] [(0,[0,0,0,0,0,0,0,3])] (by kernel_rfl) (fun E' hpan hS h0 hF hB=>?_);have hrow:=hp.row;simp[Prs.av]at hrow;simp[Tryz.ntmps86,Tryz.results86,List.replicate_succ,hrow];refine qpZ E' _ _ _ _ ?_;rw[hpan];exact hR
theorem qf1(hp:PB K b j p)(hl:p.body.length<=1073741824)(hQ:∀K1,PB K1 b j {p with rbody:=p.body,state:=4}->K1=K.set b (({p with rbody:=p.body,state:=4}:Prs).av b j)->BndH K1.length K1->Q (.raw .nilFunc) K1):PC Tryz.prog E 199 [.ptr (some (b,0))] K Q:=by
 have hrow:=hp.row;have hlt:=hp.lt;have m3:p.body.length<=maxLen:=by unfold maxLen;omega
 simp[Prs.av]at hrow;refine qac Tryz.func199 rfl [] [] (by kernel_rfl) (fun hB=>?_);simp[Tryz.ntmps199,Tryz.results199,List.replicate_succ,hrow,m3,hs0 hlt,hs1 hlt,hs2 hlt,hs3 hlt,hs4 hlt,hs5 hlt];exact qaP hB hlt (qbS b j {p with rbody:=p.body,state:=4}) rfl (hp.bnd (p1:={p with rbody:=p.body,state:=4}) rfl) (.raw _) (hQ _ (hp.put rfl) rfl (qbn hB b (hp.bnd (p1:={p with rbody:=p.body,state:=4}) rfl)))
theorem qnX:ql2 E b 198 qcL:=by
 intro K j p c n Q R hf hn hp hG hR;refine qbZ R (fun _=>False) Tryz.func198 rfl [10] [] (by kernel_rfl) (fun E' hpan hS h0 hF hB=>?_);have hrow:=hp.row;have hlt:=hp.lt;have hb:=hf.b;have hl:=hf.left;simp[Prs.av]at hrow;have m3:p.body.length<=maxLen:=by unfold maxLen;omega
 have m1:p.body.length<=140737488355327:=by omega
 have m4:p.body.length+1<=maxLen:=by unfold maxLen;omega
 have w1:IntKind.i64.wrap (p.left-1)=p.left-1:=wiz;unfold qcL at hG;dsimp only at hG;have h1:PB (K.set b (({p with body:=p.body++[c],bodied:=true,left:=p.left-1}:Prs).av b j)) b j {p with body:=p.body++[c],bodied:=true,left:=p.left-1}:=hp.put rfl;have hb1:=hp.bnd (p1:={p with body:=p.body++[c],bodied:=true,left:=p.left-1}) rfl;by_cases h:0<p.left-1
 ·have h2:1<p.left:=by omega
  simp[Tryz.ntmps198,Tryz.results198,List.replicate_succ,hrow,m1,m3,m4,w1,h2,hs0 hlt,hs1 hlt,hs2 hlt,hs3 hlt,hs4 hlt,hs5 hlt,qa0];exact qaP hB hlt (qbS b j {p with body:=p.body++[c],bodied:=true,left:=p.left-1}) rfl hb1 (qa2 hlt (some .counted)) (hG _ (some .counted) j _ (by rw[if_pos h]) h1 (fun h=> .inl ⟨h,rfl⟩) (OthP.put ..) (qbn hB b hb1))
 ·rw[if_neg h]at hG;have h2:¬1<p.left:=by omega
  simp[Tryz.ntmps198,Tryz.results198,List.replicate_succ,hrow,m1,m3,m4,w1,h2,hs0 hlt,hs1 hlt,hs2 hlt,hs3 hlt,hs4 hlt,hs5 hlt,qa0];refine qf1 E' (p:={p with body:=p.body++[c],bodied:=true,left:=p.left-1}) h1 (by simp;omega) (fun K1 g1 g2 g3=>?_);simp[qap,KP];subst g2;rw[List.set_set]at g1 g3⊢;exact qbu (v:= .raw .nilFunc) rfl (by simp) g3 (.raw _) (hG _ none j _ rfl g1 (fun h=> .inl ⟨h,rfl⟩) (OthP.put ..) g3)
theorem qld:ql2 E b 60 qbL:=by
 intro K j p c n Q R hf hn hp hG hR;refine qbZ R (fun _=>False) Tryz.func60 rfl [] [(2,[0,3])] (by kernel_rfl) (fun E' hpan hS h0 hF hB=>?_);by_cases h:c=10
 ·subst h;simp[Tryz.ntmps60,Tryz.results60,List.replicate_succ];exact qaw hB rfl (qaa _) (qa2 hp.lt (some .start)) (hG p (some .start) j K rfl hp (fun h=> .inl ⟨h,rfl⟩) (OthP.refl ..) hB)
 ·have hb:=(qaE c 10 (by decide) 10 rfl h).2;simp[Tryz.ntmps60,Tryz.results60,List.replicate_succ,hb];refine qal E' hp _ _ ?_;rw[hpan];exact hR p _ _ _ j K (by unfold qbL;rw[if_pos h];rfl) hp (fun h=> .inl ⟨h,rfl⟩) (OthP.refl ..) hB
theorem qkd(hE:SE E):ql2 E b 61 qbW:=by
 intro K j p c n Q R hf hn hp hG hR;refine qbZ R (fun _=>False) Tryz.func61 rfl [22] [(3,[0,3]),(9,[0,3])] (by kernel_rfl) (fun E' hpan hS h0 hF hB=>?_);have hrow:=hp.row;have hlt:=hp.lt;have ha:=hf.a;simp[Prs.av]at hrow;have m1:p.text.length<=140737488355327:=by omega
 have m2:(1:Nat)<=maxLen:=by unfold maxLen;omega
 have m3:p.text.length<=maxLen:=by unfold maxLen;omega
 have m4:p.text.length+1<=maxLen:=by unfold maxLen;omega
 unfold qbW at hG hR;have hc:(c.toNat:Int)<256:=by have:=c.toNat_lt;omega
 simp[Tryz.ntmps61,Tryz.results61,List.replicate_succ,m2,hc];refine qcb E' _ _ (hE.env h0 hF) [c] (by simp[cap]) ?_;by_cases ht:tokB [c]=true
 ·by_cases hl:p.text.length=24
  ·simp[qap,KP,ht,hrow,hl];refine qal E' hp _ _ ?_;rw[hpan];exact hR p _ _ _ j K (by rw[if_pos ht,if_pos hl];rfl) hp (fun h=> .inl ⟨h,rfl⟩) (OthP.refl ..) hB
  ·have hl':((p.text.length:Int)==24)=false:=by simpa using fun e:(p.text.length:Int)=24=>hl (by omega)
   simp[qap,KP,ht,hrow,hl',m1,m3,m4,hs0 hlt,hs1 hlt,hs2 hlt,hs3 hlt,hs4 hlt,hs5 hlt,qa0];have h1:PB (K.set b (({p with text:=p.text++[c]}:Prs).av b j)) b j {p with text:=p.text++[c]}:=hp.put rfl;exact qaP hB hlt (qbS b j {p with text:=p.text++[c]}) rfl (hp.bnd (p1:={p with text:=p.text++[c]}) rfl) (qa2 hlt (some .method)) (hG _ (some .method) j _ (by rw[if_pos ht,if_neg hl]) h1 (fun h=> .inl ⟨h,rfl⟩) (OthP.put ..) (qbn hB b (hp.bnd (p1:={p with text:=p.text++[c]}) rfl)))
 ·have ht':tokB [c]=false:=by simpa using ht
  by_cases h32:c=32
  ·subst h32;by_cases hne:p.text=[]
   ·simp[qap,KP,ht',hrow,hne];refine qal E' hp _ _ ?_;rw[hpan];exact hR p _ _ _ j K (by rw[if_neg (by simp[ht']),if_neg (fun h=>h.2 hne)];rfl) hp (fun h=> .inl ⟨h,rfl⟩) (OthP.refl ..) hB
   ·have hpos:0<p.text.length:=List.length_pos_iff.2 hne;simp[qap,KP,ht',hrow,hpos,m3,hs0 hlt,hs1 hlt,hs2 hlt,hs3 hlt,hs4 hlt,hs5 hlt];have h1:PB (K.set b (({p with meth:=p.text,text:=[]}:Prs).av b j)) b j {p with meth:=p.text,text:=[]}:=hp.put rfl;exact qaP hB hlt (qcr b j {p with meth:=p.text,text:=[]} rfl) rfl (hp.bnd (p1:={p with meth:=p.text,text:=[]}) rfl) (qa2 hlt (some .target)) (hG _ (some .target) j _ (by rw[if_neg (by simp[ht']),if_pos ⟨rfl,hne⟩]) h1 (fun h=> .inl ⟨h,rfl⟩) (OthP.put ..) (qbn hB b (hp.bnd (p1:={p with meth:=p.text,text:=[]}) rfl)))
  ·have hb:=(qaE c 32 (by decide) 32 rfl h32).1;simp[qap,KP,ht',hb,hrow];refine qal E' hp _ _ ?_;rw[hpan];exact hR p _ _ _ j K (by rw[if_neg (by simp[ht']),if_neg (fun h=>h32 h.1)];rfl) hp (fun h=> .inl ⟨h,rfl⟩) (OthP.refl ..) hB
theorem qrv(hE:SE E):ql2 E b 39 qdq:=by
 intro K j p c n Q R hf hn hp hG hR;refine qbZ R (fun _=>False) Tryz.func39 rfl [] [(4,[0,0,3,0])] (by kernel_rfl) (fun E' hpan hS h0 hF hB=>?_);have hrow:=hp.row;have hlt:=hp.lt;simp[Prs.av]at hrow;unfold qdq at hG hR;by_cases h13:c=13
 ·subst h13;simp[Tryz.ntmps39,Tryz.results39,List.replicate_succ];exact qaw hB rfl (qaa _) (qa2 hlt (some .startEnd)) (hG p (some .startEnd) j K (by rw[if_pos rfl]) hp (fun h=> .inl ⟨h,rfl⟩) (OthP.refl ..) hB)
 ·have hb:=(qaE c 13 (by decide) 13 rfl h13).1;have h1:PB (K.set b (({p with state:=1}:Prs).av b j)) b j {p with state:=1}:=hp.put rfl;have hlK:(K.set b (({p with state:=1}:Prs).av b j)).length=K.length:=by simp
  rw[if_neg h13]at hG hR;simp[Tryz.ntmps39,Tryz.results39,List.replicate_succ,hb,hrow,hs0 hlt,hs1 hlt,hs2 hlt,hs3 hlt,hs4 hlt,hs5 hlt];refine qkd E' (hE.env h0 hF) _ j {p with state:=1} c n _ _ {hf with} hn h1 (fun p1 nx j1 K1 g1 g2 g3 g4 g5=>?_) (fun p1 st err at_ j1 K1 g1 g2 g3 g4 g5=>?_)
  ·have g6:OthP K K1 b j p.dec.isSome:=⟨by simpa using g4.1,fun i hi h2 h3=>(g4.2 i (by simpa using hi) h2 h3).trans (zqF (Ne.symm h2))⟩
   have q:=hG p1 nx j1 K1 g1 g2 (fun h=>(g3 h).imp id (fun h=>by simpa using h)) g6 g5;have hK1:=g6.1;cases nx with
   |none=>
    simp[qap,KP,nxV,hS];exact⟨hK1,qbu rfl hK1 g5 (qa2 (N:=K1.length) g2.lt none) q⟩
   |some m=>
    simp[qap,KP,nxV,hS];exact⟨hK1,qbu rfl hK1 g5 (qa2 (N:=K1.length) g2.lt (some m)) q⟩
  ·rw[hpan];exact hR p1 st err at_ j1 K1 g1 g2 (fun h=>(g3 h).imp id (fun h=>by simpa using h)) ⟨by simpa using g4.1,fun i hi h2 h3=>(g4.2 i (by simpa using hi) h2 h3).trans (zqF (Ne.symm h2))⟩ g5
theorem qoG:ql2 E b 87 qb7:=by
 intro K j p c n Q R hf hn hp hG hR;refine qbZ R (fun _=>False) Tryz.func87 rfl [29] [(3,[0,3]),(9,[0,3])] (by kernel_rfl) (fun E' hpan hS h0 hF hB=>?_);have hrow:=hp.row;have hlt:=hp.lt;have ha:=hf.a;simp[Prs.av]at hrow;have m1:p.text.length<=140737488355327:=by omega
 have m3:p.text.length<=maxLen:=by unfold maxLen;omega
 have m4:p.text.length+1<=maxLen:=by unfold maxLen;omega
 unfold qb7 at hG hR;by_cases hr:33<=c.toNat/\c.toNat<=126
 ·have r1:(33:Int)<=c.toNat:=by omega
  have r2:(c.toNat:Int)<=126:=by omega
  by_cases hl:(p.text.length:Int)=p.lt
  ·simp[Tryz.ntmps87,Tryz.results87,List.replicate_succ,r1,r2,hrow,hl];refine qal E' hp _ _ ?_;rw[hpan];exact hR p _ _ _ j K (by rw[if_pos hr,if_pos hl];rfl) hp (fun h=> .inl ⟨h,rfl⟩) (OthP.refl ..) hB
  ·have hl':((p.text.length:Int)==p.lt)=false:=by simpa using hl
   simp[Tryz.ntmps87,Tryz.results87,List.replicate_succ,r1,r2,hrow,hl',m1,m3,m4,hs0 hlt,hs1 hlt,hs2 hlt,hs3 hlt,hs4 hlt,hs5 hlt,qa0];have h1:PB (K.set b (({p with text:=p.text++[c]}:Prs).av b j)) b j {p with text:=p.text++[c]}:=hp.put rfl;exact qaP hB hlt (qbS b j {p with text:=p.text++[c]}) rfl (hp.bnd (p1:={p with text:=p.text++[c]}) rfl) (qa2 hlt (some .target)) (hG _ (some .target) j _ (by rw[if_pos hr,if_neg hl]) h1 (fun h=> .inl ⟨h,rfl⟩) (OthP.put ..) (qbn hB b (hp.bnd (p1:={p with text:=p.text++[c]}) rfl)))
 ·by_cases h32:c=32
  ·subst h32;by_cases hne:p.text=[]
   ·simp[Tryz.ntmps87,Tryz.results87,List.replicate_succ,hrow,hne];refine qal E' hp _ _ ?_;rw[hpan];exact hR p _ _ _ j K (by rw[if_neg hr,if_neg (fun h=>h.2 hne)];rfl) hp (fun h=> .inl ⟨h,rfl⟩) (OthP.refl ..) hB
   ·have hpos:0<p.text.length:=List.length_pos_iff.2 hne;simp[Tryz.ntmps87,Tryz.results87,List.replicate_succ,hrow,hpos,m3,hs0 hlt,hs1 hlt,hs2 hlt,hs3 hlt,hs4 hlt,hs5 hlt];have h1:PB (K.set b (({p with targ:=p.text,text:=[]}:Prs).av b j)) b j {p with targ:=p.text,text:=[]}:=hp.put rfl;exact qaP hB hlt (qcr b j {p with targ:=p.text,text:=[]} rfl) rfl (hp.bnd (p1:={p with targ:=p.text,text:=[]}) rfl) (qa2 hlt (some .line)) (hG _ (some .line) j _ (by rw[if_neg hr,if_pos ⟨rfl,hne⟩]) h1 (fun h=> .inl ⟨h,rfl⟩) (OthP.put ..) (qbn hB b (hp.bnd (p1:={p with targ:=p.text,text:=[]}) rfl)))
  ·have hb:=(qaE c 32 (by decide) 32 rfl h32).1;have hr':¬((33:Int)<=c.toNat/\(c.toNat:Int)<=126):=by omega
   by_cases h33:(33:Int)<=c.toNat
   ·have h126:¬(c.toNat:Int)<=126:=fun h=>hr' ⟨h33,h⟩;simp[Tryz.ntmps87,Tryz.results87,List.replicate_succ,hb,hrow,h33,h126];refine qal E' hp _ _ ?_;rw[hpan];exact hR p _ _ _ j K (by rw[if_neg hr,if_neg (fun h=>h32 h.1)];rfl) hp (fun h=> .inl ⟨h,rfl⟩) (OthP.refl ..) hB
   ·simp[Tryz.ntmps87,Tryz.results87,List.replicate_succ,hb,hrow,h33];refine qal E' hp _ _ ?_;rw[hpan];exact hR p _ _ _ j K (by rw[if_neg hr,if_neg (fun h=>h32 h.1)];rfl) hp (fun h=> .inl ⟨h,rfl⟩) (OthP.refl ..) hB
theorem PB.putD{K:Hp}{b j:Nat}{p p1:Prs}{d d1:Dec}(h:PB K b j p)(hd:p.dec=some d)(hd1:p1.dec=some d1):PB ((K.set b (p1.av b j)).set j d1.av) b j p1:=by
 obtain⟨q1,q2⟩:=h.dec d hd;refine⟨by rw[zqF q1];exact zqO h.lt,fun e he=>?_⟩;rw[hd1]at he;cases he;exact⟨q1,zqO (by simp;exact(zqC.1 q2).1)⟩
theorem qnZ (hE : SE E) : ql2 E b 197 qbA := by
  intro K j p c n Q R hf hn hp hG hR
  refine qbZ R (fun _ => False) Tryz.func197 rfl [] [(12, [0, 0, 0, 0, 0, 0, 1]), (7, [0, 0, 3]), (9, [0, 0, 3]), (4, [0, 0, 3])] (by kernel_rfl) (fun E' hpan hS h0 hF hB => ?_)
  have hrow := hp.row
  have hlt := hp.lt
  simp [Prs.av] at hrow
  have hc : (c.toNat : Int) < 256 := by have := c.toNat_lt; omega
  have m2 : (1 : Nat) ≤ maxLen := by unfold maxLen; omega
  have h0p : PB (K.set b (({ p with bodied := true } : Prs).av b j)) b j { p with bodied := true } := hp.put rfl
  have hb0 := qbn hB b (hp.bnd (p1 := { p with bodied := true }) rfl)
  cases hd : p.dec with
  | none =>
    have hSS : qbA p c = .bad { p with bodied := true } 400 103 p.used := by unfold qbA; rw [hd]; rfl
    simp [Tryz.ntmps197, Tryz.results197, List.replicate_succ, m2, hc, hrow, hd, hs0 hlt, hs1 hlt, hs2 hlt, hs3 hlt, hs4 hlt, hs5 hlt]
    refine qsl E' _ _ [c] ?_
    simp [qap, KP]
    have e0 : [AV.int .i64 p.lt, .int .i64 p.lh, .int .i64 p.lf, .int .i64 p.lb, nxV b p.nx, .int .i64 p.state, .int .i64 p.used, .str p.meth, .str p.targ, .int .i64 p.major, .int .i64 p.minor, .sl true 2 (flds p.fields), .str p.rbody, .sl false 2 (flds p.trailers), .int .i64 p.fst_, .int .i64 p.ferr, .int .i64 p.fat, .sl true 1 (bts p.text), .str [], .int .i64 p.head, .int .i64 p.begin_, .int .i64 p.left, .sl true 1 (bts p.body), .ptr none, .bool true] = ({ p with bodied := true } : Prs).av b j := by simp [Prs.av, hd]
    rw [e0]
    refine qal E' h0p _ _ ?_
    rw [hpan]
    exact hR _ _ _ _ j _ hSS h0p (fun h => .inl ⟨h, rfl⟩) (OthP.put ..) hb0
  | some d =>
    obtain ⟨hjb, hjd⟩ := hp.dec d hd
    obtain ⟨ok, tot⟩ := hf.c d hd
    have hj' : (K.set b (({ p with bodied := true } : Prs).av b j))[j]? = some d.av := by rw [zqF (Ne.symm hjb)]; exact hjd
    have hj0 : ∀ x, (K.set b x)[j]? = some d.av := fun x => by rw [zqF (Ne.symm hjb)]; exact hjd
    simp [Tryz.ntmps197, Tryz.results197, List.replicate_succ, m2, hc, hrow, hd, hs0 hlt, hs1 hlt, hs2 hlt, hs3 hlt, hs4 hlt, hs5 hlt]
    have e0 : [AV.int .i64 p.lt, .int .i64 p.lh, .int .i64 p.lf, .int .i64 p.lb, nxV b p.nx, .int .i64 p.state, .int .i64 p.used, .str p.meth, .str p.targ, .int .i64 p.major, .int .i64 p.minor, .sl true 2 (flds p.fields), .str p.rbody, .sl false 2 (flds p.trailers), .int .i64 p.fst_, .int .i64 p.ferr, .int .i64 p.fat, .sl true 1 (bts p.text), .str [], .int .i64 p.head, .int .i64 p.begin_, .int .i64 p.left, .sl true 1 (bts p.body), .ptr (some (j, 0)), .bool true] = ({ p with bodied := true } : Prs).av b j := by simp [Prs.av, hd]
    rw [e0]
    by_cases hdn : d.done = true ∨ d.err ≠ 0
    · have hSS : qbA p c = .bad { p with bodied := true } 400 103 p.used := by unfold qbA; rw [hd]; exact if_pos hdn
      refine qpV E' _ _ j d hj' (hE.env h0 hF) [c] ok (by simp; omega) (fun h1 h2 => absurd hdn (by simp [h1, h2])) (fun _ => ?_)
      simp [qap, KP]
      refine qal E' h0p _ _ ?_
      rw [hpan]
      exact hR _ _ _ _ j _ hSS h0p (fun h => .inl ⟨h, rfl⟩) (OthP.put ..) hb0
    · have hSS := fun (d1 : Dec) (h1 : (qat d [c]).1 = d1) => show qbA p c = (let p1 : Prs := { p with bodied := true, dec := some d1 }
          if d1.err = 102 then qaA p1 413 102 else if d1.err = 104 then qaA p1 431 104 else if d1.err ≠ 0 then qaA p1 400 d1.err else if d1.done = false then .go p1 (some .chunked) else qdY { p1 with body := d1.body, trailers := d1.trailers }) by
        unfold qbA; rw [hd, ← h1]; exact if_neg hdn
      refine qpV E' _ _ j d hj' (hE.env h0 hF) [c] ok (by simp; omega) (fun _ _ => ?_) (fun h => absurd h hdn)
      have ok1 := (qjl [c] d ok).1
      have tot1 : (qat d [c]).1.total ≤ n + 1 := by
        have := (qjl [c] d ok).2
        have := qmP [c] d
        simp only [zqL, List.length_nil] at this
        omega
      obtain ⟨d1, hd1⟩ := exz ((qat d [c]).1)
      have hS1 := hSS d1 hd1
      clear hSS
      rw [hd1] at ok1 tot1 ⊢
      rw [hS1] at hG hR
      clear hS1 hd1
      dsimp only at hG hR
      obtain ⟨K2, hK2⟩ := exz ((K.set b (({ p with bodied := true } : Prs).av b j)).set j d1.av)
      rw [hK2]
      have hp2 : PB K2 b j { p with bodied := true, dec := some d1 } := by
        have := hp.putD (p1 := { p with bodied := true, dec := some d1 }) hd rfl
        have e1 : ({ p with bodied := true, dec := some d1 } : Prs).av b j = ({ p with bodied := true } : Prs).av b j := by simp [Prs.av, hd]
        rw [e1, hK2] at this
        exact this
      have ho2 : OthP K K2 b j p.dec.isSome := by
        rw [← hK2, hd]
        exact ⟨by simp, fun i hi h1 h2 => by rw [zqF (Ne.symm (h2 rfl)), zqF (Ne.symm h1)]⟩
      have hl2 : K2.length = K.length := by rw [← hK2]; simp
      have hlt2 : b < K2.length := hp2.lt
      have hb2 : BndH K2.length K2 := by
        rw [hl2, ← hK2]
        refine qfH (by have := hb0; rwa [List.length_set] at this) _ fun z hz => Dec.bnd d1 _ z hz
      have hrow2 := hp2.row
      simp [Prs.av] at hrow2
      have hd2 : K2[j]? = some d1.av := (hp2.dec d1 rfl).2
      have jj : ∀ (x : Prs), x.dec.isSome = true → (p.dec.isSome = true ∧ j = j) ∨ K.length ≤ j := fun _ _ => .inl ⟨by rw [hd]; rfl, rfl⟩
      clear hK2
      have bad : ∀ st err, qaA { p with bodied := true, dec := some d1 } st err = .bad { p with bodied := true, dec := some d1 } st err p.used := fun _ _ => rfl
      by_cases e102 : d1.err = 102
      · simp [qap, KP, e102]
        refine qal E' hp2 _ _ ?_
        rw [hpan]
        exact hR _ _ _ _ j K2 (by rw [if_pos e102]; rfl) hp2 (jj _) ho2 hb2
      · by_cases e104 : d1.err = 104
        · simp [qap, KP, e104]
          refine qal E' hp2 _ _ ?_
          rw [hpan]
          exact hR _ _ _ _ j K2 (by rw [if_neg e102, if_pos e104]; rfl) hp2 (jj _) ho2 hb2
        · have f102 : (d1.err == 102) = false := by simpa using e102
          have f104 : (d1.err == 104) = false := by simpa using e104
          by_cases e0' : d1.err = 0
          · simp [qap, KP, e0', hrow2]
            refine quR E' _ _ j d1 hd2 ?_
            by_cases hdd : d1.done = true
            · simp [qap, KP, hdd, hrow2]
              have lb1 : d1.body.length ≤ 1073741824 := by have := ok1.2.1; omega
              have lt1 : d1.trailers.length ≤ 1073741824 := by have := ok1.2.2.1; omega
              have mb : d1.body.length ≤ maxLen := by unfold maxLen; omega
              refine qu7 E' _ _ j d1 hd2 lb1 ?_
              simp [qap, KP, qah, hrow2, mb]
              refine qk8 E' _ _ j d1 hd2 lt1 ?_
              simp [qap, KP, qah, hrow2, hs0 hlt2, hs1 hlt2, hs2 hlt2, hs3 hlt2, hs4 hlt2, hs5 hlt2]
              have h3 : PB (K2.set b (({ p with bodied := true, dec := some d1, body := d1.body, trailers := d1.trailers } : Prs).av b j)) b j { p with bodied := true, dec := some d1, body := d1.body, trailers := d1.trailers } := hp2.put rfl
              refine qf1 E' (p := { p with bodied := true, dec := some d1, body := d1.body, trailers := d1.trailers }) h3 lb1 (fun K1 g1 g2 g3 => ?_)
              simp [qap, KP]
              subst g2
              rw [List.set_set] at g1 g3 ⊢
              exact qbu (v := .raw .nilFunc) rfl (by simp; omega) g3 (.raw _) (hG _ none j _ (by rw [if_neg e102, if_neg e104, if_neg (fun h => h e0'), if_neg (by simp [hdd])]; rfl) g1 (jj _) ⟨by simp; omega, fun i hi h1 h2 => by rw [zqF (Ne.symm h1)]; exact ho2.2 i hi h1 h2⟩ g3)
            · have hdd' : d1.done = false := by simpa using hdd
              simp [qap, KP, hdd', hrow2]
              exact qbu (v := nxV b (some .chunked)) rfl (by omega) hb2 (qa2 hlt2 (some .chunked)) (hG _ _ j K2 (by rw [if_neg e102, if_neg e104, if_neg (fun h => h e0'), if_pos hdd']) hp2 (jj _) ho2 hb2)
          · have f0 : (d1.err == 0) = false := by simpa using e0'
            simp [qap, KP, f0, f102, f104]
            refine qal E' hp2 _ _ ?_
            rw [hpan]
            exact hR _ _ _ _ j K2 (by rw [if_neg e102, if_neg e104, if_pos e0']; rfl) hp2 (jj _) ho2 hb2
theorem PX.nilTo{P:Program}{E:Env}{f:FuncId}{args:List AV}{H H1:Hp}{Q:AV->Hp->Prop}{R:Value->Hp->Prop}(h:PX P E f args H1 Q R)(hn:nilH H H1)(hl:H1.length=H.length):PX P E f args H Q R:=by
 refine⟨h.1,fun w β Rd Ow cargs hr hcell hsz hargs=>?_⟩;have s:=(S3.start (fr:=[]) (tmps:= #[]) hr rfl (by simp) (by simp)).nilTo (qbD _) hn
 have tr:∀{w' β' Rd' Ow' H' v c},Post E w β Rd Ow H1 w' β' Rd' Ow' H' v c->Post E w β Rd Ow H w' β' Rd' Ow' H' v c:=fun hp=>
  ⟨hp.rel,hp.bnd,hp.own,hp.ne,hp.hr,fun i hi=>hp.old i (by omega),by have:=hp.len;omega,hp.keep,fun b hb h1 h2=>hp.frame b hb (fun i hi=>h1 i (by omega)) h2,hp.os,hp.tape,hp.output,hp.size⟩
 refine(h.2 w β Rd Ow cargs s.hr hcell hsz (fun t x u hx hu=>by rw[hl];exact hargs t x u hx hu)).mono ?_;rintro e w' (⟨c,v,H',β',Rd',Ow',he,hq,hp⟩|⟨c,H',β',Rd',Ow',he,hq,hp⟩)
 ·exact .inl ⟨c,v,H',β',Rd',Ow',he,hq,tr hp⟩
 ·exact .inr ⟨c,H',β',Rd',Ow',he,hq,tr hp⟩
end
def qq5(E:Env)(b:Nat):Prop:=∀(K:Hp) (j:Nat) (p:Prs) (n:Nat) (Q:AV->Hp->Prop) (R:Value->Hp->Prop),fitP n p->n<=4194304->PB K b j p->
 (∀p1 nx j1 K1,qa7 p= .go p1 nx->PB K1 b j1 p1->(p1.dec.isSome=true->(p.dec.isSome=true/\j1=j)\/K.length<=j1)->OthP K K1 b j p.dec.isSome->BndH K1.length K1->Q (nxV b nx) K1)->
 (∀p1 st err at_ j1 K1,qa7 p= .bad p1 st err at_->PB K1 b j1 p1->(p1.dec.isSome=true->(p.dec.isSome=true/\j1=j)\/K.length<=j1)->OthP K K1 b j p.dec.isSome->BndH K1.length K1->R (qcC st err at_) K1)->
 PX Tryz.prog E 166 [.ptr (some (b,0))] K Q R
section
variable (E:Env){b:Nat}
theorem qpS(hE:SE E)(hH:∀E':Env,E'.w0=E.w0->E'.Fix=E.Fix->qq5 E' b):ql2 E b 145 qbg:=by
 intro K j p c n Q R hf hn hp hG hR;refine qbZ R (fun _=>False) Tryz.func145 rfl [60,125] [(2,[0,3]),(6,[0,3]),(13,[0,3,0]),(15,[0,3]),(18,[0,0,0,0,0,0,0,0,3])] (by kernel_rfl) (fun E' hpan hS h0 hF hB=>?_);have hrow:=hp.row;have hlt:=hp.lt;have ha:=hf.a;have hh:=hf.head;have hu:=hf.used;have hbg:=hf.beg;simp[Prs.av]at hrow;have m1:p.text.length<=140737488355327:=by omega
 have m3:p.text.length<=maxLen:=by unfold maxLen;omega
 have m4:p.text.length+1<=maxLen:=by unfold maxLen;omega
 have wh:IntKind.i64.wrap (p.head+1)=p.head+1:=wiz;by_cases h1:p.head=p.lh
 ·simp[Tryz.ntmps145,Tryz.results145,List.replicate_succ,hrow,h1];refine qal E' hp _ _ ?_;rw[hpan];exact hR p _ _ _ j K (by unfold qbg;rw[if_pos h1];rfl) hp (fun h=> .inl ⟨h,rfl⟩) (OthP.refl ..) hB
 ·have h1':(p.head==p.lh)=false:=by simpa using h1
  have hpb1:PB (K.set b (({p with head:=p.head+1}:Prs).av b j)) b j {p with head:=p.head+1}:=hp.put rfl;have hbd1:=qbn hB b (hp.bnd (p1:={p with head:=p.head+1}) rfl);have hc:(c.toNat:Int)<256:=by have:=c.toNat_lt;omega
  have bad:((p.text.getLast? ==some 13)≠(c==10))->R (qcC 400 111 p.used) (K.set b (({p with head:=p.head+1}:Prs).av b j)):=fun h=>hR {p with head:=p.head+1} _ _ _ j _ (by unfold qbg;rw[if_neg h1,if_pos h];rfl) hpb1 (fun h=> .inl ⟨h,rfl⟩) (OthP.put ..) hbd1
  have more:c≠10->((p.text.getLast? ==some 13)=(c==10))->∀Q',Q'=Q->Q' (nxV b (some .fields)) (K.set b (({p with head:=p.head+1,text:=p.text++[c]}:Prs).av b j)):=fun h10 h Q' e=>by
   rw[e];exact hG _ _ j _ (by unfold qbg;rw[if_neg h1,if_neg (by simp[h]),if_pos h10]) (hp.put rfl) (fun h=> .inl ⟨h,rfl⟩) (OthP.put ..) (qbn hB b (hp.bnd (p1:={p with head:=p.head+1,text:=p.text++[c]}) rfl))
  have m2:(1:Nat)<=maxLen:=by unfold maxLen;omega
  have fine:c≠10->((p.text.getLast? ==some 13)=(c==10))->BndH K.length (K.set b (({p with head:=p.head+1,text:=p.text++[c]}:Prs).av b j)):=fun _ _=>by have:=qbn hB b (hp.bnd (p1:={p with head:=p.head+1,text:=p.text++[c]}) rfl);rwa[List.length_set]at this
  by_cases hne:p.text=[]
  ·have hl0:p.text.length=0:=by rw[hne];rfl
   have g0:(p.text.getLast? ==some 13)=false:=by rw[hne];rfl
   by_cases h10:c=10
   ·subst h10;simp[Tryz.ntmps145,Tryz.results145,List.replicate_succ,hrow,h1',wh,hl0,hs0 hlt,hs1 hlt,hs2 hlt,hs3 hlt,hs4 hlt,hs5 hlt];refine qal E' (p:={p with head:=p.head+1}) hpb1 _ _ ?_;rw[hpan];exact bad (by rw[g0];decide)
   ·obtain⟨b1,b2⟩:=qaE c 10 (by decide) 10 rfl h10;have hcf:(c==10)=false:=by simpa using h10
    simp[Tryz.ntmps145,Tryz.results145,List.replicate_succ,hrow,h1',wh,hl0,b1,b2,m2,hs0 hlt,hs1 hlt,hs2 hlt,hs3 hlt,hs4 hlt,hs5 hlt,qa0];exact qaP hB hlt (qbS b j {p with head:=p.head+1,text:=p.text++[c]}) rfl (hp.bnd (p1:={p with head:=p.head+1,text:=p.text++[c]}) rfl) (qa2 hlt (some .fields)) (more h10 (by rw[g0,hcf]) Q rfl)
  ·have hpos:0<p.text.length:=List.length_pos_iff.2 hne;obtain⟨z,hz⟩:∃z,p.text.getLast? =some z:=⟨_,List.getLast?_eq_some_getLast hne⟩
   have hz1:p.text[p.text.length-1]? =some z:=by rw[<-List.getLast?_eq_getElem?];exact hz
   have hat:lat (bts p.text) (p.text.length-1)=some [.int .u8 (z.toNat:Int)]:=by simp[lat,bts,hz1]
   have q1:(0:Int)<=p.text.length-1:=by omega
   have q2:((p.text.length:Int)-1).toNat=p.text.length-1:=by omega
   have q3:p.text.length-1<p.text.length:=by omega
   have q4:(1:Int)<=p.text.length:=by omega
   have w2:IntKind.i64.wrap ((p.text.length:Int)-1)=p.text.length-1:=wiz;by_cases h13:z=13
   ·subst h13;have g0:(p.text.getLast? ==some 13)=true:=by rw[hz];rfl
    by_cases h10:c=10
    ·subst h10;have e10:bts p.text++[[.int .u8 10]]=bts (p.text++[10]):=qa0 p.text 10;have w3:IntKind.i64.wrap ((p.text.length:Int)+1-2)=((p.text.length-1:Nat):Int):=by rw[qak (by omega) (by omega)];omega
     have q5:p.text.length-1<=p.text.length+1:=by omega
     have q6:p.text.length<=p.text.length+1+1:=by omega
     have e11:List.take (p.text.length-1) (bts (p.text++[10]))=bts p.text.dropLast:=by
      rw[List.dropLast_eq_take];simp only[bts,<-List.map_take];rw[List.take_append_of_le_length (by omega)]
     have hld:p.text.dropLast.length=p.text.length-1:=List.length_dropLast
     have hnp:qbg p 10=(let p1:Prs:={p with head:=p.head+1,text:=[]}
       if p.text.dropLast=[]then qa7 p1 else if(p.fields.length:Int)=p.lf then qaA p1 431 113
       else if(qaR p.text.dropLast).2.2≠0 then .bad p1 400 (qaR p.text.dropLast).2.2 (p.begin_+(qaR p.text.dropLast).2.1)
       else .go {p1 with fields:=p.fields++[(qaR p.text.dropLast).1],begin_:=p.used+1} (some .fields)):=by
      unfold qbg;rw[if_neg h1,if_neg (by rw[g0];decide),if_neg (by decide)]
     by_cases hline:p.text.dropLast=[]
     ·simp[Tryz.ntmps145,Tryz.results145,List.replicate_succ,hrow,h1',wh,hpos,w2,q1,q2,q3,q4,hat,m1,m3,m4,e10,w3,q5,e11,hline,hs0 hlt,hs1 hlt,hs2 hlt,hs3 hlt,hs4 hlt,hs5 hlt];have hp1:PB (K.set b (({p with head:=p.head+1,text:=[]}:Prs).av b j)) b j {p with head:=p.head+1,text:=[]}:=hp.put rfl
      refine PX.nilTo (H1:=K.set b (({p with head:=p.head+1,text:=[]}:Prs).av b j)) ?_ (by
       have:=qc8 (K.set b _) b _ _ (hs4 hlt _) (qcr b j {p with head:=p.head+1,text:=[]} rfl)
       rwa[hs5 hlt]at this) (by simp)
      rw[if_pos hline]at hnp;have hft:fitP (n+1) {p with head:=p.head+1,text:=[]}:={hf with tr:=(by have:=hf.tr;simp only;omega),rb:=(by have:=hf.rb;simp only;omega),tx:=(fun _ x hx=>by simp at hx),ln:=(fun _ k x hx=>by simp at hx),a:=by simp only[List.length_nil];omega,b:=by have:=hf.b;simp only;omega,c:=fun d hd=>⟨(hf.c d hd).1,by have:=(hf.c d hd).2;omega⟩,head:=by simp only;omega,left:=by have:=hf.left;simp only;omega,used:=by simp only;omega,beg:=by simp only;omega}
      refine hH E' h0 hF _ j {p with head:=p.head+1,text:=[]} (n+1) _ _ hft (by omega) hp1 (fun p1 nx j1 K1 g1 g2 g3 g4 g5=>?_) (fun p1 st err at_ j1 K1 g1 g2 g3 g4 g5=>?_)
      ·have g6:OthP K K1 b j p.dec.isSome:=⟨by simpa using g4.1,fun i hi h2 h3=>(g4.2 i (by simpa using hi) h2 h3).trans (zqF (Ne.symm h2))⟩
       have q:=hG p1 nx j1 K1 (hnp.trans g1) g2 (fun h=>(g3 h).imp id (fun h=>by simpa using h)) g6 g5;have hK1:=g6.1;cases nx with
       |none=>
        simp[qap,KP,nxV,hS];exact⟨hK1,qbu rfl hK1 g5 (qa2 (N:=K1.length) g2.lt none) q⟩
       |some m=>
        simp[qap,KP,nxV,hS];exact⟨hK1,qbu rfl hK1 g5 (qa2 (N:=K1.length) g2.lt (some m)) q⟩
      ·rw[hpan];exact hR p1 st err at_ j1 K1 (hnp.trans g1) g2 (fun h=>(g3 h).imp id (fun h=>by simpa using h)) ⟨by simpa using g4.1,fun i hi h2 h3=>(g4.2 i (by simpa using hi) h2 h3).trans (zqF (Ne.symm h2))⟩ g5
     ·have hie:p.text.dropLast.isEmpty=false:=by simpa using hline
      have hp1:PB (K.set b (({p with head:=p.head+1,text:=[]}:Prs).av b j)) b j {p with head:=p.head+1,text:=[]}:=hp.put rfl;have hbd2:=qbn hB b (hp.bnd (p1:={p with head:=p.head+1,text:=[]}) rfl)
      have hnil:∀l,nilL l (({p with head:=p.head+1,text:=[]}:Prs).av b j)->nilH (K.set b l) (K.set b (({p with head:=p.head+1,text:=[]}:Prs).av b j)):=fun l hl=>by
       have:=qc8 (K.set b l) b _ _ (hs4 hlt _) hl;rwa[hs5 hlt]at this
      rw[if_neg hline]at hnp;by_cases hmany:(p.fields.length:Int)=p.lf
      ·rw[if_pos hmany]at hnp;simp[Tryz.ntmps145,Tryz.results145,List.replicate_succ,hrow,h1',wh,hpos,w2,q1,q2,q3,q4,hat,m1,m3,m4,e10,w3,q5,e11,hie,hmany,hs0 hlt,hs1 hlt,hs2 hlt,hs3 hlt,hs4 hlt,hs5 hlt];refine PX.nilTo (H1:=K.set b (({p with head:=p.head+1,text:=[]}:Prs).av b j)) ?_ (hnil _ (qcr b j {p with head:=p.head+1,text:=[]} rfl)) (by simp);refine qal E' hp1 _ _ ?_;rw[hpan];exact hR _ _ _ _ j _ hnp hp1 (fun h=> .inl ⟨h,rfl⟩) (OthP.put ..) hbd2
      ·have hmany':((p.fields.length:Int)==p.lf)=false:=by simpa using hmany
       rw[if_neg hmany]at hnp;simp[Tryz.ntmps145,Tryz.results145,List.replicate_succ,hrow,h1',wh,hpos,w2,q1,q2,q3,q4,hat,m1,m3,m4,e10,w3,q5,e11,hie,hmany',hs0 hlt,hs1 hlt,hs2 hlt,hs3 hlt,hs4 hlt,hs5 hlt];obtain⟨L,hL⟩:=exz (qaR p.text.dropLast);have hfit:=qmx (l:=p.text.dropLast);refine qi2 E' _ _ (hE.env h0 hF) p.text.dropLast (by rw[hld];simp only[cap];omega) ?_;rw[hL]at hnp hfit⊢;rw[hld]at hfit;have hat_:0<=L.2.1/\L.2.1<=16777216:=by rw[<-hL];exact quv _ (by rw[hld];omega)
       obtain⟨F,at_,er⟩:=L;simp only at hat_;have wa:∀z:Int,z=p.begin_+at_->-9223372036854775808<=z->z<=9223372036854775807->IntKind.i64.wrap (p.begin_+at_)=p.begin_+at_:=fun z hz a1 a2=>qak (by omega) (by omega);by_cases her:er=0
       ·subst her;have h2:=hfit rfl;simp only at h2 hnp;rw[if_neg (by simp)]at hnp;have m5:p.fields.length<=140737488355327:=by omega
        have m6:p.fields.length<=maxLen:=by unfold maxLen;omega
        have m7:p.fields.length+1<=maxLen:=by unfold maxLen;omega
        have wu:IntKind.i64.wrap (p.used+1)=p.used+1:=wiz;have m8:(p.fields.length+1)*32<=140737488355328:=by omega
        simp[qap,KP,hs0 hlt,hs1 hlt,hs2 hlt,hs3 hlt,hs4 hlt,hs5 hlt,m2,m5,m6,m7,m8,wu,qej]
        exact qe3 hB hlt (qcr b j {p with head:=p.head+1,text:=[],fields:=p.fields++[F],begin_:=p.used+1} rfl) rfl (hp.bnd (p1:={p with head:=p.head+1,text:=[],fields:=p.fields++[F],begin_:=p.used+1}) rfl) (qa2 hlt (some .fields))
         (hG _ _ j _ hnp (hp.put rfl) (fun h=> .inl ⟨h,rfl⟩) (OthP.put ..) (qbn hB b (hp.bnd (p1:={p with head:=p.head+1,text:=[],fields:=p.fields++[F],begin_:=p.used+1}) rfl)))
       ·have her':(er==0)=false:=by simpa using her
        have her2:(er !=0)=true:=by simpa using her
        simp only at hnp;rw[if_pos her]at hnp
        have hwa:IntKind.i64.wrap (p.begin_+at_)=p.begin_+at_:=by
         have:=hat_;exact qak (by omega) (by omega)
        simp[qap,KP,her',her2,hwa,hs0 hlt,hs1 hlt,hs2 hlt,hs3 hlt,hs4 hlt,hs5 hlt]
        have hnA:=fun(J:Hp) (l:List AV) (hl:nilL l (({p with head:=p.head+1,text:=[]}:Prs).av b j))=>show nilH (K.set b l++J) (K.set b (({p with head:=p.head+1,text:=[]}:Prs).av b j)++J)by
         have:=qc8 (K.set b l++J) b _ _ (hs1 hlt _ _) hl;rwa[hs2 hlt]at this
        refine PX.nilTo (H1:=K.set b (({p with head:=p.head+1,text:=[]}:Prs).av b j)++[[.str F.name,.str F.value]]) ?_ (hnA _ _ (qcr b j {p with head:=p.head+1,text:=[]} rfl)) (by simp);refine qpZ E' _ _ _ _ ?_;rw[hpan]
        have hpa:PB (K.set b (({p with head:=p.head+1,text:=[]}:Prs).av b j)++[[.str F.name,.str F.value]]) b j {p with head:=p.head+1,text:=[]}:=
         ⟨hs1 hlt _ _,fun d hd=>⟨(hp1.dec d hd).1,by rw[zqA (zqC.1 (hp1.dec d hd).2).1];exact(hp1.dec d hd).2⟩⟩
        refine hR _ _ _ _ j _ hnp hpa (fun h=> .inl ⟨h,rfl⟩) ⟨by simp,fun i hi h1 _=>by rw[zqA (by simpa using hi),zqF (Ne.symm h1)]⟩ ?_;have hbb:=qf5 (M:=K.length+1) hbd2 (by simp)
        have:=qeE hbb (J:=[[.str F.name,.str F.value]]) (fun X hX y hy=>by
         simp only[List.mem_cons,List.not_mem_nil,or_false]at hX;subst hX;simp at hy
         rcases hy with rfl|rfl<;>exact .str _)
        simpa using this
    ·obtain⟨b1,b2⟩:=qaE c 10 (by decide) 10 rfl h10;have hcf:(c==10)=false:=by simpa using h10
     simp[Tryz.ntmps145,Tryz.results145,List.replicate_succ,hrow,h1',wh,hpos,w2,q1,q2,q3,q4,hat,b1,b2,hs0 hlt,hs1 hlt,hs2 hlt,hs3 hlt,hs4 hlt,hs5 hlt];refine qal E' (p:={p with head:=p.head+1}) hpb1 _ _ ?_;rw[hpan];exact bad (by rw[g0,hcf];decide)
   ·obtain⟨c1,c2⟩:=qaE z 13 (by decide) 13 rfl h13;have g0:(p.text.getLast? ==some 13)=false:=by rw[hz];simpa using h13
    by_cases h10:c=10
    ·subst h10;simp[Tryz.ntmps145,Tryz.results145,List.replicate_succ,hrow,h1',wh,hpos,w2,q1,q2,q3,q4,hat,c1,c2,hs0 hlt,hs1 hlt,hs2 hlt,hs3 hlt,hs4 hlt,hs5 hlt];refine qal E' (p:={p with head:=p.head+1}) hpb1 _ _ ?_;rw[hpan];exact bad (by rw[g0];decide)
    ·obtain⟨b1,b2⟩:=qaE c 10 (by decide) 10 rfl h10;have hcf:(c==10)=false:=by simpa using h10
     simp[Tryz.ntmps145,Tryz.results145,List.replicate_succ,hrow,h1',wh,hpos,w2,q1,q2,q3,q4,hat,b1,b2,c1,c2,m1,m3,m4,hs0 hlt,hs1 hlt,hs2 hlt,hs3 hlt,hs4 hlt,hs5 hlt,qa0];exact qaP hB hlt (qbS b j {p with head:=p.head+1,text:=p.text++[c]}) rfl (hp.bnd (p1:={p with head:=p.head+1,text:=p.text++[c]}) rfl) (qa2 hlt (some .fields)) (more h10 (by rw[g0,hcf]) Q rfl)
end
def newP(lt lh lf lb:Int):Prs:={lt:=lt,lh:=lh,lf:=lf,lb:=lb,nx:=some .start,state:=0,used:=0,meth:=[],targ:=[],major:=0,minor:=0,fields:=[],rbody:=[],trailers:=[],fst_:=0,ferr:=0,fat:=0,text:=[],head:=0,begin_:=0,left:=0,body:=[],dec:=none,bodied:=false}
def adv(p:Prs)(nx:Option Md):Prs:={p with nx:=nx,used:=p.used+1}
theorem qb5{p p1:Prs}{m:Md}{c:UInt8}{nx:Option Md}(r:List UInt8)(h:p.nx=some m)(hs:qba p m c= .go p1 nx):qao p (c::r)=((qao (adv p1 nx) r).1,(qao (adv p1 nx) r).2+1):=by
 simp only[qao,h,hs];rfl
theorem qch{p p1:Prs}{m:Md}{c:UInt8}{st err at_:Int}(r:List UInt8)(h:p.nx=some m)(hs:qba p m c= .bad p1 st err at_):qao p (c::r)=((SR.bad p1 st err at_).prs,1):=by
 simp only[qao,h,hs]
theorem qbk{p:Prs}(s:List UInt8)(h:p.nx=none):qao p s=(p,0):=by
 cases s with
 |nil=>rfl
 |cons c r=>simp only[qao,h]
theorem qhu(p:Prs):qao p []=(p,0):=rfl
theorem qbN(a b:List UInt8):∀p:Prs,qao p (a++b)=((qao (qao p a).1 b).1,(qao p a).2+(qao (qao p a).1 b).2):=by
 induction a with
 |nil=>intro p;simp[qhu]
 |cons c a ih=>
  intro p;cases h:p.nx with
  |none=>
   rw[qbk _ h,qbk (c::a) h,qbk b h];rfl
  |some m=>
   cases hs:qba p m c with
   |go p1 nx=>
    rw[List.cons_append,qb5 _ h hs,qb5 a h hs,ih];simp only;rw[Nat.add_right_comm]
   |bad p1 st err at_=>
    rw[List.cons_append,qch _ h hs,qch a h hs];have:(SR.bad p1 st err at_).prs.nx=none:=rfl;rw[qbk b this];rfl
def Fd(q:Prs)(s:List UInt8)(p:Prs)(i:Nat):Prop:=i<=s.length/\qao q s=((qao p (s.drop i)).1,(qao p (s.drop i)).2+i)
theorem Fd.refl(q:Prs)(s:List UInt8):Fd q s q 0:=⟨Nat.zero_le _,rfl⟩
theorem Fd.go{q p p1:Prs}{s:List UInt8}{i:Nat}{c:UInt8}{m:Md}{nx:Option Md}(h:Fd q s p i)(hc:s[i]? =some c)(hm:p.nx=some m)(hs:qba p m c= .go p1 nx):Fd q s (adv p1 nx) (i+1):=by
 have hlt:=(zqC.1 hc).1;refine⟨hlt,?_⟩;rw[h.2,qay s i c hc,qb5 _ hm hs];simp only;rw[Nat.add_assoc,Nat.add_comm 1 i]
theorem Fd.bad{q p p1:Prs}{s:List UInt8}{i:Nat}{c:UInt8}{m:Md}{st err at_:Int}(h:Fd q s p i)(hc:s[i]? =some c)(hm:p.nx=some m)(hs:qba p m c= .bad p1 st err at_):qao q s=((SR.bad p1 st err at_).prs,i+1):=by
 rw[h.2,qay s i c hc,qch _ hm hs,Nat.add_comm]
theorem Fd.fin{q p:Prs}{s:List UInt8}(h:Fd q s p s.length):qao q s=(p,s.length):=by
 rw[h.2,List.drop_length,qhu,Nat.zero_add]
def stC(e:Int):Int:=if e=102 then 413 else if e=104 then 431 else 400
theorem qnN(d:Dec)(c:UInt8):qat d [c]=(feed1 d c,1):=by
 rw[qbU];split
 ·rfl
 ·rfl
theorem qn0{p:Prs}{d:Dec}(c:UInt8)(hd:p.dec=some d)(hg:goD d):
  qbA p c=if(feed1 d c).err≠0 then .bad {p with bodied:=true,dec:=some (feed1 d c)} (stC (feed1 d c).err) (feed1 d c).err p.used
   else if(feed1 d c).done=false then .go {p with bodied:=true,dec:=some (feed1 d c)} (some .chunked)
   else .go {p with bodied:=true,dec:=some (feed1 d c),body:=(feed1 d c).body,trailers:=(feed1 d c).trailers,rbody:=(feed1 d c).body,state:=4} none:=by
 unfold qbA;rw[hd];simp only[hg.1,hg.2,qnN];rw[if_neg (by simp)];unfold qaA qdY stC;by_cases h1:(feed1 d c).err=102
 ·rw[if_pos h1,if_pos h1,if_pos (by rw[h1];decide)];rw[h1]
 ·rw[if_neg h1,if_neg h1];by_cases h2:(feed1 d c).err=104
  ·rw[if_pos h2,if_pos h2,if_pos (by rw[h2];decide)];rw[h2]
  ·rw[if_neg h2,if_neg h2]
theorem qf3:∀(r:List UInt8) (p:Prs) (d:Dec),p.nx=some .chunked->p.dec=some d->goD d->
  ((qat d r).1.err≠0->qao p r=({p with bodied:=true,dec:=some (qat d r).1,nx:=none,state:=5,used:=p.used+(qat d r).2,fst_:=stC (qat d r).1.err,ferr:=(qat d r).1.err,fat:=p.used+(qat d r).2-1},(qat d r).2))/\
  ((qat d r).1.err=0->(qat d r).1.done=true->qao p r=({p with bodied:=true,dec:=some (qat d r).1,body:=(qat d r).1.body,trailers:=(qat d r).1.trailers,rbody:=(qat d r).1.body,state:=4,nx:=none,used:=p.used+(qat d r).2},(qat d r).2))/\
  ((qat d r).1.err=0->(qat d r).1.done=false->qao p r=({p with bodied:=p.bodied||!r.isEmpty,dec:=some (qat d r).1,used:=p.used+r.length},r.length))
 |[],p,d,hn,hd,hg=>by
  simp only[qat,qao];refine⟨fun h=>absurd hg.2 h,(fun _ h=>by rw[hg.1]at h;cases h),fun _ _=>?_⟩;cases p;simp at hd⊢;exact hd
 |c::r,p,d,hn,hd,hg=>by
  have hs:qba p .chunked c=qbA p c:=rfl;rw[qn0 c hd hg]at hs;rw[qbU];by_cases h1:(feed1 d c).err≠0
  ·rw[if_pos h1]at hs;rw[if_pos (.inr h1)];refine⟨fun _=>?_,fun h=>absurd h h1,fun h=>absurd h h1⟩;rw[qch r hn hs];simp only[SR.prs,Prod.mk.injEq,Prs.mk.injEq,true_and,and_true];exact⟨by omega,by omega⟩
  ·rw[if_neg h1]at hs;have h1':(feed1 d c).err=0:=by simpa using h1
   cases h2:(feed1 d c).done with
   |true=>
    rw[if_neg (by rw[h2];simp)]at hs;rw[if_pos (.inl rfl)];refine⟨fun h=>absurd h1' h,fun _ _=>?_,(fun _ h=>by rw[h2]at h;cases h)⟩;rw[qb5 r hn hs,qbk r rfl];rfl
   |false=>
    rw[if_pos h2]at hs;rw[if_neg (by rw[h1'];simp)];have hg1:goD (feed1 d c):=⟨h2,h1'⟩
    obtain⟨i1,i2,i3⟩:=qf3 r (adv {p with bodied:=true,dec:=some (feed1 d c)} (some .chunked)) (feed1 d c) rfl rfl hg1;rw[qb5 r hn hs];refine⟨fun h=>?_,fun h h'=>?_,fun h h'=>?_⟩
    ·rw[i1 h];simp only[adv,Prod.mk.injEq,Prs.mk.injEq,true_and,and_true];exact⟨by omega,by omega⟩
    ·rw[i2 h h'];simp only[adv,Prod.mk.injEq,Prs.mk.injEq,true_and,and_true];omega
    ·rw[i3 h h'];simp only[adv,Prod.mk.injEq,Prs.mk.injEq,true_and,and_true,zqL,List.isEmpty_cons,Bool.not_false,Bool.or_true,Bool.true_or,hn];omega
theorem qdc:∀(r:List UInt8) (p:Prs),p.nx=some .counted->0<p.left->
  ((r.length:Int)<p.left->qao p r=({p with body:=p.body++r,bodied:=p.bodied||!r.isEmpty,left:=p.left-r.length,used:=p.used+r.length},r.length))/\
  (p.left<=r.length->qao p r=({p with body:=p.body++r.take p.left.toNat,bodied:=true,left:=0,rbody:=p.body++r.take p.left.toNat,state:=4,nx:=none,used:=p.used+p.left},p.left.toNat))
 |[],p,hn,hl=>by
  refine⟨fun _=>?_,fun h=>by simp at h;omega⟩;cases p;simp[qao]
 |c::r,p,hn,hl=>by
  have hs:qba p .counted c=qcL p c:=rfl;unfold qcL qdY at hs;dsimp only at hs;by_cases h1:0<p.left-1
  ·rw[if_pos h1]at hs;obtain⟨i1,i2⟩:=qdc r (adv {p with body:=p.body++[c],bodied:=true,left:=p.left-1} (some .counted)) rfl h1;rw[qb5 r hn hs];simp only[zqL];refine⟨fun h=>?_,fun h=>?_⟩
   ·rw[i1 (by simp only[adv];omega)];simp only[adv,Prod.mk.injEq,Prs.mk.injEq,true_and,and_true,List.isEmpty_cons,Bool.not_false,Bool.or_true,Bool.true_or,hn,List.append_assoc,List.cons_append,List.nil_append];exact⟨by omega,by omega⟩
   ·rw[i2 (by simp only[adv];omega)];have e:p.left.toNat=(p.left-1).toNat+1:=by omega
    simp only[adv,Prod.mk.injEq,Prs.mk.injEq,true_and,and_true,List.append_assoc,List.cons_append,List.nil_append,e,List.take_succ_cons];omega
  ·rw[if_neg h1]at hs;have e:p.left=1:=by omega
   refine⟨fun h=>by simp at h;omega,fun _=>?_⟩;rw[qb5 r hn hs,qbk r rfl,e];simp[adv,e]
def expL:List UInt8:=[69,120,112,101,99,116]
def expB(l:List Fld):Bool:=!(allB l expL).isEmpty
structure Rq where
 meth:List UInt8
 targ:List UInt8
 major:Int
 minor:Int
 fields:List Fld
 body:List UInt8
 trailers:List Fld
def Rq.zero:Rq:=⟨[],[],0,0,[],[],[]⟩
def Rq.avs(r:Rq):List AV:=[.str r.meth,.str r.targ,.int .i64 r.major,.int .i64 r.minor,.sl false 2 (flds r.fields),.str r.body,.sl false 2 (flds r.trailers)]
def Rq.av(r:Rq):AV:= .agg r.avs
structure Lk where
 state:Int
 used:Int
 head:Bool
 r:Rq
 waits:Bool
 st:Int
 err:Int
 at_:Int
def Lk.av(x:Lk):AV:= .agg ([.int .i64 x.state,.int .i64 x.used,.bool x.head]++x.r.avs++[.bool x.waits,.int .i64 x.st,.int .i64 x.err,.int .i64 x.at_])
def Prs.rq(p:Prs):Rq:=⟨p.meth,p.targ,p.major,p.minor,p.fields,p.rbody,p.trailers⟩
def Prs.rqH(p:Prs):Rq:=⟨p.meth,p.targ,p.major,p.minor,p.fields,[],[]⟩
def Prs.waits(p:Prs):Bool:=decide (p.state=3)&&!p.bodied&&!decide (p.minor=0)&&expB p.fields
def qaX(p:Prs):Lk:=
 if p.state=5 then⟨5,p.used,false,.zero,false,p.fst_,p.ferr,p.fat⟩
 else if p.state=4 then⟨4,p.used,true,p.rq,false,0,0,0⟩
 else if p.state=3 then⟨3,p.used,true,p.rqH,p.waits,0,0,0⟩
 else⟨p.state,p.used,false,.zero,false,0,0,0⟩
theorem qlB(p:Prs):(qaX p).state=p.state:=by
 unfold qaX
 repeat' split
 all_goals simp_all
theorem qkG:∀(s:List UInt8) (p:Prs) (n:Nat),fitP n p->(qao p s).1.state≠5->fitP (n+(qao p s).2) (qao p s).1
 |[],p,n,h,_=>by simpa[qao]using h
 |c::r,p,n,hf,h5=>by
  cases h:p.nx with
  |none=>rw[qbk _ h];exact hf
  |some m=>
   cases hs:qba p m c with
   |go p1 nx=>
    rw[qb5 r h hs]at h5⊢;have hg:=(qtj hf h hs).1;have:=qkG r (adv p1 nx) (n+1) hg h5;simp only;rw[show n+((qao (adv p1 nx) r).2+1)=n+1+(qao (adv p1 nx) r).2 by omega];exact this
   |bad p1 st err at_=>
    rw[qch r h hs]at h5;exact absurd rfl h5
theorem qrU{lt lh lf lb:Int}(h1:1<=lt/\lt<=65536)(h2:2<=lh/\lh<=1048576)(h3:0<=lf/\lf<=100)(h4:0<=lb/\lb<=1073741824):fitP 0 (newP lt lh lf lb):=
 ⟨by simp[newP,fsz],by simp[newP],fun d hd=>by simp[newP]at hd,h1,h2,h3,h4,by simp[newP],by simp[newP],by simp[newP],by simp[newP],(fun c hc=>by simp[newP]at hc),(fun e=>by simp[newP]at e),(fun e=>by simp[newP]at e),by simp[newP],by simp[newP]⟩
theorem PB.app{K:Hp}{b j:Nat}{p:Prs}(h:PB K b j p)(J:Hp):PB (K++J) b j p:=
 ⟨by rw[zqA h.lt];exact h.row,fun d hd=>by
  obtain⟨q1,q2⟩:=h.dec d hd
  exact⟨q1,by rw[zqA (zqC.1 q2).1];exact q2⟩⟩
theorem OthP.app(K:Hp)(b j:Nat)(d:Bool)(J:Hp):OthP K (K++J) b j d:=⟨by simp,fun i hi _ _=>zqA hi⟩
section
variable (E:Env){K:Hp}{b j:Nat}{p:Prs}(Q:AV->Hp->Prop)
theorem qtf(hp:PB K b j p)(hQ:Q (.bool (decide (p.minor=0))) K):PC Tryz.prog E 44 [.ptr (some (b,0))] K Q:=by
 have hrow:=hp.row;simp[Prs.av]at hrow;refine qac Tryz.func44 rfl [] [] (by kernel_rfl) (fun hB=>?_);simp[Tryz.ntmps44,Tryz.results44,List.replicate_succ,hrow];exact aQz hB (h6:=hQ)
theorem qgo(hp:PB K b j p)(hl:fsz p.fields+p.fields.length<=16777216)(hQ:Q (.bool (expB p.fields)) K):PC Tryz.prog E 45 [.ptr (some (b,0))] K Q:=by
 have hrow:=hp.row;simp[Prs.av]at hrow;refine qac Tryz.func45 rfl [] [] (by kernel_rfl) (fun hB=>?_);simp[Tryz.ntmps45,Tryz.results45,List.replicate_succ,hrow];refine qkV E _ _ p.fields [69,120,112,101,99,116] (by omega) (by decide) ?_;unfold expB expL at hQ;cases hl:allB p.fields [69,120,112,101,99,116]with
 |nil=>
  rw[hl]at hQ;simp[strs];exact aQz hB (h6:=hQ)
 |cons a r=>
  rw[hl]at hQ;have g:(0:Int)<(r.length:Int)+1:=by omega
  simp[strs,g];exact aQz hB (h6:=hQ)
end
section
variable {K:Hp}{b j:Nat}{p:Prs}{Q:AV->Hp->Prop}{P:Program}{rs:List ResultVar}{fr:List AV}
theorem qdU(hp:PB K b j p)(hB:BndH K.length K)(hlt:b<K.length){ln:Int}
  (hG:PB (K.set b (({p with state:=3,dec:=some (newD p.lb p.lh p.lf)}:Prs).av b (K.length+1))++[[AV.int .i64 2,AV.int .i64 ln],(newD p.lb p.lh p.lf).av]) b (K.length+1) {p with state:=3,dec:=some (newD p.lb p.lh p.lf)}->
   (true=true->(p.dec.isSome=true/\K.length+1=j)\/K.length<=K.length+1)->OthP K (K.set b (({p with state:=3,dec:=some (newD p.lb p.lh p.lf)}:Prs).av b (K.length+1))++[[AV.int .i64 2,AV.int .i64 ln],(newD p.lb p.lh p.lf).av]) b j p.dec.isSome->
   BndH (K.set b (({p with state:=3,dec:=some (newD p.lb p.lh p.lf)}:Prs).av b (K.length+1))++[[AV.int .i64 2,AV.int .i64 ln],(newD p.lb p.lh p.lf).av]).length (K.set b (({p with state:=3,dec:=some (newD p.lb p.lh p.lf)}:Prs).av b (K.length+1))++[[AV.int .i64 2,AV.int .i64 ln],(newD p.lb p.lh p.lf).av])->
   Q (nxV b (some .chunked)) (K.set b (({p with state:=3,dec:=some (newD p.lb p.lh p.lf)}:Prs).av b (K.length+1))++[[AV.int .i64 2,AV.int .i64 ln],(newD p.lb p.lh p.lf).av])) (h1:ares P fr (K.set b (({p with state:=3,dec:=some (newD p.lb p.lh p.lf)}:Prs).av b (K.length+1))++[[AV.int .i64 2,AV.int .i64 ln],(newD p.lb p.lh p.lf).av]) rs=some (nxV b (some .chunked)):=by rfl):
  qci P rs K.length Q .ret fr (K.set b (({p with state:=3,dec:=some (newD p.lb p.lh p.lf)}:Prs).av b (K.length+1))++[[AV.int .i64 2,AV.int .i64 ln],(newD p.lb p.lh p.lf).av]):=by
 have hbd:BndH (K.length+2) (K.set b (({p with state:=3,dec:=some (newD p.lb p.lh p.lf)}:Prs).av b (K.length+1))++[[AV.int .i64 2,AV.int .i64 ln],(newD p.lb p.lh p.lf).av]):=by
  refine qeE (qfH (qf5 hB (by omega)) _ ?_) ?_
  ·exact Prs.bnd (by omega) (fun _ _=>by omega)
  ·intro X hX y hy;simp only[List.mem_cons,List.not_mem_nil,or_false]at hX;rcases hX with rfl|rfl
   ·simp at hy;rcases hy with rfl|rfl<;>exact .int _ _
   ·exact Dec.bnd _ _ y hy
 have hlen:(K.set b (({p with state:=3,dec:=some (newD p.lb p.lh p.lf)}:Prs).av b (K.length+1))++[[AV.int .i64 2,AV.int .i64 ln],(newD p.lb p.lh p.lf).av]).length=K.length+2:=by simp
 rw[<-hlen]at hbd;refine qbu (v:=nxV b (some .chunked)) h1 (by rw[hlen];omega) hbd (qa2 (by rw[hlen];omega) (some .chunked)) (hG ⟨hs1 hlt _ _,fun d hd=>?_⟩ (fun _=> .inr (by omega)) ⟨by rw[hlen];omega,fun i hi h1 _=>by rw[zqA (by simpa using hi),zqF (Ne.symm h1)]⟩ hbd);cases hd;exact⟨by omega,by rw[zqB (by simp)];simp⟩
theorem qdT(hp:PB K b j p)(hB:BndH K.length K)(hlt:b<K.length)(kd ln:Int)
  (hG:PB (K.set b (({p with state:=3,left:=ln}:Prs).av b j)++[[AV.int .i64 kd,AV.int .i64 ln]]) b j {p with state:=3,left:=ln}->
   (p.dec.isSome=true->(p.dec.isSome=true/\j=j)\/K.length<=j)->OthP K (K.set b (({p with state:=3,left:=ln}:Prs).av b j)++[[AV.int .i64 kd,AV.int .i64 ln]]) b j p.dec.isSome->
   BndH (K.set b (({p with state:=3,left:=ln}:Prs).av b j)++[[AV.int .i64 kd,AV.int .i64 ln]]).length (K.set b (({p with state:=3,left:=ln}:Prs).av b j)++[[AV.int .i64 kd,AV.int .i64 ln]])->
   Q (nxV b (some .counted)) (K.set b (({p with state:=3,left:=ln}:Prs).av b j)++[[AV.int .i64 kd,AV.int .i64 ln]])) (h1:ares P fr (K.set b (({p with state:=3,left:=ln}:Prs).av b j)++[[AV.int .i64 kd,AV.int .i64 ln]]) rs=some (nxV b (some .counted)):=by rfl):
  qci P rs K.length Q .ret fr (K.set b (({p with state:=3,left:=ln}:Prs).av b j)++[[AV.int .i64 kd,AV.int .i64 ln]]):=by
 have hbd:BndH (K.length+1) (K.set b (({p with state:=3,left:=ln}:Prs).av b j)++[[AV.int .i64 kd,AV.int .i64 ln]]):=by
  refine qeE (qf5 (qfH hB _ (hp.bnd (p1:={p with state:=3,left:=ln}) rfl)) (by omega)) ?_;intro X hX y hy;simp only[List.mem_cons,List.not_mem_nil,or_false]at hX;subst hX;simp at hy;rcases hy with rfl|rfl<;>exact .int _ _
 have hlen:(K.set b (({p with state:=3,left:=ln}:Prs).av b j)++[[AV.int .i64 kd,AV.int .i64 ln]]).length=K.length+1:=by simp
 rw[<-hlen]at hbd;exact qbu (v:=nxV b (some .counted)) h1 (by rw[hlen];omega) hbd (qa2 (by rw[hlen];omega) (some .counted)) (hG ((hp.put (p1:={p with state:=3,left:=ln}) rfl).app _) (fun h=> .inl ⟨h,rfl⟩) ⟨by rw[hlen];omega,fun i hi h1 _=>by rw[zqA (by simpa using hi),zqF (Ne.symm h1)]⟩ hbd)
end
section
variable (E:Env){b:Nat}
theorem qpz(hE:PE E):qq5 E b:=by
 intro K j p n Q R hf hn hp hG hR;refine qbZ R (fun _=>False) Tryz.func166 rfl [] [(1,[0,0,0,0,0,0,4,4]),(7,[0,0,0,0,0,0,1]),(6,[0,0,3]),(3,[0,0,3]),(11,[0,0,3]),(15,[0,3]),(17,[0,3])] (by kernel_rfl) (fun E' hpan hS' h0 hF hB=>?_);have hE':=hE.env h0 hF;have hrow:=hp.row;have hlt:=hp.lt;have ha:=hf.a;simp[Prs.av]at hrow;simp[Tryz.ntmps166,Tryz.results166,List.replicate_succ,hrow];refine qdf fun J=>?_;refine qtf E' _ (hp.app J) ⟨rfl,?_⟩;refine qdf fun J2=>?_;refine qfZ E' _ _ hE'.1.1 p.fields _ (by omega) ⟨rfl,?_⟩;have hSd:qa7 p=qa7 p:=rfl
 conv at hSd=>rhs;unfold qa7
 dsimp only at hSd;obtain⟨kd,ln,e0,hFr⟩:∃kd ln e0,qaj p.fields (decide (p.minor=0))=(kd,ln,e0):=⟨_,_,_,rfl⟩
 obtain⟨h,hok,e1,hHo⟩:∃h hok e1,qd7 p.fields (decide (p.minor=0))=(h,hok,e1):=⟨_,_,_,rfl⟩
 rw[hFr,hHo]at hSd;simp only at hSd;rw[hFr];have hp1:PB (K++[[AV.int .i64 kd,AV.int .i64 ln]]) b j p:=hp.app _
 have hB1:BndH (K++[[AV.int .i64 kd,AV.int .i64 ln]]).length (K++[[AV.int .i64 kd,AV.int .i64 ln]]):=by
  have hbb:=qf5 (M:=K.length+1) hB (by simp)
  have:=qeE hbb (J:=[[.int .i64 kd,.int .i64 ln]]) (fun X hX y hy=>by
   simp only[List.mem_cons,List.not_mem_nil,or_false]at hX;subst hX;simp at hy
   rcases hy with rfl|rfl<;>exact .int _ _)
  simpa using this
 have hrow1:=hp1.row;simp[Prs.av]at hrow1;have hk1:(K++[[AV.int .i64 kd,.int .i64 ln]])[K.length]? =some [.int .i64 kd,.int .i64 ln]:=by simp
 have hlt1:b<(K++[[AV.int .i64 kd,.int .i64 ln]]).length:=hp1.lt;by_cases z67:e0=67
 ·subst z67;rw[if_pos rfl]at hSd;simp[qap,KP,qah,hrow];refine qal E' hp1 _ _ ?_;rw[hpan];exact hR p _ _ _ j _ hSd hp1 (fun h=> .inl ⟨h,rfl⟩) (OthP.app ..) hB1
 rw[if_neg z67]at hSd;by_cases z0:e0=0;rotate_left
 ·have z0':(e0==0)=false:=by simpa using z0
  have z67':(e0==67)=false:=by simpa using z67
  rw[if_pos z0]at hSd;simp[qap,KP,qah,hrow,z0',z67'];refine qal E' hp1 _ _ ?_;rw[hpan];exact hR p _ _ _ j _ hSd hp1 (fun h=> .inl ⟨h,rfl⟩) (OthP.app ..) hB1
 subst z0;rw[if_neg (by simp)]at hSd;simp[qap,KP,qah,hrow,hrow1];refine qtf E' _ hp1 ?_;simp[qap,KP,qah,hrow1];refine qsk E' _ p.fields _ (by omega) (fun h' ok' e1' hH'=>?_)
 obtain⟨rfl,rfl,rfl⟩:h=h'/\hok=ok'/\e1=e1':=by
  have:=hHo.symm.trans hH';simpa using this
 clear hH';by_cases y1:e1=0;rotate_left
 ·have y1':(e1==0)=false:=by simpa using y1
  have y1'':(e1 !=0)=true:=by simpa using y1
  rw[if_pos y1]at hSd;simp[qap,KP,qah,hrow1,y1',y1''];refine qal E' hp1 _ _ ?_;rw[hpan];exact hR p _ _ _ j _ hSd hp1 (fun h=> .inl ⟨h,rfl⟩) (OthP.app ..) hB1
 subst y1;rw[if_neg (by simp)]at hSd;by_cases hh:h=[]
 ·rw[if_neg (fun x=>x.1 hh)]at hSd;have hS:=hSd;clear hSd;simp[qap,KP,qah,hrow1,hh];refine qgo E' _ hp1 (by omega) ?_;cases hexp:expB p.fields with
  |false=>
   have hnil:allB p.fields [69,120,112,101,99,116]=[]:=by unfold expB expL at hexp;simpa using hexp
   rw[if_neg (fun h=>h.1 hnil)]at hS;simp[qap,KP];by_cases hbig:p.lb<ln
   ·rw[if_pos hbig]at hS;simp[qap,KP,hrow1,hk1,hbig,hs0 hlt];refine qal E' hp1 _ _ ?_;rw[hpan];exact hR p _ _ _ j _ hS hp1 (fun h=> .inl ⟨h,rfl⟩) (OthP.app ..) hB1
   ·rw[if_neg hbig]at hS;have hbig':¬p.lb<ln:=hbig;by_cases hk2:kd=2
    ·rw[if_pos hk2]at hS;subst hk2;simp[qap,KP,hrow1,hk1,hbig',hs0 hlt,hs1 hlt,hs2 hlt,hs3 hlt,hs4 hlt,hs5 hlt,-List.append_assoc,zqB];refine qju E' _ _ _ _ _ (fun _ _ _=>?_) (fun h=>by have:=hf.lb;have:=hf.lh;have:=hf.lf;omega);simp[qap,KP,hrow1,hs0 hlt,hs1 hlt,hs2 hlt,hs3 hlt,hs4 hlt,hs5 hlt];exact qdU hp hB hlt (hG _ (some .chunked) (K.length+1) _ hS)
    ·rw[if_neg hk2]at hS;have hk2':(kd==2)=false:=by simpa using hk2
     by_cases hpos:0<ln
     ·rw[if_pos hpos]at hS;simp[qap,KP,hrow1,hk1,hbig',hk2',hpos,hs0 hlt,hs1 hlt,hs2 hlt,hs3 hlt,hs4 hlt,hs5 hlt];exact qdT hp hB hlt kd ln (hG _ (some .counted) j _ hS)
     ·rw[if_neg hpos]at hS;simp[qap,KP,hrow1,hk1,hbig',hk2',hpos,hs0 hlt,hs1 hlt,hs2 hlt,hs3 hlt,hs4 hlt,hs5 hlt];have h3:PB (K.set b (({p with state:=3}:Prs).av b j)++[[AV.int .i64 kd,AV.int .i64 ln]]) b j {p with state:=3}:=(hp.put (p1:={p with state:=3}) rfl).app _;refine qf1 E' (p:={p with state:=3}) h3 (by have:=hf.b;simp only;omega) (fun K1 g1 g2 g3=>?_);simp[qap,KP];unfold qdY at hS;have hlK:K1.length=K.length+1:=by rw[g2];simp
      exact qbu (v:= .raw .nilFunc) rfl (by omega) g3 (.raw _) (hG _ none j _ hS g1 (fun h=> .inl ⟨h,rfl⟩) ⟨by omega,fun i hi h1 _=>by rw[g2,zqF (Ne.symm h1),zqA (by simpa using hi),zqF (Ne.symm h1)]⟩ g3)
  |true=>
   have hnil:allB p.fields [69,120,112,101,99,116]≠[]:=by unfold expB expL at hexp;simpa using hexp
   simp[qap,KP,hrow1];refine qgQ E' _ _ hE'.1.1 p.fields [69,120,112,101,99,116] (by omega) (by decide) ?_;obtain⟨tl,te,htk⟩:∃tl te,qb6 p.fields [69,120,112,101,99,116]=(tl,te):=⟨_,_,rfl⟩
   rw[htk]at hS⊢;simp only at hS;by_cases hte:te=0
   ·subst hte;rcases tl with _|⟨t0,_|⟨t1,tr⟩⟩
    ·rw[if_pos ⟨hnil,.inr (by simp)⟩]at hS;simp[qap,KP,strs];refine qal E' hp1 _ _ ?_;rw[hpan];exact hR p _ _ _ j _ hS hp1 (fun h=> .inl ⟨h,rfl⟩) (OthP.app ..) hB1
    ·have hat0:lat (strs [t0]) 0=some [AV.str t0]:=rfl;by_cases ht0:t0=[49,48,48,45,99,111,110,116,105,110,117,101]
     ·subst ht0;rw[if_neg (fun h=>h.2.elim (fun h=>h rfl) (fun h=>h rfl))]at hS;simp[qap,KP,hat0];by_cases hbig:p.lb<ln
      ·rw[if_pos hbig]at hS;simp[qap,KP,hrow1,hk1,hbig,hs0 hlt];refine qal E' hp1 _ _ ?_;rw[hpan];exact hR p _ _ _ j _ hS hp1 (fun h=> .inl ⟨h,rfl⟩) (OthP.app ..) hB1
      ·rw[if_neg hbig]at hS;have hbig':¬p.lb<ln:=hbig;by_cases hk2:kd=2
       ·rw[if_pos hk2]at hS;subst hk2;simp[qap,KP,hrow1,hk1,hbig',hs0 hlt,hs1 hlt,hs2 hlt,hs3 hlt,hs4 hlt,hs5 hlt,-List.append_assoc,zqB];refine qju E' _ _ _ _ _ (fun _ _ _=>?_) (fun h=>by have:=hf.lb;have:=hf.lh;have:=hf.lf;omega);simp[qap,KP,hrow1,hs0 hlt,hs1 hlt,hs2 hlt,hs3 hlt,hs4 hlt,hs5 hlt];exact qdU hp hB hlt (hG _ (some .chunked) (K.length+1) _ hS)
       ·rw[if_neg hk2]at hS;have hk2':(kd==2)=false:=by simpa using hk2
        by_cases hpos:0<ln
        ·rw[if_pos hpos]at hS;simp[qap,KP,hrow1,hk1,hbig',hk2',hpos,hs0 hlt,hs1 hlt,hs2 hlt,hs3 hlt,hs4 hlt,hs5 hlt];exact qdT hp hB hlt kd ln (hG _ (some .counted) j _ hS)
        ·rw[if_neg hpos]at hS;simp[qap,KP,hrow1,hk1,hbig',hk2',hpos,hs0 hlt,hs1 hlt,hs2 hlt,hs3 hlt,hs4 hlt,hs5 hlt];have h3:PB (K.set b (({p with state:=3}:Prs).av b j)++[[AV.int .i64 kd,AV.int .i64 ln]]) b j {p with state:=3}:=(hp.put (p1:={p with state:=3}) rfl).app _;refine qf1 E' (p:={p with state:=3}) h3 (by have:=hf.b;simp only;omega) (fun K1 g1 g2 g3=>?_);simp[qap,KP];unfold qdY at hS;have hlK:K1.length=K.length+1:=by rw[g2];simp
         exact qbu (v:= .raw .nilFunc) rfl (by omega) g3 (.raw _) (hG _ none j _ hS g1 (fun h=> .inl ⟨h,rfl⟩) ⟨by omega,fun i hi h1 _=>by rw[g2,zqF (Ne.symm h1),zqA (by simpa using hi),zqF (Ne.symm h1)]⟩ g3)
     ·rw[if_pos ⟨hnil,.inr (by simpa using ht0)⟩]at hS;have ht0':(t0==[49,48,48,45,99,111,110,116,105,110,117,101])=false:=by simpa using ht0
      have ht0'':(t0 !=[49,48,48,45,99,111,110,116,105,110,117,101])=true:=by simpa using ht0
      simp[qap,KP,hat0,ht0',ht0''];refine qal E' hp1 _ _ ?_;rw[hpan];exact hR p _ _ _ j _ hS hp1 (fun h=> .inl ⟨h,rfl⟩) (OthP.app ..) hB1
    ·rw[if_pos ⟨hnil,.inr (by simp)⟩]at hS;have g1:¬((tr.length:Int)+1+1)=1:=by omega
     have g2:((tr.length:Int)+1+1 !=1)=true:=by simpa using g1
     simp[qap,KP,strs,g1,g2];refine qal E' hp1 _ _ ?_;rw[hpan];exact hR p _ _ _ j _ hS hp1 (fun h=> .inl ⟨h,rfl⟩) (OthP.app ..) hB1
   ·rw[if_pos ⟨hnil,.inl hte⟩]at hS;have hte':(te==0)=false:=by simpa using hte
    have hte2:(te !=0)=true:=by simpa using hte
    simp[qap,KP,hte',hte2];refine qal E' hp1 _ _ ?_;rw[hpan];exact hR p _ _ _ j _ hS hp1 (fun h=> .inl ⟨h,rfl⟩) (OthP.app ..) hB1
 ·have hh':(h !=[])=true:=by simpa using hh
  simp[qap,KP,qah,hrow1,hh']
  have hhl:h.length<=4194304:=by
   have:∀v∈allB p.fields [72,111,115,116],v.length<=fsz p.fields:=qfK _ _;unfold qd7 at hHo;rcases hal:allB p.fields [72,111,115,116]with _|⟨v,_|⟨w,t⟩⟩
   ·rw[hal]at hHo;dsimp only at hHo;split at hHo<;>(cases hHo;try exact absurd rfl hh)
   ·have:=this v (by rw[hal];exact .head _);rw[hal]at hHo;dsimp only at hHo;split at hHo
    ·cases hHo
    ·cases hHo;omega
   ·rw[hal]at hHo;dsimp only at hHo;cases hHo
  refine qde E' _ hE' h (by omega) (fun hx px ex hA _ _ _=>?_);rw[hA]at hSd;simp only at hSd;by_cases x0:ex=0;rotate_left
  ·have x0':(ex==0)=false:=by simpa using x0
   have x0'':(ex !=0)=true:=by simpa using x0
   rw[if_pos ⟨hh,x0⟩]at hSd;simp[qap,KP,x0',x0''];refine qal E' hp1 _ _ ?_;rw[hpan];exact hR p _ _ _ j _ hSd hp1 (fun h=> .inl ⟨h,rfl⟩) (OthP.app ..) hB1
  subst x0;rw[if_neg (fun x=>x.2 rfl)]at hSd;have hS:=hSd;clear hSd;simp[qap,KP];refine qgo E' _ hp1 (by omega) ?_;cases hexp:expB p.fields with
  |false=>
   have hnil:allB p.fields [69,120,112,101,99,116]=[]:=by unfold expB expL at hexp;simpa using hexp
   rw[if_neg (fun h=>h.1 hnil)]at hS;simp[qap,KP];by_cases hbig:p.lb<ln
   ·rw[if_pos hbig]at hS;simp[qap,KP,hrow1,hk1,hbig,hs0 hlt];refine qal E' hp1 _ _ ?_;rw[hpan];exact hR p _ _ _ j _ hS hp1 (fun h=> .inl ⟨h,rfl⟩) (OthP.app ..) hB1
   ·rw[if_neg hbig]at hS;have hbig':¬p.lb<ln:=hbig;by_cases hk2:kd=2
    ·rw[if_pos hk2]at hS;subst hk2;simp[qap,KP,hrow1,hk1,hbig',hs0 hlt,hs1 hlt,hs2 hlt,hs3 hlt,hs4 hlt,hs5 hlt,-List.append_assoc,zqB];refine qju E' _ _ _ _ _ (fun _ _ _=>?_) (fun h=>by have:=hf.lb;have:=hf.lh;have:=hf.lf;omega);simp[qap,KP,hrow1,hs0 hlt,hs1 hlt,hs2 hlt,hs3 hlt,hs4 hlt,hs5 hlt];exact qdU hp hB hlt (hG _ (some .chunked) (K.length+1) _ hS)
    ·rw[if_neg hk2]at hS;have hk2':(kd==2)=false:=by simpa using hk2
     by_cases hpos:0<ln
     ·rw[if_pos hpos]at hS;simp[qap,KP,hrow1,hk1,hbig',hk2',hpos,hs0 hlt,hs1 hlt,hs2 hlt,hs3 hlt,hs4 hlt,hs5 hlt];exact qdT hp hB hlt kd ln (hG _ (some .counted) j _ hS)
     ·rw[if_neg hpos]at hS;simp[qap,KP,hrow1,hk1,hbig',hk2',hpos,hs0 hlt,hs1 hlt,hs2 hlt,hs3 hlt,hs4 hlt,hs5 hlt];have h3:PB (K.set b (({p with state:=3}:Prs).av b j)++[[AV.int .i64 kd,AV.int .i64 ln]]) b j {p with state:=3}:=(hp.put (p1:={p with state:=3}) rfl).app _;refine qf1 E' (p:={p with state:=3}) h3 (by have:=hf.b;simp only;omega) (fun K1 g1 g2 g3=>?_);simp[qap,KP];unfold qdY at hS;have hlK:K1.length=K.length+1:=by rw[g2];simp
      exact qbu (v:= .raw .nilFunc) rfl (by omega) g3 (.raw _) (hG _ none j _ hS g1 (fun h=> .inl ⟨h,rfl⟩) ⟨by omega,fun i hi h1 _=>by rw[g2,zqF (Ne.symm h1),zqA (by simpa using hi),zqF (Ne.symm h1)]⟩ g3)
  |true=>
   have hnil:allB p.fields [69,120,112,101,99,116]≠[]:=by unfold expB expL at hexp;simpa using hexp
   simp[qap,KP,hrow1];refine qgQ E' _ _ hE'.1.1 p.fields [69,120,112,101,99,116] (by omega) (by decide) ?_;obtain⟨tl,te,htk⟩:∃tl te,qb6 p.fields [69,120,112,101,99,116]=(tl,te):=⟨_,_,rfl⟩
   rw[htk]at hS⊢;simp only at hS;by_cases hte:te=0
   ·subst hte;rcases tl with _|⟨t0,_|⟨t1,tr⟩⟩
    ·rw[if_pos ⟨hnil,.inr (by simp)⟩]at hS;simp[qap,KP,strs];refine qal E' hp1 _ _ ?_;rw[hpan];exact hR p _ _ _ j _ hS hp1 (fun h=> .inl ⟨h,rfl⟩) (OthP.app ..) hB1
    ·have hat0:lat (strs [t0]) 0=some [AV.str t0]:=rfl;by_cases ht0:t0=[49,48,48,45,99,111,110,116,105,110,117,101]
     ·subst ht0;rw[if_neg (fun h=>h.2.elim (fun h=>h rfl) (fun h=>h rfl))]at hS;simp[qap,KP,hat0];by_cases hbig:p.lb<ln
      ·rw[if_pos hbig]at hS;simp[qap,KP,hrow1,hk1,hbig,hs0 hlt];refine qal E' hp1 _ _ ?_;rw[hpan];exact hR p _ _ _ j _ hS hp1 (fun h=> .inl ⟨h,rfl⟩) (OthP.app ..) hB1
      ·rw[if_neg hbig]at hS;have hbig':¬p.lb<ln:=hbig;by_cases hk2:kd=2
       ·rw[if_pos hk2]at hS;subst hk2;simp[qap,KP,hrow1,hk1,hbig',hs0 hlt,hs1 hlt,hs2 hlt,hs3 hlt,hs4 hlt,hs5 hlt,-List.append_assoc,zqB];refine qju E' _ _ _ _ _ (fun _ _ _=>?_) (fun h=>by have:=hf.lb;have:=hf.lh;have:=hf.lf;omega);simp[qap,KP,hrow1,hs0 hlt,hs1 hlt,hs2 hlt,hs3 hlt,hs4 hlt,hs5 hlt];exact qdU hp hB hlt (hG _ (some .chunked) (K.length+1) _ hS)
       ·rw[if_neg hk2]at hS;have hk2':(kd==2)=false:=by simpa using hk2
        by_cases hpos:0<ln
        ·rw[if_pos hpos]at hS;simp[qap,KP,hrow1,hk1,hbig',hk2',hpos,hs0 hlt,hs1 hlt,hs2 hlt,hs3 hlt,hs4 hlt,hs5 hlt];exact qdT hp hB hlt kd ln (hG _ (some .counted) j _ hS)
        ·rw[if_neg hpos]at hS;simp[qap,KP,hrow1,hk1,hbig',hk2',hpos,hs0 hlt,hs1 hlt,hs2 hlt,hs3 hlt,hs4 hlt,hs5 hlt];have h3:PB (K.set b (({p with state:=3}:Prs).av b j)++[[AV.int .i64 kd,AV.int .i64 ln]]) b j {p with state:=3}:=(hp.put (p1:={p with state:=3}) rfl).app _;refine qf1 E' (p:={p with state:=3}) h3 (by have:=hf.b;simp only;omega) (fun K1 g1 g2 g3=>?_);simp[qap,KP];unfold qdY at hS;have hlK:K1.length=K.length+1:=by rw[g2];simp
         exact qbu (v:= .raw .nilFunc) rfl (by omega) g3 (.raw _) (hG _ none j _ hS g1 (fun h=> .inl ⟨h,rfl⟩) ⟨by omega,fun i hi h1 _=>by rw[g2,zqF (Ne.symm h1),zqA (by simpa using hi),zqF (Ne.symm h1)]⟩ g3)
     ·rw[if_pos ⟨hnil,.inr (by simpa using ht0)⟩]at hS;have ht0':(t0==[49,48,48,45,99,111,110,116,105,110,117,101])=false:=by simpa using ht0
      have ht0'':(t0 !=[49,48,48,45,99,111,110,116,105,110,117,101])=true:=by simpa using ht0
      simp[qap,KP,hat0,ht0',ht0''];refine qal E' hp1 _ _ ?_;rw[hpan];exact hR p _ _ _ j _ hS hp1 (fun h=> .inl ⟨h,rfl⟩) (OthP.app ..) hB1
    ·rw[if_pos ⟨hnil,.inr (by simp)⟩]at hS;have g1:¬((tr.length:Int)+1+1)=1:=by omega
     have g2:((tr.length:Int)+1+1 !=1)=true:=by simpa using g1
     simp[qap,KP,strs,g1,g2];refine qal E' hp1 _ _ ?_;rw[hpan];exact hR p _ _ _ j _ hS hp1 (fun h=> .inl ⟨h,rfl⟩) (OthP.app ..) hB1
   ·rw[if_pos ⟨hnil,.inl hte⟩]at hS;have hte':(te==0)=false:=by simpa using hte
    have hte2:(te !=0)=true:=by simpa using hte
    simp[qap,KP,hte',hte2];refine qal E' hp1 _ _ ?_;rw[hpan];exact hR p _ _ _ j _ hS hp1 (fun h=> .inl ⟨h,rfl⟩) (OthP.app ..) hB1
end
end Go.Proofs.YtnnhdehmlkkfjaaGreatDoor
