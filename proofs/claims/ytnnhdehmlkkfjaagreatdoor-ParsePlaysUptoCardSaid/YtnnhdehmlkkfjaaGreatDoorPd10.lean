/- Part 10 of the texts below the law. -/
import Derived.Test.YtnnhdehmlkkfjaaGreatDoorPd9
set_option maxRecDepth 100000
set_option maxHeartbeats 16000000
set_option linter.unusedVariables false
set_option linter.unnecessarySimpa false
set_option linter.unusedSimpArgs false
set_option linter.unusedSectionVars false
namespace Go.Proofs.YtnnhdehmlkkfjaaGreatDoor
open Go Go.RowKit Go.Proofs
theorem qoe(out:List (List UInt8))(x:List UInt8):qb8 (out++[x])=qb8 out++(if(qaI x).isEmpty then []else [qaI x]):=by
 cases h:(qaI x).isEmpty<;>simp[qb8,h]
section
variable (E:Env)(H:Hp)(Q:AV->Hp->Prop)
theorem qgV(l:List Fld)(n:List UInt8)(hl:fsz l+l.length<=16777216)(hn:n.length<=cap)(hQ:Q (.sl false 1 (strs (allB l n))) H):PC Tryz.prog E 95 [.sl false 2 (flds l),.str n] H Q:=by
 refine qac Tryz.func95 rfl [18] [] (by kernel_rfl) (fun hB=>?_);simp[Tryz.ntmps95,Tryz.results95,List.replicate_succ];refine qek 5 1 (by rfl) ?_;simp only[List.set_cons_succ,List.set_cons_zero];refine qaB (qrM l n H) (fun fr _=>l.length-(ai (aget fr 10)).toNat) ⟨[],0,by simp,by omega,qam (by simp[allB,strs])⟩ ?_;rintro fr H' ⟨J,i,rfl,hi,x,rfl⟩;by_cases h:i<l.length
 ·obtain⟨f,hf⟩:∃f,l[i]? =some f:=⟨_,zqD h⟩
  have hat:=qgL hf;have hfm:=qkG hf;have hw:IntKind.i64.wrap ((i:Int)+1)=i+1:=wiz;have hst:=qjW l n i f hf;have hal:=ql1 (l.take i) n;rw[zqJ]at hal;simp[h,hat];refine qoV E _ _ f.name n (by simp only[cap];omega) hn ?_;cases he:qkz f.name n with
  |false=>
   rw[if_neg (by rw[he];simp),List.append_nil]at hst;simp[hw];exact Klz ⟨_,i+1,rfl,by omega,qam (by simp[hst])⟩
  |true=>
   rw[if_pos he]at hst;have m1:(allB (l.take i) n).length+1<=maxLen:=by unfold maxLen;omega
   have m2:((allB (l.take i) n).length+1)*16<=140737488355328:=by omega
   have hsn:=qgl (allB (l.take i) n) f.value;rw[<-hst]at hsn;simp[m1,m2,hsn,hw];exact Klz ⟨_,i+1,rfl,by omega,friz⟩
 ·obtain rfl:i=l.length:=by omega
  simp;exact qab hB (v0:= .sl false 1 (strs (allB l n))) (by simp) (qaa _) (by simp[qcu]) hQ
def elInv(l:List UInt8)(H:Hp)(fr:List AV)(H':Hp):Prop:=H'=H/\∃(f i:Nat) (out:List (List UInt8)),((f<=i/\i<=l.length/\out.length<=i/\qfz l out f i)\/(i=l.length+1/\cut [] l=some out))/\
 ∃x:Nat->AV,fr=[.str l,x 1,x 2,x 3,.sl true 1 (strs (qb8 out)),.int .i64 f,.int .i64 i,x 7,x 8,x 9,x 10,x 11,x 12,x 13,x 14,x 15,x 16,x 17,x 18,x 19,x 20,x 21,x 22,x 23,x 24,x 25,x 26,x 27,x 28,x 29,x 30,x 31,x 32,x 33,x 34,x 35,x 36,x 37,x 38,x 39,x 40,x 41,x 42,x 43,x 44,x 45,x 46,x 47,x 48,x 49,x 50,x 51,x 52,x 53,x 54,x 55,x 56,x 57,x 58]
theorem qoP(l:List UInt8)(hl:l.length<=16777216)(hQ1:qdK l=none->Q (.tup [.sl false 1 [],.bool false]) H)(hQ2:∀y,qdK l=some y->Q (.tup [.sl false 1 (strs y),.bool true]) H):PC Tryz.prog E 142 [.str l] H Q:=by
 refine qac Tryz.func142 rfl [52] [] (by kernel_rfl) (fun hB=>?_);simp[Tryz.ntmps142,Tryz.results142,List.replicate_succ];refine qek 4 1 (by rfl) ?_;simp only[List.set_cons_succ,List.set_cons_zero];refine qaB (elInv l H) (fun fr _=>l.length+1-(ai (aget fr 6)).toNat) ⟨rfl,0,0,[],.inl ⟨by omega,by omega,by simp,qg0 l⟩,qam (by simp[strs,qb8])⟩ ?_;rintro fr H' ⟨rfl,f,i,out,⟨hf,hi,hout,hc⟩|⟨rfl,hc⟩,x,rfl⟩
 ·have hkl:=qip out;have hm:(qb8 out).length+1<=maxLen/\((qb8 out).length+1)*16<=140737488355328:=by unfold maxLen;omega
  have hle:(i:Int)<=l.length:=by omega
  have hw:IntKind.i64.wrap ((i:Int)+1)=i+1:=wiz;have pl:((l.drop f).take (i-f)).length<=cap:=by rw[zqJ,zqI];simp only[cap];omega
  have hst:=qoe out ((l.drop f).take (i-f));by_cases h:i<l.length;rotate_left
  ·obtain rfl:i=l.length:=by omega
   have hcut:=qjN hc hf (Nat.le_refl _);have hsl:(l.drop f).take (l.length-f)=l.drop f:=zqE (by rw[zqI];omega);rw[hsl]at hcut pl hst;simp[hf,hsl];refine qcD E _ _ _ pl ?_;cases ht:(qaI (l.drop f)).isEmpty
   ·have hne:(qaI (l.drop f) !=[])=true:=by rw[qhP _ 0,ht];rfl
    rw[ht]at hst;have hsn:=qgl (qb8 out) (qaI (l.drop f));simp[hne,hm,hw];exact qaD ⟨rfl,l.length+1,l.length+1,_,.inr ⟨rfl,hcut⟩,qam (by rw[hst];simp[strs])⟩ (by simp)
   ·have hne:(qaI (l.drop f) !=[])=false:=by rw[qhP _ 0,ht];rfl
    rw[ht]at hst;simp[hne,hw];exact qaD ⟨rfl,l.length+1,l.length+1,_,.inr ⟨rfl,hcut⟩,qam (by rw[hst];simp[strs])⟩ (by simp)
  obtain⟨b,hb⟩:∃b,l[i]? =some b:=⟨_,zqD h⟩
  have hat:=qaq hb;have hbn:=b.toNat_lt;have t1:((i:Int)==(l.length:Int))=false:=by simp;omega
  by_cases b34:b.toNat=34
  ·have hx34:b=34:=UInt8.toNat_inj.1 b34;have hb':l[i]? =some 34:=by rw[hb,hx34]
   have t2:((b.toNat:Int)==34)=true:=by simp;omega
   have hd:(l.drop i).take (l.length-i)=l.drop i:=zqE (by rw[zqI];omega);simp[h,hat,t2,hd,hi];refine qi8 E _ _ (l.drop i) (by rw[zqI];omega) (by rw[zqN];exact hb') ?_;cases hu:unquote (l.drop i)with
   |none=>
    have ha:qaQ (l.drop i)=([],0,13):=by unfold qaQ;rw[hu]
    have hbad:=qjO hc hf hb' hu;simp[ha];exact qat hB (v0:= .tup [.nil,.bool false]) (by simp) (qbW 1 _ rfl) (by simp) (hQ1 (by unfold qdK;rw[hbad];rfl))
   |some p=>
    obtain⟨y,k⟩:=p;have ha:qaQ (l.drop i)=(y,(k:Int),0):=by unfold qaQ;rw[hu]
    have hk:=qbD hu;rw[zqI]at hk;have hk0:((k:Int)==0)=false:=by rw[beq_eq_false_iff_ne];omega
    have hw1:IntKind.i64.wrap ((k:Int)-1)=(k:Int)-1:=wiz;have hw2:IntKind.i64.wrap ((i:Int)+((k:Int)-1))=(i:Int)+((k:Int)-1):=wiz;have hw3:IntKind.i64.wrap ((i:Int)+((k:Int)-1)+1)=((i+k:Nat):Int):=by rw[qai (by omega) (by omega)];omega
    simp[ha,hk0,hw1,hw2,hw3];exact Klz ⟨rfl,f,i+k,out,.inl ⟨by omega,by omega,by omega,qg1 hc hf hb' hu⟩,friz⟩
  ·have t2:((b.toNat:Int)==34)=false:=by simp;omega
   have ne34:b≠34:=by rintro rfl;exact b34 rfl
   by_cases b44:b.toNat=44
   ·have hx44:b=44:=UInt8.toNat_inj.1 b44;have hb':l[i]? =some 44:=by rw[hb,hx44]
    have t3:((b.toNat:Int)==44)=true:=by simp;omega
    have hcm:=qg3 hc hf hb';simp[h,hat,t1,t2,t3,hf,hi];refine qcD E _ _ _ pl ?_;cases ht:(qaI ((l.drop f).take (i-f))).isEmpty
    ·have hne:(qaI ((l.drop f).take (i-f)) !=[])=true:=by rw[qhP _ 0,ht];rfl
     rw[ht]at hst;simp[hne,hm,hw];exact Klz ⟨rfl,i+1,i+1,_,.inl ⟨by omega,by omega,by simp;omega,hcm⟩,qam (by rw[hst];simp[strs])⟩
    ·have hne:(qaI ((l.drop f).take (i-f)) !=[])=false:=by rw[qhP _ 0,ht];rfl
     rw[ht]at hst;simp[hne,hw];exact Klz ⟨rfl,i+1,i+1,_,.inl ⟨by omega,by omega,by simp;omega,hcm⟩,qam (by rw[hst];simp[strs])⟩
   ·have t3:((b.toNat:Int)==44)=false:=by simp;omega
    have ne44:b≠44:=by rintro rfl;exact b44 rfl
    simp[h,hi,hat,t1,t2,t3,hw];exact Klz ⟨rfl,f,i+1,out,.inl ⟨by omega,by omega,by omega,qg2 hc hf hb ne44 ne34⟩,friz⟩
 ·have hgt:¬((l.length:Int)+1<=l.length):=by omega
  have hq:=hQ2 (qb8 out) (by unfold qdK;rw[hc];rfl);simp[hgt];exact qat hB (v0:= .tup [.sl false 1 (strs (qb8 out)),.bool true]) (by simp) (qaa _) (by simp[qcu]) hq
def dlInv(vs:List (List UInt8))(H:Hp)(fr:List AV)(H':Hp):Prop:=H'=H/\∃(i:Nat) (acc:List (List UInt8)),i<=vs.length/\qaV (vs.take i)=some acc/\
 ∃x:Nat->AV,fr=[x 0,x 1,x 2,x 3,x 4,x 5,.sl true 1 (strs acc),x 7,x 8,x 9,x 10,x 11,x 12,.sl false 1 (strs vs),.int .i64 vs.length,.int .i64 i,x 16,x 17,x 18,x 19,x 20,x 21,x 22,x 23,x 24,x 25,x 26,x 27,x 28,x 29,x 30]
theorem qlM(l:List Fld)(n:List UInt8)(hl:fsz l+l.length<=4194304)(hn:n.length<=cap)(hQ:Q (.tup [.sl false 1 (strs (qcR l n).1),.int .i64 (qcR l n).2]) H):PC Tryz.prog E 115 [.sl false 2 (flds l),.str n] H Q:=by
 have hvz:=qdo l n
 have q1:qaV (allB l n)=none->Q (.tup [.sl false 1 [],.int .i64 14]) H:=fun h=>by
  have:qcR l n=([],14):=by unfold qcR;rw[h]
  rw[this]at hQ;exact hQ
 have q2:∀acc,qaV (allB l n)=some acc->Q (.tup [.sl false 1 (strs acc),.int .i64 0]) H:=fun acc h=>by
  have:qcR l n=(acc,0):=by unfold qcR;rw[h]
  rw[this]at hQ;exact hQ
 refine qac Tryz.func115 rfl [26] [] (by kernel_rfl) (fun hB=>?_);simp[Tryz.ntmps115,Tryz.results115,List.replicate_succ];refine qgV E _ _ l n (by omega) hn ?_
 generalize allB l n=vs at*
 have hvl:=qnc vs;simp;refine qek 6 1 (by rfl) ?_;simp only[List.set_cons_succ,List.set_cons_zero];refine qaB (dlInv vs H) (fun fr _=>vs.length-(ai (aget fr 15)).toNat) ⟨rfl,0,[],by omega,rfl,qam (by simp[strs])⟩ ?_;rintro fr H' ⟨rfl,i,acc,hi,hacc,x,rfl⟩;have hlen:=qbT _ _ hacc;have hvt:=qk5 vs i;by_cases h:i<vs.length
 ·obtain⟨s,hs⟩:∃s,vs[i]? =some s:=⟨_,zqD h⟩
  have hat:=qcB hs;have hsz:=qnb hs;have hw:IntKind.i64.wrap ((i:Int)+1)=i+1:=wiz;simp[h,hat];refine qoP E _ _ s (by omega) (fun hb=>?_) (fun y hb=>?_)
  ·simp;exact qat hB (v0:= .tup [.nil,.int .i64 14]) (by simp) (qbW 1 _ rfl) (by simp) (q1 (qgE hs hb))
  ·have hyl:=qgG hb;have hst:=qgF hs hacc hb;have m1:acc.length+y.length<=maxLen:=by unfold maxLen;omega
   have m2:(acc.length+y.length)*16<=140737488355328:=by omega
   have hsa:strs acc++strs y=strs (acc++y):=by simp[strs]
   simp[m1,m2,hsa,hw];exact Klz ⟨rfl,i+1,acc++y,by omega,hst,friz⟩
 ·obtain rfl:i=vs.length:=by omega
  rw[zqE (Nat.le_refl _)]at hacc;simp;exact qat hB (v0:= .tup [.sl false 1 (strs acc),.int .i64 0]) (by simp) (qaa _) (by simp[qcu]) (q2 acc hacc)
def dtInv(acc:List (List UInt8))(H:Hp)(fr:List AV)(H':Hp):Prop:=H'=H/\∃i:Nat,i<=acc.length/\(acc.take i).all tokB=true/\
 ∃x:Nat->AV,fr=[x 0,x 1,x 2,x 3,x 4,x 5,x 6,x 7,.sl true 1 (strs ((acc.take i).map low)),x 9,x 10,x 11,x 12,x 13,x 14,x 15,x 16,x 17,x 18,x 19,.sl false 1 (strs acc),.int .i64 acc.length,.int .i64 i,x 23,x 24,x 25,x 26,x 27,x 28,x 29,x 30,x 31,x 32,x 33,x 34,x 35]
theorem qhX(l:List Fld)(n:List UInt8)(hl:fsz l+l.length<=4194304)(hn:n.length<=cap)(hQ:Q (.tup [.sl false 1 (strs (qbQ l n).1),.int .i64 (qbQ l n).2]) H):PC Tryz.prog E 96 [.sl false 2 (flds l),.str n] H Q:=by
 have hvz:=qdo l n;refine qac Tryz.func96 rfl [29] [] (by kernel_rfl) (fun hB=>?_);simp[Tryz.ntmps96,Tryz.results96,List.replicate_succ];refine qlM E _ _ l n hl hn ?_;cases hacc:qaV (allB l n)with
 |none=>
  have e1:qcR l n=([],14):=by unfold qcR;rw[hacc]
  have e2:qbQ l n=([],14):=by unfold qbQ;rw[hacc]
  rw[e2]at hQ;rw[e1];simp;exact qat hB (v0:= .tup [.nil,.int .i64 14]) (by simp) (qbW 1 _ rfl) (by simp) hQ
 |some acc=>
  have e1:qcR l n=(acc,0):=by unfold qcR;rw[hacc]
  have e2:qbQ l n=if acc.all tokB=true then(acc.map low,0)else([],10):=by unfold qbQ;rw[hacc]
  have hmem:=qdf _ _ hacc;have hlen:=qbT _ _ hacc;rw[e2]at hQ;rw[e1];clear e1 e2 hacc;simp;refine qek 8 1 (by rfl) ?_;simp only[List.set_cons_succ,List.set_cons_zero];refine qaB (dtInv acc H) (fun fr _=>acc.length-(ai (aget fr 22)).toNat) ⟨rfl,0,by omega,by simp,qam (by simp[strs])⟩ ?_;rintro fr H' ⟨rfl,i,hi,hall,x,rfl⟩;by_cases h:i<acc.length
  ·obtain⟨u,hu⟩:∃u,acc[i]? =some u:=⟨_,zqD h⟩
   have hat:=qcB hu;have hw:IntKind.i64.wrap ((i:Int)+1)=i+1:=wiz;have hul:=hmem u (zqH hu);simp[h,hat];refine qfI E _ _ u (by simp only[cap];omega) ?_;cases ht:tokB u with
   |false=>
    have e:acc.all tokB=false:=qdH tokB acc i u hu ht;rw[if_neg (by rw[e];simp)]at hQ;simp;exact qat hB (v0:= .tup [.nil,.int .i64 10]) (by simp) (qbW 1 _ rfl) (by simp) hQ
   |true=>
    simp;refine qcf E _ _ u (by simp only[cap];omega) ?_;have m1:(List.take i acc).length+1<=maxLen:=by rw[zqJ];unfold maxLen;omega
    have m2:((List.take i acc).length+1)*16<=140737488355328:=by rw[zqJ];omega
    rw[zqJ,Nat.min_eq_left hi]at m1 m2
    have hst:strs ((acc.take i).map low)++[[.str (low u)]]=strs ((acc.take (i+1)).map low):=by
     rw[List.take_add_one,hu];simp[strs]
    have hmin:min i acc.length=i:=Nat.min_eq_left hi;simp[m1,m2,hmin,hw];exact Klz ⟨rfl,i+1,by omega,by rw[qb0 tokB acc i u hu,hall,ht];rfl,qam (by rw[<-hst];simp)⟩
  ·obtain rfl:i=acc.length:=by omega
   rw[zqE (Nat.le_refl _)]at hall;rw[if_pos hall]at hQ;simp;exact qat hB (v0:= .tup [.sl false 1 (strs (acc.map low)),.int .i64 0]) (by simp) (qaa _) (by simp[qcu]) hQ
end
end Go.Proofs.YtnnhdehmlkkfjaaGreatDoor
namespace Go.Proofs.YtnnhdehmlkkfjaaGreatDoor
open Go Go.RowKit
def finD(host port:List UInt8):List UInt8×Int×Int:=if port=[]then(low host,-1,0)else if(qae 10 65535 port).2≠0\/5<port.length then([],0,52)else(low host,(qae 10 65535 port).1,0)
theorem qiC (c : UInt8) (s : List UInt8) : (cut1 c s).1.length ≤ s.length ∧ (cut1 c s).2.1.length ≤ s.length := by
  obtain ⟨t1, t2⟩ := qb2 (· != c) s
  constructor
  · show (s.takeWhile (· != c)).length ≤ _
    rw [← t1, zqJ]; omega
  · show ((s.dropWhile (· != c)).drop 1).length ≤ _
    rw [zqI, ← t2, zqI]; omega
theorem qqS {c : UInt8} {s : List UInt8} (h : (cut1 c s).2.2 = true) : (cut1 c s).1.length + 1 ≤ s.length := by
  have h1 : s.contains c = true := h
  have h2 := qdT s c
  rw [h1] at h2
  have h3 := ((qfw s c).1 (by simpa using h2)).2
  have h4 := List.length_pos_iff.2 h3
  obtain ⟨t1, t2⟩ := qb2 (· != c) s
  show (s.takeWhile (· != c)).length + 1 ≤ _
  rw [← t2, zqI] at h4
  omega
theorem qs5{c:UInt8}{s:List UInt8}(h:(cut1 c s).2.2=false):(cut1 c s).2.1=[]:=by
 have h1:s.contains c=false:=h;rw[qg4 (fun x hx e=>by subst e;rw[Bool.eq_false_iff]at h1;exact h1 (by simpa using hx))]
section
open Go.Lib
variable (E:Env){H:Hp}(Q:AV->Hp->Prop)
theorem qgs(s:List UInt8)(hl:s.length<=1073741824)(hQ:∀h p e,qbp s=(h,p,e)->Q (.tup [.str h,.int .i64 p,.int .i64 e]) H):PC Tryz.prog E 66 [.str s] H Q:=by
 refine qac Tryz.func66 rfl [] [] (by kernel_rfl) (fun hB=>?_);have fin:∀h p e,qfC s=(h,p,e)->Q (.tup [.str h,.int .i64 p,.int .i64 e]) H:=fun h p e hh=>hQ h p e (by rw[qq6,hh]);clear hQ;by_cases h91:s.head? =some 91
 ·have hd:qfC s=(if(cut1 93 (s.drop 1)).2.2=false\/qfD (cut1 93 (s.drop 1)).1=false\/((cut1 93 (s.drop 1)).2.1≠[]/\(cut1 93 (s.drop 1)).2.1.head? ≠some 58)then([],0,52)else finD (s.take ((cut1 93 (s.drop 1)).1.length+2)) ((cut1 93 (s.drop 1)).2.1.drop 1)):=by
   unfold qfC finD;dsimp only;rw[if_pos h91]
  have hla:=qon h91;have hne:(s !=[])=true:=by cases s with|nil=>cases h91|cons _ _=>rfl
  have hpos:1<=s.length:=by cases s with|nil=>cases h91|cons _ _=>simp
  obtain⟨T,hT⟩:=exz (s.drop 1);have hTl:T.length=s.length-1:=by rw[<-hT,zqI]
  have htk:T.take (s.length-1)=T:=zqE (by omega);rw[hT]at hd;simp[Tryz.ntmps66,Tryz.results66,List.replicate_succ,hne,hla,hpos,hT,htk];refine qeS E _ T 93 (by omega) ?_;have c1:=qiC 93 T;have c2:(cut1 93 T).2.2=true->(cut1 93 T).1.length+1<=T.length:=qqS;obtain⟨inner,hin⟩:=exz ((cut1 93 T).1);obtain⟨rs,hrs⟩:=exz ((cut1 93 T).2.1);obtain⟨sh,hsh⟩:=exz ((cut1 93 T).2.2);rw[hin,hrs,hsh]at hd;rw[hin,hrs]at c1;rw[hin,hsh]at c2;rw[hin,hrs,hsh];cases sh with
  |false=>
   rw[if_pos (.inl rfl)]at hd;simp;exact aQz hB (h6:=(fin _ _ _ hd))
  |true=>
   have c3:=c2 rfl;simp;refine qnK E _ inner (by omega) ?_;cases ha:qfD inner with
   |false=>
    rw[if_pos (.inr (.inl ha))]at hd;simp;exact aQz hB (h6:=(fin _ _ _ hd))
   |true=>
    have w2:IntKind.i64.wrap ((inner.length:Int)+2)=((inner.length+2:Nat):Int):=by rw[qai (by omega) (by omega)];omega
    have q2:inner.length+2<=s.length:=by omega
    have htl:(s.take (inner.length+2)).length<=cap:=by rw[zqJ];simp only[cap];omega
    obtain⟨host,hhost⟩:=exz (s.take (inner.length+2));rw[hhost]at hd htl;cases rs with
    |nil=>
     rw[if_neg (by rw[ha];simp)]at hd;have hd2:qfC s=(low host,-1,0):=by rw[hd];rfl
     simp[w2,q2,hhost,-Int.natCast_add];refine qdv E _ _ host htl ?_;simp;exact aQz hB (h6:=(fin _ _ _ hd2))
    |cons b port=>
     have hlb:lat (b::port) 0=some b:=rfl;have hcn:(b::port !=[])=true:=rfl;by_cases h58:b=58
     ·subst h58;rw[if_neg (by rw[ha];simp)]at hd;have hd2:qfC s=finD host port:=hd;simp only[zqL]at c1;simp[w2,q2,hhost,hcn,hlb,-Int.natCast_add];refine qdv E _ _ host htl ?_;by_cases hp0:port=[]
      ·subst hp0;simp;exact aQz hB (h6:=(fin _ _ _ hd2))
      ·have hp0':(port==[])=false:=by simpa using hp0
       unfold finD at hd2;rw[if_neg hp0]at hd2;simp[hp0'];refine qdQ E _ port 65535 (by simp only[cap];omega) (by decide) (by decide) ?_;by_cases he:(qae 10 65535 port).2=0
       ·by_cases h5:5<port.length
        ·have h5':(5:Int)<port.length:=by omega
         rw[if_pos (.inr h5)]at hd2;simp[he,h5'];exact aQz hB (h6:=(fin _ _ _ hd2))
        ·have h5':¬(5:Int)<port.length:=by omega
         rw[if_neg (fun h=>h.elim (fun h=>h he) h5)]at hd2;simp[he,h5'];exact aQz hB (h6:=(fin _ _ _ hd2))
       ·have he2:((qae 10 65535 port).2 !=0)=true:=by simpa using he
        have he3:((qae 10 65535 port).2==0)=false:=by simpa using he
        rw[if_pos (.inl he)]at hd2;simp[he2,he3];exact aQz hB (h6:=(fin _ _ _ hd2))
     ·have hb1:=(qaw b 58 (by decide) 58 rfl h58).1;have hb2:=(qaw b 58 (by decide) 58 rfl h58).2;rw[if_pos (.inr (.inr ⟨by simp,by simpa using h58⟩))]at hd;simp[hlb,hcn,hb1,hb2];exact aQz hB (h6:=(fin _ _ _ hd))
 ·have hd:qfC s=(if(cut1 58 s).1=[]\/qaF qb1 (cut1 58 s).1≠(cut1 58 s).1.length then([],0,52)else finD (cut1 58 s).1 (cut1 58 s).2.1):=by
   unfold qfC finD;dsimp only;rw[if_neg h91]
  have c1:=qiC 58 s;have c2:(cut1 58 s).2.2=false->(cut1 58 s).2.1=[]:=qs5;obtain⟨host,hin⟩:=exz ((cut1 58 s).1);obtain⟨port,hrs⟩:=exz ((cut1 58 s).2.1);obtain⟨sh,hsh⟩:=exz ((cut1 58 s).2.2);have htl:(cut1 58 s).1.length<=cap:=by simp only[cap];omega
  rw[hin]at htl;rw[hin,hrs]at hd c1;rw[hrs,hsh]at c2;rcases s with _|⟨a,r⟩
  ·simp[Tryz.ntmps66,Tryz.results66,List.replicate_succ];refine qeS E _ [] 58 (by simp) ?_;have:cut1 58 []=([],[],false):=rfl;rw[this]at hin;simp only at hin;subst hin;rw[if_pos (.inl rfl)]at hd;rw[this];simp;refine qi1 E _ [] (by simp) ?_;simp;exact qat (v:= .tup [.str [],.int .i64 0,.int .i64 52]) hB rfl (qaa _) (by simp) (fin _ _ _ hd)
  ·have hne:(a::r !=[])=true:=rfl;have hla:lat (a::r) 0=some a:=rfl;have ha1:=(qaw a 91 (by decide) 91 rfl (fun e=>h91 (by rw[e];rfl))).1;have hlp:0<(a::r).length:=by simp
   obtain⟨s,hs⟩:∃s,s=a::r:=⟨_,rfl⟩
   rw[<-hs]at hne hla hlp hd hin hrs hsh c1 hl fin⊢;simp[Tryz.ntmps66,Tryz.results66,List.replicate_succ,hne,hla,ha1,hlp];refine qeS E _ s 58 hl ?_;rw[hin,hrs,hsh];simp;refine qi1 E _ host (by omega) ?_;by_cases hbad:host=[]\/qaF qb1 host≠host.length
   ·rw[if_pos hbad]at hd
    have hx:(!host.isEmpty&&qaF qb1 host==host.length)=false:=by
     rcases hbad with rfl|hbad
     ·rfl
     ·rw[Bool.and_eq_false_iff];exact .inr (by simpa using hbad)
    rw[hx];simp;exact aQz hB (h6:=(fin _ _ _ hd))
   ·rw[if_neg hbad]at hd
    have hx:(!host.isEmpty&&qaF qb1 host==host.length)=true:=by
     simp only[not_or,Decidable.not_not]at hbad;rw[hbad.2];simpa using hbad.1
    rw[hx];simp;refine qdv E _ _ host htl ?_;cases sh with
    |false=>
     have:=c2 rfl;subst this;have hd2:qfC s=(low host,-1,0):=by rw[hd];rfl
     simp;exact aQz hB (h6:=(fin _ _ _ hd2))
    |true=>
     by_cases hp0:port=[]
     ·subst hp0;have hd2:qfC s=(low host,-1,0):=by rw[hd];rfl
      simp;exact aQz hB (h6:=(fin _ _ _ hd2))
     ·have hp0':(port==[])=false:=by simpa using hp0
      unfold finD at hd;rw[if_neg hp0]at hd;simp[hp0'];refine qdQ E _ port 65535 (by simp only[cap];omega) (by decide) (by decide) ?_;by_cases he:(qae 10 65535 port).2=0
      ·by_cases h5:5<port.length
       ·have h5':(5:Int)<port.length:=by omega
        rw[if_pos (.inr h5)]at hd;simp[he,h5'];exact aQz hB (h6:=(fin _ _ _ hd))
       ·have h5':¬(5:Int)<port.length:=by omega
        rw[if_neg (fun h=>h.elim (fun h=>h he) h5)]at hd;simp[he,h5'];exact aQz hB (h6:=(fin _ _ _ hd))
      ·have he2:((qae 10 65535 port).2 !=0)=true:=by simpa using he
       have he3:((qae 10 65535 port).2==0)=false:=by simpa using he
       rw[if_pos (.inl he)]at hd;simp[he2,he3];exact aQz hB (h6:=(fin _ _ _ hd))
theorem qnV(c:UInt8):(((qby c||qbM c)||([58,64]:List UInt8).contains c)||([47]:List UInt8).contains c)=qcE c:=by
 have:∀n,n<256->(((qby (UInt8.ofNat n)||qbM (UInt8.ofNat n))||([58,64]:List UInt8).contains (UInt8.ofNat n))||([47]:List UInt8).contains (UInt8.ofNat n))=qcE (UInt8.ofNat n):=by decide
 have:=this c.toNat c.toNat_lt;rwa[qcl]at this
theorem qnP(c:UInt8):(((qby c||qbM c)||([58,64]:List UInt8).contains c)||([47,63]:List UInt8).contains c)=qdx c:=by
 have:∀n,n<256->(((qby (UInt8.ofNat n)||qbM (UInt8.ofNat n))||([58,64]:List UInt8).contains (UInt8.ofNat n))||([47,63]:List UInt8).contains (UInt8.ofNat n))=qdx (UInt8.ofNat n):=by decide
 have:=this c.toNat c.toNat_lt;rwa[qcl]at this
theorem qs6(s:List UInt8):behE s=if qcM qcE 53 (cut1 63 s).1≠0 then qcM qcE 53 (cut1 63 s).1 else qcM qdx 54 (cut1 63 s).2.1:=behD s
theorem qeR(fm pt:Int)(h pa qu:List UInt8)(hq:Bool)(s:List UInt8)(at_:Nat)(hat:at_<=s.length)(hl:s.length<=1073741824)
  (hQ:∀fm pt h pa qu hq v,Q (.tup [tgV fm pt h pa qu hq,.int .i64 v,.int .i64 (behE (s.drop at_))]) H):PC Tryz.prog E 67 [.str s,.int .i64 (at_:Int),tgV fm pt h pa qu hq] H Q:=by
 refine qac Tryz.func67 rfl [] [] (by kernel_rfl) (fun hB=>?_);obtain⟨u,hu⟩:=exz (s.drop at_);have hul:u.length=s.length-at_:=by rw[<-hu,zqI]
 have htk:u.take (s.length-at_)=u:=zqE (by omega);rw[hu,qs6]at hQ;simp[Tryz.ntmps67,Tryz.results67,List.replicate_succ,tgV,hat,hu,htk];refine qeS E _ u 63 (by omega) ?_;obtain⟨c1,c2⟩:=qiC 63 u
 generalize (cut1 63 u).1=p at*
 generalize (cut1 63 u).2.1=q at*
 generalize (cut1 63 u).2.2=t at*
 have hQ':∀e,(if qcM qcE 53 p≠0 then qcM qcE 53 p else qcM qdx 54 q)=e->∀fm pt h pa qu hq v,Q (.tup [.agg [.int .i64 fm,.str h,.int .i64 pt,.str pa,.str qu,.bool hq],.int .i64 v,.int .i64 e]) H:=fun e he fm pt h pa qu hq v=>he▸hQ fm pt h pa qu hq v;clear hQ;simp;refine qiZ E _ p [47] 53 qcE qnV (by decide) (by omega) (by simp) (fun v hv1 hv2=>?_);have w1:IntKind.i64.wrap ((at_:Int)+v)=at_+v:=wiz;by_cases he:qcM qcE 53 p=0
 ·rw[if_neg (by simpa using he)]at hQ';simp[he];refine qiZ E _ q [47,63] 54 qdx qnP (by decide) (by omega) (by simp) (fun v hv1 hv2=>?_);have w2:IntKind.i64.wrap ((at_:Int)+(p.length:Int))=at_+(p.length:Int):=wiz;have w3:IntKind.i64.wrap ((at_:Int)+(p.length:Int)+1)=at_+(p.length:Int)+1:=wiz;have w4:IntKind.i64.wrap ((at_:Int)+(p.length:Int)+1+v)=at_+(p.length:Int)+1+v:=wiz;by_cases he2:qcM qdx 54 q=0
  ·by_cases hp0:p=[]
   ·subst hp0;simp[he2];exact aQy hB (h6:=(hQ' _ he2 fm pt h [47] q t 0))
   ·have hp0':(p==[])=false:=by simpa using hp0
    simp[he2,hp0'];exact aQy hB (h6:=(hQ' _ he2 fm pt h p q t 0))
  ·have h1:(qcM qdx 54 q !=0)=true:=by simpa using he2
   have h2:(qcM qdx 54 q==0)=false:=by simpa using he2
   simp[h1,h2,w2,w3,w4];exact aQy hB (h6:=(hQ' _ rfl 0 0 [] [] [] false (at_+(p.length:Int)+1+v)))
 ·rw[if_pos he]at hQ';have h1:(qcM qcE 53 p !=0)=true:=by simpa using he
  have h2:(qcM qcE 53 p==0)=false:=by simpa using he
  simp[h1,h2,w1];exact aQy hB (h6:=(hQ' _ rfl 0 0 [] [] [] false (at_+v)))
end
def nsl(c:UInt8):Bool:=c !=47&&c !=63
theorem qj3(p:UInt8->Bool)(l:List UInt8)(k:Nat)(hk:k<=l.length)(ha:(l.take k).all p=true)(hs:∀c,l[k]? =some c->p c=false):l.takeWhile p=l.take k/\l.dropWhile p=l.drop k:=by
 have hl:l=l.take k++l.drop k:=(List.take_append_drop k l).symm;have h1:∀x∈l.take k,p x=true:=fun x hx=>List.all_eq_true.1 ha x hx
 have h2:(l.drop k).takeWhile p=[]/\(l.drop k).dropWhile p=l.drop k:=by
  cases hd:l.drop k with
  |nil=>exact⟨rfl,rfl⟩
  |cons c r=>
   have hc:l[k]? =some c:=by
    have:=congrArg (fun z=>z[0]?) hd;simpa using this
   have:=hs c hc;exact⟨List.takeWhile_cons_of_neg (by rw[this];simp),List.dropWhile_cons_of_neg (by rw[this];simp)⟩
 constructor
 ·conv=>lhs;rw[hl]
  rw[List.takeWhile_append_of_pos h1,h2.1,List.append_nil]
 ·conv=>lhs;rw[hl]
  rw[List.dropWhile_append_of_pos h1,h2.2]
section
open Go.Lib
variable (E:Env){H:Hp}(Q:AV->Hp->Prop)
def rfpI(m s:List UInt8)(H:Hp)(fr:List AV)(K:Hp):Prop:=K=H++[[.int .i64 0,.str [],.int .i64 0,.str [],.str [],.bool false]]/\∃i:Nat,7<=i/\i<=s.length/\((s.drop 7).take (i-7)).all nsl=true/\
 ∃x:Nat->AV,fr=[.str m,.str s,x 2,x 3,.ptr (some (H.length,0)),.int .i64 0,.int .i64 0,x 7,x 8,x 9,.int .i64 (i:Int),x 11,x 12,x 13,x 14,x 15,x 16,x 17,x 18,x 19,x 20,x 21,x 22,x 23,x 24,x 25,x 26,x 27,x 28,x 29,x 30,x 31,x 32,x 33,x 34,x 35,x 36,x 37,x 38,x 39,x 40,x 41,x 42,x 43,x 44,x 45,x 46,x 47,x 48,x 49,x 50,x 51,x 52,x 53,x 54,x 55,x 56,x 57,x 58,x 59,x 60,x 61,x 62,x 63,x 64,x 65,x 66,x 67,x 68,x 69,x 70,x 71,x 72,x 73,x 74,x 75,x 76,x 77,x 78,x 79,x 80,x 81,x 82,x 83,x 84,x 85,x 86,x 87,x 88,x 89,x 90,x 91,x 92,x 93,x 94,x 95,x 96,x 97,x 98]
theorem qmf(m s:List UInt8)(hl:s.length<=4194304)(hQ:∀fm pt h pa qu hq v,Q (.tup [tgV fm pt h pa qu hq,.int .i64 v,.int .i64 (tgtE m s)]) H):PC Tryz.prog E 50 [.str m,.str s] H Q:=by
 refine qac Tryz.func50 rfl [] [] (by kernel_rfl) (fun hB=>?_);have hQ':∀e,tgtE m s=e->∀fm pt h pa qu hq v,Q (.tup [.agg [.int .i64 fm,.str h,.int .i64 pt,.str pa,.str qu,.bool hq],.int .i64 v,.int .i64 e]) H:=fun e he fm pt h pa qu hq v=>he▸hQ fm pt h pa qu hq v;clear hQ;cases s with
 |nil=>
  simp[Tryz.ntmps50,Tryz.results50,List.replicate_succ];exact aQy hB (h6:=(hQ' 50 rfl 0 0 [] [] [] false 0))
 |cons c r=>
  obtain⟨s,hs⟩:∃s,s=c::r:=⟨_,rfl⟩
  have hT:tgtE m s=if m=[67,79,78,78,69,67,84]then(if(qbp s).2.2≠0\/(qbp s).2.1<0 then 52 else 0)
    else if c=47 then behE s
    else if s=[42]/\m=[79,80,84,73,79,78,83]then 0
    else if s.length<7\/low (s.take 7)≠[104,116,116,112,58,47,47]then 50
    else if(qbp ((s.drop 7).takeWhile nsl)).2.2≠0 then(qbp ((s.drop 7).takeWhile nsl)).2.2
    else behE ((s.drop 7).dropWhile nsl):=by rw[hs];rfl
  have hne:(s==[])=false:=by rw[hs];rfl
  have hla:lat s 0=some c:=by rw[hs];rfl
  have hlp:0<s.length:=by rw[hs];simp
  rw[<-hs]at hl hQ'⊢;by_cases hm:m=[67,79,78,78,69,67,84]
  ·rw[if_pos hm]at hT;simp[Tryz.ntmps50,Tryz.results50,List.replicate_succ,hne,hm];refine qgs E _ s (by omega) (fun h p e hA=>?_);rw[hA]at hT;simp only at hT;by_cases he:e=0
   ·subst he;by_cases hp:p<0
    ·rw[if_pos (.inr hp)]at hT;simp[hp];exact aQy hB (h6:=(hQ' 52 hT 0 0 [] [] [] false 0))
    ·rw[if_neg (by simp;omega)]at hT;simp[hp];exact aQy hB (h6:=(hQ' 0 hT 3 p h [] [] false 0))
   ·have he':(e==0)=false:=by simpa using he
    have he2:(e !=0)=true:=by simpa using he
    rw[if_pos (.inl he)]at hT;simp[he',he2];exact aQy hB (h6:=(hQ' 52 hT 0 0 [] [] [] false 0))
  ·have hm':(m==[67,79,78,78,69,67,84])=false:=by simpa using hm
   rw[if_neg hm]at hT;by_cases h47:c=47
   ·subst h47;rw[if_pos rfl]at hT;simp[Tryz.ntmps50,Tryz.results50,List.replicate_succ,hne,hm',hla,hlp];refine qeR E _ 1 (-1) [] [] [] false s 0 (by omega) (by omega) (fun fm pt h pa qu hq v=>?_);rw[List.drop_zero];simp[tgV];exact aQy hB (h6:=(hQ' _ hT fm pt h pa qu hq v))
   ·have b47:=(qaw c 47 (by decide) 47 rfl h47).1;rw[if_neg h47]at hT;by_cases hast:s=[42]/\m=[79,80,84,73,79,78,83]
    ·obtain⟨ha1,ha2⟩:=hast;rw[if_pos ⟨ha1,ha2⟩]at hT;have ha1':(s==[42])=true:=by simpa using ha1
     have ha2':(m==[79,80,84,73,79,78,83])=true:=by simpa using ha2
     simp[Tryz.ntmps50,Tryz.results50,List.replicate_succ,hne,hm',hla,hlp,b47,ha1',ha2'];exact aQy hB (h6:=(hQ' _ hT 4 (-1) [] [] [] false 0))
    ·rw[if_neg hast]at hT
     have hpath:(s==[42])=false\/((s==[42])=true/\(m==[79,80,84,73,79,78,83])=false):=by
      by_cases h1:s=[42]
      ·exact .inr ⟨by simpa using h1,by simpa using fun h=>hast ⟨h1,h⟩⟩
      ·exact .inl (by simpa using h1)
     by_cases h7:s.length<7
     ·rw[if_pos (.inl h7)]at hT;have h7':(s.length:Int)<7:=by omega
      rcases hpath with hp|⟨hp,hp2⟩
      ·simp[Tryz.ntmps50,Tryz.results50,List.replicate_succ,hne,hm',hla,hlp,b47,hp,h7'];exact aQy hB (h6:=(hQ' _ hT 0 0 [] [] [] false 0))
      ·simp[Tryz.ntmps50,Tryz.results50,List.replicate_succ,hne,hm',hla,hlp,b47,hp,hp2,h7'];exact aQy hB (h6:=(hQ' _ hT 0 0 [] [] [] false 0))
     ·have h7':¬(s.length:Int)<7:=by omega
      have h7'':7<=s.length:=by omega
      have hp:(s==[42])=false:=by
       rcases hpath with hp|⟨hp,_⟩
       ·exact hp
       ·have:s=[42]:=by simpa using hp
        rw[this]at h7;simp at h7
      simp[Tryz.ntmps50,Tryz.results50,List.replicate_succ,hne,hm',hla,hlp,b47,hp,h7',h7''];refine qdv E _ _ (s.take 7) (by rw[zqJ];simp only[cap];omega) ?_;by_cases hsch:low (s.take 7)=[104,116,116,112,58,47,47]
      ·rw[if_neg (fun h=>h.elim h7 (fun h=>h hsch))]at hT;obtain⟨R,hR⟩:=exz (s.drop 7);have hRl:R.length=s.length-7:=by rw[<-hR,zqI]
       rw[hR]at hT;simp[hsch];refine qaB (rfpI m s H) (fun fr _=>s.length-(ai (aget fr 10)).toNat) ⟨rfl,7,by omega,h7'',by simp,friz⟩ ?_;rintro fr K ⟨rfl,i,hi7,hi,hall,x,rfl⟩;rw[hR]at hall;have w1:IntKind.i64.wrap ((i:Int)+1)=i+1:=wiz;have hRi:∀b,s[i]? =some b->R[i-7]? =some b:=fun b hb=>by rw[<-hR,zqN,show 7+(i-7)=i by omega];exact hb
       have hdi:s.drop i=R.drop (i-7):=by rw[<-hR,List.drop_drop,show 7+(i-7)=i by omega]
       have hi7':(7:Int)<=i:=by omega
       by_cases hlt:i<s.length
       ·obtain⟨b,hb⟩:∃b,s[i]? =some b:=⟨_,zqD hlt⟩
        have la:=qaq hb;have hRb:=hRi b hb;by_cases q47:b=47
        ·subst q47;obtain⟨e1,e2⟩:=qj3 nsl R (i-7) (by omega) hall (fun c hc=>by rw[hRb]at hc;obtain rfl:=Option.some.inj hc;rfl);simp[hlt,la,hi7,hi7',hi,hR];have hrl:(R.take (i-7)).length<=1073741824:=by rw[zqJ];omega
         refine qgs E _ (R.take (i-7)) hrl (fun h p e hA=>?_);rw[e1,e2,hA]at hT;simp only at hT;by_cases he:e=0
         ·subst he;rw[if_neg (by simp)]at hT;simp;refine qeR E _ 2 p h [] [] false s i hi (by omega) (fun fm pt h pa qu hq v=>?_);rw[hdi];simp[tgV];exact aQy hB (h6:=(hQ' _ hT fm pt h pa qu hq v))
         ·have h52:e=52:=by have:=qg9 (R.take (i-7));rw[hA]at this;exact this.resolve_left he
          subst h52;rw[if_pos he]at hT;simp;exact aQy hB (h6:=(hQ' _ hT 0 0 [] [] [] false 7))
        ·have b1:=(qaw b 47 (by decide) 47 rfl q47).1;have b2:=(qaw b 47 (by decide) 47 rfl q47).2;by_cases q63:b=63
         ·subst q63;obtain⟨e1,e2⟩:=qj3 nsl R (i-7) (by omega) hall (fun c hc=>by rw[hRb]at hc;obtain rfl:=Option.some.inj hc;rfl);simp[hlt,la,hi7,hi7',hi,hR];have hrl:(R.take (i-7)).length<=1073741824:=by rw[zqJ];omega
          refine qgs E _ (R.take (i-7)) hrl (fun h p e hA=>?_);rw[e1,e2,hA]at hT;simp only at hT;by_cases he:e=0
          ·subst he;rw[if_neg (by simp)]at hT;simp;refine qeR E _ 2 p h [] [] false s i hi (by omega) (fun fm pt h pa qu hq v=>?_);rw[hdi];simp[tgV];exact aQy hB (h6:=(hQ' _ hT fm pt h pa qu hq v))
          ·have h52:e=52:=by have:=qg9 (R.take (i-7));rw[hA]at this;exact this.resolve_left he
           subst h52;rw[if_pos he]at hT;simp;exact aQy hB (h6:=(hQ' _ hT 0 0 [] [] [] false 7))
         ·have b3:=(qaw b 63 (by decide) 63 rfl q63).1;have b4:=(qaw b 63 (by decide) 63 rfl q63).2;simp[hlt,la,b1,b2,b3,b4,w1];refine Klz ⟨rfl,i+1,by omega,by omega,?_,friz⟩;rw[hR,show i+1-7=(i-7)+1 by omega,List.take_add_one,hRb,List.all_append,hall];simp[nsl,q47,q63]
       ·obtain⟨e1,e2⟩:=qj3 nsl R (i-7) (by omega) hall (fun c hc=>by have:=(zqC.1 hc).1;omega);simp[hlt,hi7,hi7',hi,hR];have hrl:(R.take (i-7)).length<=1073741824:=by rw[zqJ];omega
        refine qgs E _ (R.take (i-7)) hrl (fun h p e hA=>?_);rw[e1,e2,hA]at hT;simp only at hT;by_cases he:e=0
        ·subst he;rw[if_neg (by simp)]at hT;simp;refine qeR E _ 2 p h [] [] false s i hi (by omega) (fun fm pt h pa qu hq v=>?_);rw[hdi];simp[tgV];exact aQy hB (h6:=(hQ' _ hT fm pt h pa qu hq v))
        ·have h52:e=52:=by have:=qg9 (R.take (i-7));rw[hA]at this;exact this.resolve_left he
         subst h52;rw[if_pos he]at hT;simp;exact aQy hB (h6:=(hQ' _ hT 0 0 [] [] [] false 7))
      ·have hsch':(low (s.take 7)==[104,116,116,112,58,47,47])=false:=by simpa using hsch
       have hsch2:(low (s.take 7) !=[104,116,116,112,58,47,47])=true:=by simpa using hsch
       rw[if_pos (.inr hsch)]at hT;simp[hsch',hsch2];exact aQy hB (h6:=(hQ' _ hT 0 0 [] [] [] false 0))
def rfhI(l:List Fld)(old:Bool)(v:List UInt8)(H:Hp)(fr:List AV)(K:Hp):Prop:=K=H/\∃i:Nat,i<=v.length/\(v.take i).any (fun b=>decide (b.toNat<33)||decide (126<b.toNat)||[34,35,47,60,62,63,64,92].contains b)=false/\
 ∃x:Nat->AV,fr=[.sl false 2 (flds l),.bool old,x 2,x 3,.str [],.bool false,.int .i64 0,.sl false 1 (strs [v]),.int .i64 (i:Int),x 9,x 10,x 11,x 12,x 13,x 14,x 15,x 16,x 17,x 18,x 19,x 20,x 21,x 22,x 23,x 24,x 25,x 26,x 27,x 28,x 29,x 30,x 31,x 32,x 33,x 34,x 35,x 36,x 37,x 38,x 39,x 40,x 41,x 42,x 43,x 44,x 45]
theorem qnJ(l:List Fld)(old:Bool)(hl:fsz l+l.length<=4194304)(hQ:∀h ok e,qe3 l old=(h,ok,e)->Q (.tup [.str h,.bool ok,.int .i64 e]) H):PC Tryz.prog E 94 [.sl false 2 (flds l),.bool old] H Q:=by
 refine qac Tryz.func94 rfl [] [] (by kernel_rfl) (fun hB=>?_);simp[Tryz.ntmps94,Tryz.results94,List.replicate_succ];refine qgV E _ _ l [72,111,115,116] (by omega) (by decide) ?_;unfold qe3 at hQ;have hsz:=qff l [72,111,115,116];rcases hal:allB l [72,111,115,116]with _|⟨v,_|⟨w,t⟩⟩
 ·rw[hal]at hQ;cases old
  ·simp[strs];exact aQz hB (h6:=(hQ _ _ _ rfl))
  ·simp[strs];exact aQz hB (h6:=(hQ _ _ _ rfl))
 ·rw[hal]at hQ hsz;dsimp only at hQ;have hvl:=hsz v (.head _);have hat:lat (strs [v]) 0=some [AV.str v]:=rfl;simp[hat];refine qaB (rfhI l old v H) (fun fr _=>v.length-(ai (aget fr 8)).toNat) ⟨rfl,0,by omega,by simp,qam (by simp[strs])⟩ ?_;rintro fr K ⟨rfl,i,hi,hA,x,rfl⟩;by_cases h:i<v.length
  ·obtain⟨b,hb⟩:∃b,v[i]? =some b:=⟨_,zqD h⟩
   have la:=qaq hb;have w1:IntKind.i64.wrap ((i:Int)+1)=i+1:=wiz
   have hst:(v.take (i+1)).any (fun b=>decide (b.toNat<33)||decide (126<b.toNat)||[34,35,47,60,62,63,64,92].contains b)=((v.take i).any (fun b=>decide (b.toNat<33)||decide (126<b.toNat)||[34,35,47,60,62,63,64,92].contains b)||(decide (b.toNat<33)||decide (126<b.toNat)||[34,35,47,60,62,63,64,92].contains b)):=by
    rw[List.take_add_one,hb,List.any_append];simp
   have hsp:(decide (b.toNat<33)||decide (126<b.toNat)||[34,35,47,60,62,63,64,92].contains b)=true->v.any (fun b=>decide (b.toNat<33)||decide (126<b.toNat)||[34,35,47,60,62,63,64,92].contains b)=true:=fun hh=>List.any_eq_true.2 ⟨b,zqH hb,hh⟩;have i1:=qdT [34,35,47,60,62,63,64,92] b;by_cases h33:b.toNat<33
   ·have g1:(b.toNat:Int)<33:=by omega
    rw[hsp (by simp[h33])]at hQ;simp[h,hat,la,g1];exact aQz hB (h6:=(hQ _ _ _ rfl))
   ·have g1:¬(b.toNat:Int)<33:=by omega
    by_cases h126:126<b.toNat
    ·have g2:(126:Int)<b.toNat:=by omega
     rw[hsp (by simp[h126])]at hQ;simp[h,hat,la,g1,g2];exact aQz hB (h6:=(hQ _ _ _ rfl))
    ·have g2:¬(126:Int)<b.toNat:=by omega
     simp[h,hat,la,g1,g2];refine qgN E _ _ [34,35,47,60,62,63,64,92] b (by decide) ?_;cases hc:([34,35,47,60,62,63,64,92]:List UInt8).contains b with
     |true=>
      rw[hc]at i1;have j1:0<=Lib.indexByte [34,35,47,60,62,63,64,92] b:=by simpa using i1
      rw[hsp (by rw[hc];simp)]at hQ;simp[j1];exact aQz hB (h6:=(hQ _ _ _ rfl))
     |false=>
      rw[hc]at i1;have j1:¬0<=Lib.indexByte [34,35,47,60,62,63,64,92] b:=by simpa using i1
      simp[j1,w1];exact Klz ⟨rfl,i+1,by omega,by rw[hst,hA,hc];simp[h33,h126],qam (by simp[strs])⟩
  ·obtain rfl:i=v.length:=by omega
   rw[List.take_length]at hA;rw[hA]at hQ;simp[hat];exact aQz hB (h6:=(hQ _ _ _ rfl))
 ·rw[hal]at hQ;have g:(1:Int)<(t.length:Int)+1+1:=by omega
  have g0:((t.length:Int)+1+1==0)=false:=by rw[beq_eq_false_iff_ne];omega
  simp[strs,g,g0];exact aQz hB (h6:=(hQ _ _ _ rfl))
end
def SR.us(u:Int):SR->Prop
 | .go p1 _=>p1.used=u
 | .bad p1 _ _ _=>p1.used=u
theorem qol(p:Prs):(qa1 p).us p.used:=by
 unfold qa1 qcK qao;dsimp only
 repeat' split
 all_goals rfl
theorem qnw(p:Prs)(m:Md)(c:UInt8):(qbr p m c).us p.used:=by
 cases m
 ·show(qcC p c).us p.used;unfold qcC qbz qao
  repeat' split
  all_goals rfl
 ·show(qa6 p c).us p.used;unfold qa6 qao
  repeat' split
  all_goals rfl
 ·show(qbz p c).us p.used;unfold qbz qao
  repeat' split
  all_goals rfl
 ·show(qb3 p c).us p.used;unfold qb3 qao
  repeat' split
  all_goals rfl
 ·show(qcd p c).us p.used;unfold qcd qao;dsimp only
  repeat' split
  all_goals rfl
 ·show(qbA p c).us p.used;unfold qbA qao;dsimp only
  repeat' split
  all_goals first
   |rfl
   |exact qol _
 ·show(qbH p c).us p.used;unfold qbH qcK;dsimp only;split<;>rfl
 ·show(qa2 p c).us p.used;unfold qa2 qcK qao;split
  ·rfl
  ·dsimp only
   repeat' split
   all_goals rfl
theorem qoD{p p1:Prs}{m:Md}{c:UInt8}{st err at_:Int}(hs:qbr p m c= .bad p1 st err at_):p1.used=p.used:=by
 have:=qnw p m c;rw[hs]at this;exact this
theorem qnj{p p1:Prs}{m:Md}{c:UInt8}{nx:Option Md}(hs:qbr p m c= .go p1 nx):p1.used=p.used:=by
 have:=qnw p m c;rw[hs]at this;exact this
def SR.fit(n:Nat):SR->Prop
 | .go p1 nx=>fitP (n+1) {p1 with nx:=nx,used:=p1.used+1}
 | .bad ..=>True
theorem fitP.up{n:Nat}{p:Prs}(h:fitP n p)(nx:Option Md)(hnx:nx≠some .target)(hnl:nx≠some .line):fitP (n+1) {p with nx:=nx,used:=p.used+1}:=
 ⟨by have:=h.a;simp only;omega,by have:=h.b;simp only;omega,fun d hd=>⟨(h.c d hd).1,by have:=(h.c d hd).2;omega⟩,h.lt,h.lh,h.lf,h.lb,by have:=h.head;simp only;omega,by have:=h.left;simp only;omega,by have:=h.used;simp only;omega,by have:=h.beg;simp only;omega,h.asc,fun e=>absurd e hnx,fun e=>absurd e hnl,by have:=h.tr;simp only;omega,by have:=h.rb;simp only;omega⟩
theorem qoa{t:List UInt8}{c:UInt8}(h:∀k x,t[k]? =some x->qaJ k x=true)(hc:qaJ t.length c=true)(k:Nat)(x:UInt8)(hx:(t++[c])[k]? =some x):qaJ k x=true:=by
 rcases(by omega:k<t.length\/k=t.length\/t.length<k)with hk|rfl|hk
 ·rw[zqA hk]at hx;exact h k x hx
 ·simp at hx;subst hx;exact hc
 ·rw[zqB (by omega),List.getElem?_eq_none (by simp;omega)]at hx;cases hx
theorem qhH{n:Nat}{p:Prs}(h:fitP n p)(c:UInt8):(qbz p c).fit n:=by
 have ha:=h.a;unfold qbz qao;split
 ·split
  ·trivial
  ·exact{h.up none (by decide) (by decide)with tx:=(fun e=>by cases e),ln:=(fun e=>by cases e),a:=by simp only[zqK,zqL,List.length_nil];omega}
 ·split
  ·exact{h.up none (by decide) (by decide)with tx:=(fun _ x hx=>by simp at hx),ln:=(fun e=>by cases e),a:=by simp only[List.length_nil];omega}
  ·trivial
theorem qgJ(l:List Fld)(f:Fld):fsz (l++[f])=fsz l+(f.name.length+f.value.length):=by
 induction l with
 |nil=>simp[fsz]
 |cons a l ih=>simp only[List.cons_append,fsz,ih];omega
theorem qlt{l:List UInt8}(h:(qaO l).2.2=0):(qaO l).1.name.length+(qaO l).1.value.length+1<=l.length:=by
 unfold qaO at h⊢;split at h
 ·cases h
 ·split at h
  ·cases h
  ·split at h
   ·cases h
   ·split at h
    ·cases h
    ·split at h
     ·cases h
     ·split at h
      ·cases h
      ·rename_i h1 h2 h3 h4 h5 h6;rw[if_neg h1,if_neg h2,if_neg h3,if_neg h4,if_neg h5,if_neg h6];have:=qj4 (l.drop (run ncol l+1));simp only[zqJ,zqI]at this⊢;omega
theorem qsE(l:List UInt8)(hl:l.length<=8388608):0<=(qaO l).2.1/\(qaO l).2.1<=16777216:=by
 have h1:=qbh ncol l;have h2:=qbh fcB (l.drop (run ncol l+1));have h3:=qbh qah (l.drop (run ncol l+1));rw[zqI]at h2 h3;unfold qaO
 repeat' split
 all_goals (simp only;omega)
theorem qmw{n:Nat}{p:Prs}(h:fitP (n+1) p)(hu:p.used<=n):(qa1 p).fit n:=by
 unfold qa1 qcK qao;dsimp only;have h':∀nx,nx≠some .target->nx≠some .line->fitP (n+1) {p with nx:=nx,used:=p.used+1}:=fun nx hnx hnl=>{h with used:=(by have:=h.used;simp only;omega),tx:=(fun e=>absurd e hnx),ln:=fun e=>absurd e hnl}
 repeat' split
 all_goals first
  |trivial
  |skip
 ·exact{h' none (by decide) (by decide)with tx:=(fun e=>by cases e),ln:=(fun e=>by cases e),c:=fun d hd=>by cases hd;exact⟨qsx _ _ _ (by have:=h.lb;omega) (by have:=h.lh;omega) (by have:=h.lf;omega),Nat.zero_le _⟩}
 ·exact{h' none (by decide) (by decide)with tx:=(fun e=>by cases e),ln:=(fun e=>by cases e),left:=by have:=h.lb;simp only;omega}
 ·exact{h' none (by decide) (by decide)with rb:=h.b,tx:=(fun e=>by cases e),ln:=fun e=>by cases e}
theorem qp4{n:Nat}{p:Prs}(h:fitP n p)(m:Md)(hm:p.nx=some m)(c:UInt8):(qbr p m c).fit n:=by
 have ha:=h.a;have hu:=h.used;cases m
 ·show(qcC p c).fit n;unfold qcC;split
  ·exact h.up _ (by decide) (by decide)
  ·exact qhH (p:={p with state:=1}) {h with} c
 ·show(qa6 p c).fit n;unfold qa6 qao;split
  ·trivial
  ·exact h.up _ (by decide) (by decide)
 ·exact qhH h c
 ·show(qb3 p c).fit n;unfold qb3 qao;split
  ·split
   ·trivial
   ·exact{h.up none (by decide) (by decide)with ln:=(fun e=>by cases e),tx:=(fun _ x hx=>by simp only[List.mem_append,List.mem_singleton]at hx;exact hx.elim (fun hx=>h.tx hm x hx) (fun hx=>by subst hx;omega)),a:=by simp only[zqK,zqL,List.length_nil];omega}
  ·split
   ·exact{h.up none (by decide) (by decide)with tx:=(fun e=>by cases e),ln:=(fun _ k x hx=>by simp at hx),asc:=h.tx hm,a:=by simp only[List.length_nil];omega}
   ·trivial
 ·show(qcd p c).fit n;unfold qcd qao;split
  ·trivial
  ·rename_i hgood;split
   ·exact{h.up none (by decide) (by decide)with tx:=(fun e=>by cases e),ln:=(fun _ k x hx=>qoa (h.ln hm) (by simpa using hgood) k x hx),a:=by simp only[zqK,zqL,List.length_nil];omega}
   ·dsimp only;split
    ·trivial
    ·split
     ·trivial
     ·exact{h.up none (by decide) (by decide)with tx:=(fun e=>by cases e),ln:=(fun e=>by cases e),a:=by simp only[List.length_nil];omega,beg:=by simp only;omega}
 ·show(qbA p c).fit n;have hh:=h.head;unfold qbA qao;split
  ·trivial
  ·split
   ·trivial
   ·split
    ·exact{h.up none (by decide) (by decide)with tx:=(fun e=>by cases e),ln:=(fun e=>by cases e),a:=by simp only[zqK,zqL,List.length_nil];omega,head:=by simp only;omega}
    ·rename_i g1 g2 g3;dsimp only;split
     ·exact qmw {h with tr:=(by have:=h.tr;simp only;omega),rb:=(by have:=h.rb;simp only;omega),tx:=(fun _ x hx=>by simp at hx),ln:=(fun _ k x hx=>by simp at hx),a:=by simp only[List.length_nil];omega,b:=by have:=h.b;simp only;omega,c:=fun d hd=>⟨(h.c d hd).1,by have:=(h.c d hd).2;omega⟩,head:=by simp only;omega,left:=by have:=h.left;simp only;omega,used:=by simp only;omega,beg:=by have:=h.beg;simp only;omega} hu.2
     ·split
      ·trivial
      ·split
       ·trivial
       ·rename_i g4 g5 g6;have h0:(qaO p.text.dropLast).2.2=0:=by simpa using g6
        have h1:=qlt h0;rw[List.length_dropLast]at h1;exact{h.up none (by decide) (by decide)with tx:=(fun e=>by cases e),ln:=(fun e=>by cases e),a:=by simp only[qgJ,zqK,zqL,List.length_nil];omega,head:=by simp only;omega,beg:=by simp only;omega}
 ·show(qbH p c).fit n;have hb:=h.b;have hl:=h.left;unfold qbH qcK;dsimp only;split
  ·exact{h.up none (by decide) (by decide)with tx:=(fun e=>by cases e),ln:=(fun e=>by cases e),b:=by simp only[zqK,zqL,List.length_nil];omega,left:=by simp only;omega}
  ·exact{h.up none (by decide) (by decide)with tx:=(fun e=>by cases e),ln:=(fun e=>by cases e),rb:=(by simp only[zqK,zqL,List.length_nil];omega),b:=by simp only[zqK,zqL,List.length_nil];omega,left:=by simp only;omega}
 ·show(qa2 p c).fit n;unfold qa2 qcK qao;split
  ·trivial
  ·rename_i d hd;obtain⟨k1,k2⟩:=h.c d hd;obtain⟨f1,f2⟩:=qit [c] d k1;have f3:(qav d [c]).2<=1:=by simp only[qav];split<;>simp
   have hb:(qav d [c]).1.body.length<=(qav d [c]).1.total:=f1.2.1;have f4:(qav d [c]).1.total<=n+1:=by omega
   have f5:(qav d [c]).1.body.length<=n+1:=by omega
   have f6:(qav d [c]).1.trailers.length<=n+1:=by have:(qav d [c]).1.trailers.length<=(qav d [c]).1.total:=f1.2.2.1;omega
   have hc:∀d',some (qav d [c]).1=some d'->okD d'/\d'.total<=n+1:=fun d' hd'=>by cases hd';exact⟨f1,f4⟩
   dsimp only
   repeat' split
   all_goals first
    |trivial
    |exact{h.up none (by decide) (by decide)with tx:=(fun e=>by cases e),ln:=(fun e=>by cases e),c:=hc}
    |exact{h.up none (by decide) (by decide)with tx:=(fun e=>by cases e),ln:=(fun e=>by cases e),c:=hc,b:=f5,rb:=f5,tr:=f6}
theorem qrE{n:Nat}{p p1:Prs}{m:Md}{c:UInt8}{nx:Option Md}(h:fitP n p)(hm:p.nx=some m)(hs:qbr p m c= .go p1 nx):fitP (n+1) {p1 with nx:=nx,used:=p1.used+1}/\p1.used=p.used:=by
 have:=qp4 h m hm c;rw[hs]at this;exact⟨this,qnj hs⟩
inductive Pln:AV->Prop
 |int (k n):Pln (.int k n)
 |bool (b):Pln (.bool b)
 |str (s):Pln (.str s)
 |agg (l) (h:∀x∈l,Pln x):Pln (.agg l)
 |tup (l) (h:∀x∈l,Pln x):Pln (.tup l)
attribute [simp] Pln.int Pln.bool Pln.str
@[simp] theorem pln_agg (l:List AV):Pln (.agg l)↔∀x∈l,Pln x:=⟨fun h=>by cases h;assumption,.agg l⟩
@[simp] theorem pln_tup (l:List AV):Pln (.tup l)↔∀x∈l,Pln x:=⟨fun h=>by cases h;assumption,.tup l⟩
section
variable {P:Program}{E:Env}{w:World}{β:Nat->Nat}{Rd:Nat->Nat->Prop}{Ow:Nat->Option Hold}{H:Hp}
end
section
variable {K:Hp}{c:Nat}(h:c<K.length)
include h
end
theorem qcU{N:Nat}{H J:Hp}(h:BndH N H)(h2:∀l∈J,∀x∈l,Bnd N x):BndH N (H++J):=fun l hl x hx=>by
 rcases List.mem_append.1 hl with h'|h'
 ·exact h l h' x hx
 ·exact h2 l h' x hx
theorem qd2{N M:Nat}{H:Hp}(h:BndH N H)(hm:N<=M):BndH M H:=fun l hl x hx=>(h l hl x hx).mono hm
theorem qdG{N:Nat}{H:Hp}(h:BndH N H)(c:Nat){l:List AV}(hl:∀x∈l,Bnd N x):BndH N (H.set c l):=fun m hm x hx=>by
 rcases List.mem_or_eq_of_mem_set hm with h1|rfl
 ·exact h m h1 x hx
 ·exact hl x hx
theorem qbk{P:Program}{rs:List ResultVar}{n:Nat}{Q:AV->Hp->Prop}{fr:List AV}{H':Hp}{v:AV}(h1:ares P fr H' rs=some v)(h3:n<=H'.length)(h4:BndH H'.length H')(h5:Bnd H'.length v)(h6:Q v H'):
  qbU P rs n Q .ret fr H':=⟨v,v,H',H',[],h1,qaa _,qbX _,(List.append_nil H').symm,h3,h4,h5,h6⟩
def smp(y:AV):Prop:=Pln y/\y.one=true
@[simp] theorem smp_int (k n):smp (.int k n):=⟨.int _ _,rfl⟩
@[simp] theorem smp_bool (b):smp (.bool b):=⟨.bool _,rfl⟩
@[simp] theorem smp_str (s):smp (.str s):=⟨.str _,rfl⟩
section
variable {K:Hp}{G:Nat->Prop}{v:AV}{n k:Nat}{C C':Nat->AV->Prop}
end
section
variable {P:Program}{E:Env}{w w':World}{β β':Nat->Nat}{Rd Rd':Nat->Nat->Prop}{Ow Ow':Nat->Option Hold}{fr:List AV}{H K:Hp}{tmps:Array Value}
def qrs(w:World)(β:Nat->Nat)(Ow:Nat->Option Hold)(N:Nat):Nat->Prop:=fun b=>b<w.heap.size/\(∀i,i<N->β i≠b)/\Ow b=none
theorem S3.start(hr:HR E w β Rd Ow H)(hl:fr.length=tmps.size)(h:∀(t:Nat) x u,fr[t]? =some x->tmps[t]? =some u->Rel w β Rd x u/\Bnd H.length x)(hf:∀x∈fr,x.free=true):S3 E w (qrs w β Ow H.length) Rd w β Rd Ow fr H tmps:=by
 refine⟨hr,⟨hl,fun t x u hx hu=>?_⟩,⟨fun b hb=>hb.1,fun _ _=>rfl,fun b hb=>hb.2.2,fun b i hb hi=>hb.2.1 i hi,fun _ _ _ h=>h,rfl,rfl,rfl,Nat.le_refl _,fun _ _ h=>⟨h,rfl⟩⟩,fun x hx=>qbb (hf x hx)⟩;obtain⟨r1,r2⟩:=h t x u hx hu;exact⟨r1,r2,fun g hg=>by rw[qaH (hf x (qan hx))]at hg;cases hg⟩
theorem S3.post(hS:S3 E w (qrs w β Ow H.length) Rd w' β' Rd' Ow' fr K tmps)(hβ:∀i,i<H.length->β' i=β i)(hl:H.length<=K.length)(k:IntKind)(z:Int):Post E w β Rd Ow H w' β' Rd' Ow' K (.int k z) (.int k z):=
 ⟨.int _ _,.int _ _,(fun g hg=>by cases hg),rfl,hS.hr,hβ,hl,fun g o hg=>hS.fo.keep g o hg,fun b hb h1 h2=>⟨hS.fo.same b ⟨hb,h1,h2⟩,hS.fo.own b ⟨hb,h1,h2⟩,fun i hi=>hS.fo.box b i ⟨hb,h1,h2⟩ hi,fun o ho=>hS.fo.rd b o ⟨hb,h1,h2⟩ ho⟩,hS.fo.os,hS.fo.tape,hS.fo.output,hS.fo.size⟩
theorem cut4{a b c d:Code}{Q:Exit->Act->World->Prop}{x:Act}(h:∀T:Code,(∃_:Unit,T=d)->(Code.seq a (.seq b (.seq c T))).wp P Q x w):(Code.seq a (.seq b (.seq c d))).wp P Q x w:=h d ⟨(),rfl⟩
end
def qrQ(E:Env)(b:Nat):Prop:=∀(K:Hp) (j:Nat) (p:Prs) (m:Md) (c:UInt8) (n:Nat) (Q:AV->Hp->Prop) (R:Value->Hp->Prop),fitP n p->n<4194304->p.nx=some m->PB K b j p->
 (∀p1 nx j1 K1,qbr p m c= .go p1 nx->PB K1 b j1 p1->(p1.dec.isSome=true->(p.dec.isSome=true/\j1=j)\/K.length<=j1)->OthP K K1 b j p.dec.isSome->BndH K1.length K1->Q (nxV b nx) K1)->
 (∀p1 st err at_ j1 K1,qbr p m c= .bad p1 st err at_->PB K1 b j1 p1->(p1.dec.isSome=true->(p.dec.isSome=true/\j1=j)\/K.length<=j1)->OthP K K1 b j p.dec.isSome->BndH K1.length K1->R (qcj st err at_) K1)->
 PX Tryz.prog E m.fid [.ptr (some (b,0)),.int .u8 (c.toNat:Int)] K Q R
theorem qcr(p:Prs)(s:List UInt8):(qaf p s).2<=s.length:=by
 induction s generalizing p with
 |nil=>exact Nat.le_refl _
 |cons c r ih=>
  unfold qaf;split
  ·simp
  ·split
   ·have:=ih;simp only[zqL];rename_i p1 nx _;have:=ih {p1 with nx:=nx,used:=p1.used+1};omega
   ·simp
theorem qoH{fr:List AV}{K:Hp}{q:Nat}{z:Int}(h4:fr[4]? =some (.ptr (some (q,0))))(hk:K[q]? =some [.int .i64 z]):ares Tryz.prog fr K (Tryz.f23).results.toList=some (.int .i64 z):=by
 rw[Tryz.results23];simp[ares,qjU,ares1,List.getD,h4,hk]
theorem Prs.bnd{b j N:Nat}{p:Prs}(hb:b<N)(hj:∀d,p.dec=some d->j<N):∀z∈p.av b j,Bnd N z:=by
 intro z hz
 have hn:Bnd N (nxV b p.nx):=by
  cases p.nx with
  |none=>exact .raw _
  |some m=>exact .fn _ _ fun x hx=>by simp at hx;subst hx;exact .tup _ fun y hy=>by simp at hy;subst hy;exact .ptr _ _ hb
 have hd:Bnd N (.ptr (p.dec.map fun _=>(j,0))):=by
  cases h:p.dec with
  |none=>exact .ptr0
  |some d=>exact .ptr _ _ (hj d h)
 simp only[Prs.av,List.mem_cons,List.not_mem_nil,or_false]at hz;rcases hz with rfl|rfl|rfl|rfl|rfl|rfl|rfl|rfl|rfl|rfl|rfl|rfl|rfl|rfl|rfl|rfl|rfl|rfl|rfl|rfl|rfl|rfl|rfl|rfl|rfl
 all_goals first
  |exact hn
  |exact hd
  |exact qbZ _ _ _
  |exact .sl _ _ _ (qkS _)
  |constructor
section
variable (E:Env){H:Hp}(Q:AV->Hp->Prop)
structure FdJ (H:Hp) (b j:Nat) (p:Prs) (N:Nat) (s:List UInt8) (n:Nat) (j':Nat) (p':Prs) (K:Hp):Prop where
 le:n<=s.length
 pb:PB K b j' p'
 fit:p'.nx≠none->fitP (N+n) p'
 fd:qaf p s=((qaf p' (s.drop n)).1,(qaf p' (s.drop n)).2+n)
 k0:K[H.length]? =some [.ptr (some (b,0))]
 k1:K[H.length+1]? =some [.int .i64 (n:Int)]
 len:H.length+2<=K.length
 oth:∀i,i<H.length->i≠b->(p.dec.isSome=true->i≠j)->K[i]? =H[i]?
 jj:p'.dec.isSome=true->(p.dec.isSome=true/\j'=j)\/H.length+2<=j'
def fdI(H:Hp)(b j:Nat)(p:Prs)(N:Nat)(s:List UInt8)(fr:List AV)(K:Hp):Prop:=∃n j' p',FdJ H b j p N s n j' p' K/\BndH K.length K/\
 ∃x:Nat->AV,fr=[.ptr (some (b,0)),.str s,.ptr (some (H.length,0)),x 3,.ptr (some (H.length+1,0)),x 5,x 6,x 7,x 8,x 9,x 10,x 11,x 12,x 13,x 14,x 15,x 16,x 17,x 18,x 19,x 20,x 21,x 22,x 23,x 24,x 25,x 26,x 27,x 28,x 29,x 30,x 31,x 32,x 33,x 34,x 35,x 36,x 37,x 38,x 39]
theorem qeT{b j:Nat}{p:Prs}(hp:PB H b j p){N:Nat}(hf:p.nx≠none->fitP N p)(hst:∀E':Env,E'.w0=E.w0->E'.Fix=E.Fix->qrQ E' b)(s:List UInt8)(hM:N+(qaf p s).2<=4194304)(hsl:s.length<=1073741824)
  (hQ:∀j1 K1,PB K1 b j1 (qaf p s).1->((qaf p s).1.dec.isSome=true->(p.dec.isSome=true/\j1=j)\/H.length<=j1)->OthP H K1 b j p.dec.isSome->BndH K1.length K1->Q (.int .i64 (qaf p s).2) K1):
  PC Tryz.prog E 23 [.ptr (some (b,0)),.str s] H Q:=by
 have hmf:∀(fn:Fn) (first cap:Array Value) (w:World),(Instr.makeFunc fn first cap).run Tryz.prog w= .ok (.func fn first cap) w:=fun _ _ _ _=>rfl
 obtain⟨R0,hR0⟩:∃R0:List AV->Value->Hp->Prop,R0=fun fr v K=>fr[4]? =some (.ptr (some (H.length+1,0)))/\∃(n j':Nat) (p' p1:Prs) (j1:Nat) (st err at_:Int),v=qcj st err at_/\n+1=(qaf p s).2/\(qaf p s).1=(SR.bad p1 st err at_).prs/\PB K b j1 p1/\
   0<=p1.used/\p1.used<=1099511627776/\K[H.length]? =some [.ptr (some (b,0))]/\K[H.length+1]? =some [.int .i64 (n:Int)]/\H.length+2<=K.length/\(∀i,i<H.length->i≠b->(p.dec.isSome=true->i≠j)->K[i]? =H[i]?)/\(p1.dec.isSome=true->(p.dec.isSome=true/\j1=j)\/H.length+2<=j1):=⟨_,rfl⟩
 refine PC.env (E:=E) (E':={E with pan:=R0,S:=fun i=>i=H.length}) rfl rfl ?_;obtain⟨E',hE'⟩:∃E':Env,E'={E with pan:=R0,S:=fun i=>i=H.length}:=⟨_,rfl⟩
 rw[<-hE'];refine⟨by kernel_rfl,fun w β Rd Ow cargs hr hcell hsz hargs=>?_⟩;obtain⟨u0,u1,rfl,hu,hv⟩:=args2 hsz fun t x u hx hu=>(hargs t x u hx hu).1;obtain⟨ss,rfl,hss,hs⟩:=qax hv;obtain rfl:=qds hu
 go_enter_defers Tryz.func23,Tryz.ntmps23
 refine cut4 fun T hT=>?_
 go_wp2
 obtain⟨_,rfl⟩:=hT;show Code.wp _ _ (bodyPostD Tryz.prog Tryz.f23 _) _ _;have key:∀(t:Nat) x u,([.ptr (some (b,0)),.str s]:List AV)[t]? =some x->(#[.pointer (some ⟨β b,0,none⟩),.string ss]:Array Value)[t]? =some u->Rel w β Rd x u/\Bnd H.length x:=fun t x u hx hu=>⟨(hargs t x u hx hu).1,(hargs t x u hx hu).2.1⟩
 have b0:S3 E' w (qrs w β Ow H.length) Rd w β Rd Ow ([.ptr (some (b,0)),.str s]++List.replicate 38 (.raw undef)) H (#[.pointer (some ⟨β b,0,none⟩),.string ss]++Array.replicate 38 undef):=by
  refine S3.start hr (by simp) (fun t x u hx hu=>?_) (by simp[AV.free]);by_cases ht:t<2
  ·rw[zqA (by simpa using ht)]at hx;rw[Array.getElem?_append_left (by simpa using ht)]at hu;exact key t x u hx hu
  ·rw[zqB (by simpa using ht),List.getElem?_replicate]at hx;rw[Array.getElem?_append_right (by simpa using ht),Array.getElem?_replicate]at hu;split at hx
   ·cases hx;split at hu
    ·cases hu;exact⟨.raw _,.raw _⟩
    ·cases hu
   ·cases hx
 have hbl:b<H.length:=(zqC.1 hp.row).1
 have b1:=b0.newBox [.ptr (some (b,0))] #[.pointer (some ⟨β b,0,none⟩)] 45 rfl (fun k x u hx hu=>by
  match k with
  |0=>simp at hx hu;subst hx;subst hu;exact⟨.ptr _ _,rfl,.ptr _ _ hbl,fun g hg=>by cases hg⟩
  |k+1=>simp at hx) (qn1 b0) (fun t ht=>by simp at ht)
 have b2:=b1.newBox [.int .i64 0] #[.int .i64 0] 3 rfl (fun k x u hx hu=>by
  match k with
  |0=>simp at hx hu;subst hx;subst hu;exact⟨.int _ _,rfl,.int _ _,fun g hg=>by cases hg⟩
  |k+1=>simp at hx) (qn1 b1) (fun t ht=>by simp at ht)
 have hs1:(w.alloc (.cells #[.pointer (some ⟨β b,0,none⟩)] 45)).heap.size=w.heap.size+1:=by simp
 have e1:H++[[AV.ptr (some (b,0))]]++[[AV.int .i64 0]]=H++[[.ptr (some (b,0))],[.int .i64 0]]:=by simp
 have e2:(H++[[AV.ptr (some (b,0))]]).length=H.length+1:=by simp
 rw[e1,e2,hs1]at b2;obtain⟨β2,hβ2⟩:∃β2,β2=bup (bup β H.length w.heap.size) (H.length+1) (w.heap.size+1):=⟨_,rfl⟩
 rw[<-hβ2]at b2;have c0:β2 H.length=w.heap.size:=by rw[hβ2,qdE (by omega),qci]
 have c1:β2 (H.length+1)=w.heap.size+1:=by rw[hβ2,qci]
 have b3:=b2.put 2 (v:= .ptr (some (H.length,0))) (c:= .pointer (some ⟨w.heap.size,0,none⟩)) (by have:=Rel.ptr (w:=(w.alloc (.cells #[.pointer (some ⟨β b,0,none⟩)] 45)).alloc (.cells #[.int .i64 0] 3)) (β:=β2) (Rd:=Rd) H.length 0;rw[c0]at this;exact this) (.ptr _ _ (by simp)) rfl (fun g hg=>by cases hg);have b4:=b3.put 4 (v:= .ptr (some (H.length+1,0))) (c:= .pointer (some ⟨w.heap.size+1,0,none⟩)) (by have:=Rel.ptr (w:=(w.alloc (.cells #[.pointer (some ⟨β b,0,none⟩)] 45)).alloc (.cells #[.int .i64 0] 3)) (β:=β2) (Rd:=Rd) (H.length+1) 0;rw[c1]at this;exact this) (.ptr _ _ (by simp)) rfl (fun g hg=>by cases hg);have b5:=b4.put 5 (v:= .raw (.pointer (some ⟨β b,0,none⟩))) (c:= .pointer (some ⟨β b,0,none⟩)) (.raw _) (.raw _) rfl (fun g hg=>by cases hg);have b6:=b5.put 6 (v:= .bool false) (c:= .bool false) (.bool _) (.bool _) rfl (fun g hg=>by cases hg);have b7:=b6.put 7 (v:= .raw (.func (.func 43) #[] #[.pointer (some ⟨w.heap.size,0,none⟩),.pointer (some ⟨w.heap.size+1,0,none⟩)])) (c:= .func (.func 43) #[] #[.pointer (some ⟨w.heap.size,0,none⟩),.pointer (some ⟨w.heap.size+1,0,none⟩)]) (.raw _) (.raw _) rfl (fun g hg=>by cases hg);clear b0 b1 b2 b3 b4 b5 b6;simp[Array.replicate_succ,List.replicate_succ]at b7;have hst':=hst E' (by rw[hE']) (by rw[hE']);have hpan:E'.pan=R0:=by rw[hE']
 have hSS:E'.S=fun i=>i=H.length:=by rw[hE']
 have hdj:∀d,p.dec=some d->j<H.length:=fun d hd=>(zqC.1 (hp.dec d hd).2).1;have hβH:∀i,i<H.length->β2 i=β i:=fun i hi=>by rw[hβ2,qdE (by omega),qdE hi]
 refine qrZ (E:=E') (B:=[]) (ND:=[(5,[8,8,2,0,0,0,0,0,0,0,3,0,0,0])]) (n:=H.length+2) (β0:=β2) (by kernel_rfl) (fun id m hm=>absurd hm (qd7 (by rfl) id m)) _ (fun e fr' K'=>(e= .normal\/e= .ret)/\∃z,ares Tryz.prog fr' K' (Tryz.f23).results.toList=some (.int .i64 z)/\Q (.int .i64 z) K') _ _ _ _ _ (by kernel_rfl) (.inr ?_)
  ⟨rfl,by simp,β2,Rd,Ow,b7,fun i hi=>rfl⟩ ?_ ?_
 ·intro fr H1 a w1 cv hs hk;obtain⟨hd,hn,β',Rd',Ow',hS',hβ'⟩:=hs;rw[hpan,hR0]at hk;obtain⟨hfr4,n,j',p',p1,j1,st,err,at_,rfl,hn1,hp1,hPB,hu1,hu2,k0,k1,hlen,hoth,hjj⟩:=hk;have hfr:fr[4]? =some (.ptr (some (H.length+1,0))):=by rw[List.getElem?_take]at hfr4;simpa using hfr4
  have bb0:β' H.length=w.heap.size:=(hβ' _ (by omega)).trans c0;have bb1:β' (H.length+1)=w.heap.size+1:=(hβ' _ (by omega)).trans c1;have hnle:=qcr p s;obtain⟨T0,cs0,g0,gs0,gr0⟩:=hS'.hr.box _ _ k0;obtain⟨T1,cs1,g1,gs1,gr1⟩:=hS'.hr.box _ _ k1;obtain⟨T2,cs2,g2,gs2,gr2⟩:=hS'.hr.box _ _ hPB.row;obtain⟨z0,rfl⟩:∃z0,cs0= #[z0]:=by match cs0,gs0 with|⟨[z]⟩,_=>exact⟨z,rfl⟩
  obtain⟨z1,rfl⟩:∃z1,cs1= #[z1]:=by match cs1,gs1 with|⟨[z]⟩,_=>exact⟨z,rfl⟩
  obtain rfl:=qds (gr0 0 _ z0 rfl rfl).1;obtain rfl:=qay (gr1 0 _ z1 rfl rfl).1;obtain⟨c0,c1,c2,c3,c4,c5,c6,c7,c8,c9,c10,c11,c12,c13,c14,c15,c16,c17,c18,c19,c20,c21,c22,c23,c24,rfl⟩:∃c0 c1 c2 c3 c4 c5 c6 c7 c8 c9 c10 c11 c12 c13 c14 c15 c16 c17 c18 c19 c20 c21 c22 c23 c24,cs2= #[c0,c1,c2,c3,c4,c5,c6,c7,c8,c9,c10,c11,c12,c13,c14,c15,c16,c17,c18,c19,c20,c21,c22,c23,c24]:=by match cs2,gs2 with|⟨[c0,c1,c2,c3,c4,c5,c6,c7,c8,c9,c10,c11,c12,c13,c14,c15,c16,c17,c18,c19,c20,c21,c22,c23,c24]⟩,_=>exact⟨c0,c1,c2,c3,c4,c5,c6,c7,c8,c9,c10,c11,c12,c13,c14,c15,c16,c17,c18,c19,c20,c21,c22,c23,c24,rfl⟩
  obtain rfl:=qay (gr2 6 _ c6 rfl rfl).1;rw[bb0]at g0;rw[bb1]at g1;show Leaves _ _ a.tmps _ a.defers (.panicking [_]) w1;rw[hd];refine leaves_cons (f:=43) (args:= #[.pointer (some ⟨w.heap.size,0,none⟩),.pointer (some ⟨w.heap.size+1,0,none⟩)]) (by simp) (by simp[go_sem]) ?_;have nb0:w.heap.size≠β' b:=by rw[<-bb0];exact fun e=>by have:=hS'.hr.inj _ _ (by omega) (by omega) e;omega
  have nb1:w.heap.size+1≠β' b:=by rw[<-bb1];exact fun e=>by have:=hS'.hr.inj _ _ (by omega) (by omega) e;omega
  refine(qg6 w.heap.size (w.heap.size+1) (β' b) T2 T0 T1 n p1.used st err at_ c0 c1 c2 c3 c4 c5 c7 c8 c9 c10 c11 c12 c13 c14 c15 c16 c17 c18 c19 c20 c21 c22 c23 c24 w1 g0 g1 g2 nb0 nb1).mono ?_;rintro e u' w2 ⟨rfl,rfl,rfl⟩;have wu:wrap64 (p1.used+1)=p1.used+1:=by unfold wrap64;omega
  have wn:wrap64 ((n:Int)+1)=((n+1:Nat):Int):=by unfold wrap64;omega
  have hb1:b<H1.length:=by omega
  have s1:=hS'.store b _ hPB.row 14 [.int .i64 st,.int .i64 err,.int .i64 at_] [.int .i64 st,.int .i64 err,.int .i64 at_] rfl (by simp[Prs.av]) (fun k x u hx hu=>by
   match k with
   |0=>simp at hx hu;subst hx;subst hu;exact⟨.int _ _,rfl,.int _ _,fun g hg=>by cases hg⟩
   |1=>simp at hx hu;subst hx;subst hu;exact⟨.int _ _,rfl,.int _ _,fun g hg=>by cases hg⟩
   |2=>simp at hx hu;subst hx;subst hu;exact⟨.int _ _,rfl,.int _ _,fun g hg=>by cases hg⟩
   |k+3=>simp at hx) (fun t ht=>by simp at ht)
  have s2:=s1.store b _ (zqO hb1) 5 [.int .i64 5] [.int .i64 5] rfl (by simp[Prs.av,setR]) (fun k x u hx hu=>by
   match k with
   |0=>simp at hx hu;subst hx;subst hu;exact⟨.int _ _,rfl,.int _ _,fun g hg=>by cases hg⟩
   |k+1=>simp at hx) (fun t ht=>by simp at ht)
  have s3:=s2.store b _ (zqO (by simpa using hb1)) 4 [.raw .nilFunc] [.nilFunc] rfl (by simp[Prs.av,setR]) (fun k x u hx hu=>by
   match k with
   |0=>simp at hx hu;subst hx;subst hu;exact⟨.raw _,rfl,.raw _,fun g hg=>by cases hg⟩
   |k+1=>simp at hx) (fun t ht=>by simp at ht)
  have s4:=s3.store b _ (zqO (by simpa using hb1)) 6 [.int .i64 (p1.used+1)] [.int .i64 (p1.used+1)] rfl (by simp[Prs.av,setR]) (fun k x u hx hu=>by
   match k with
   |0=>simp at hx hu;subst hx;subst hu;exact⟨.int _ _,rfl,.int _ _,fun g hg=>by cases hg⟩
   |k+1=>simp at hx) (fun t ht=>by simp at ht)
  have hbne:b≠H.length+1:=by omega
  have s5:=s4.store (H.length+1) [.int .i64 (n:Int)] (by rw[zqF hbne,zqF hbne,zqF hbne,zqF hbne];exact k1) 0 [.int .i64 ((n+1:Nat):Int)] [.int .i64 ((n+1:Nat):Int)] rfl (by simp) (fun k x u hx hu=>by
   match k with
   |0=>simp at hx hu;subst hx;subst hu;exact⟨.int _ _,rfl,.int _ _,fun g hg=>by cases hg⟩
   |k+1=>simp at hx) (fun t ht=>by simp at ht)
  clear s1 s2 s3 s4;obtain⟨K2,hK2⟩:∃K2,K2=(H1.set b ((SR.bad p1 st err at_).prs.av b j1)).set (H.length+1) [.int .i64 ((n+1:Nat):Int)]:=⟨_,rfl⟩
  have s6:S3 E' w (qrs w β Ow H.length) Rd (qo4 w1 (β' b) (w.heap.size+1) p1.used n st err at_) β' Rd' Ow' fr K2 a.tmps:=by
   rw[hK2];have q:=s5;rw[bb1]at q;simp only[List.set_set]at q;unfold qo4;rw[wu,wn];exact q
  have k2b:K2[b]? =some ((SR.bad p1 st err at_).prs.av b j1):=by rw[hK2,zqF (Ne.symm hbne),zqO hb1]
  have k2n:K2[H.length+1]? =some [.int .i64 ((n+1:Nat):Int)]:=by rw[hK2,zqO (by simp;omega)]
  have k2o:∀i,i≠b->i≠H.length+1->K2[i]? =H1[i]? :=fun i h1 h2=>by rw[hK2,zqF (Ne.symm h2),zqF (Ne.symm h1)]
  have k2l:K2.length=H1.length:=by rw[hK2];simp
  have hres:=qoH (fr:=fr) (K:=K2) hfr k2n;obtain⟨c,Ow2,fr2,hrun,hS2,hrel,_,_⟩:=qiI (a:=a) s6 hres;obtain rfl:=qay hrel;show Leaves _ _ a.tmps _ [] (settle (.panicking [_])) _;refine⟨_,hrun,_,.int .i64 ((n+1:Nat):Int),K2,β',Rd',Ow2,rfl,?_,S3.post hS2 (fun i hi=>(hβ' i (by omega)).trans (hβH i hi)) (by omega) _ _⟩
  have hdec:∀d,p1.dec=some d->j1≠b/\K2[j1]? =some d.av:=fun d hd=>by
   obtain⟨q1,q2⟩:=hPB.dec d hd;refine⟨q1,?_⟩;rw[k2o j1 q1 (fun e=>?_)]
   ·exact q2
   ·rcases hjj (by rw[hd];rfl)with⟨h1,h2⟩|h1
    ·obtain⟨d0,hd0⟩:=Option.isSome_iff_exists.1 h1;have:=hdj d0 hd0;omega
    ·omega
  have:=hQ j1 K2 (by rw[hp1];exact⟨k2b,hdec⟩) (fun h=>by
   rw[hp1]at h
   exact(hjj h).imp id (fun h=>by omega)) ⟨by omega,fun i hi h1 h2=>by rw[k2o i h1 (by omega)];exact hoth i hi h1 h2⟩ s6.hr.bnd
  rw[<-hn1]at this;exact this
 ·simp;refine qaB (fdI H b j p N s) (fun fr K=>s.length-(match K[H.length+1]? with|some [x]=>(ai x).toNat|_=>0)) ⟨0,j,p,⟨Nat.zero_le _,⟨by rw[zqA hbl];exact hp.row,fun d hd=>⟨(hp.dec d hd).1,by rw[zqA (hdj d hd)];exact(hp.dec d hd).2⟩⟩,hf,by simp,by simp,by simp,by simp,fun i hi _ _=>zqA hi,fun h=> .inl ⟨h,rfl⟩⟩,b7.hr.bnd,friz⟩ ?_;rintro fr K ⟨n,j',p',hJ,hBK,x,rfl⟩;have hrow:=hJ.pb.row;have hk0:=hJ.k0;have hk1:=hJ.k1;have hle:=hJ.le;have hfd:=hJ.fd;have hkl:=hJ.len;have hset:K.set (H.length+1) [.int .i64 (n:Int)]=K:=qeN hk1;simp[Prs.av]at hrow
  have stop:qaf p' (s.drop n)=(p',0)->Q (.int .i64 (n:Int)) K:=fun h0=>by
   rw[h0]at hfd;have:=hQ j' K (by rw[hfd];exact hJ.pb) (fun h=>by rw[hfd]at h;exact(hJ.jj h).imp id (fun h=>by omega)) ⟨by omega,hJ.oth⟩ hBK;rw[hfd]at this;simpa using this
  by_cases h1:n<s.length
  ·obtain⟨c,hc⟩:∃c,s[n]? =some c:=⟨_,zqD h1⟩
   have hat:lat s n=some c:=qaq hc;have hdr:=qas s n c hc;cases hnx:p'.nx with
   |none=>
    simp[hk0,hk1,hrow,h1,hnx,nxV,hset];exact stop (by rw[hdr];simp[qaf,hnx])
   |some m=>
    have hJf:=hJ.fit (by rw[hnx];simp);have hfu:=hJf.used;simp[hk0,hk1,hrow,h1,hnx,nxV,hat];refine⟨by rw[hSS],?_⟩
    have hcnt:n<(qaf p s).2:=by
     rw[hfd,hdr];simp only[qaf,hnx];split<;>simp<;>omega
    have kj:p'.dec.isSome=true->j'≠H.length/\j'≠H.length+1:=fun h=>by
     rcases hJ.jj h with⟨h2,rfl⟩|h2
     ·obtain⟨d0,hd0⟩:=Option.isSome_iff_exists.1 h2;have:=hdj d0 hd0;omega
     ·omega
    refine hst' K j' p' m c (N+n) _ _ hJf (by omega) hnx hJ.pb ?_ ?_
    ·intro p1 nx j1 K1 hgo hpb1 hj1 hoth1 hB1;obtain⟨hfit1,hused⟩:=qrE hJf hnx hgo;have hrow1:=hpb1.row;simp[Prs.av]at hrow1;have o0:K1[H.length]? =K[H.length]? :=hoth1.2 _ (by omega) (by omega) (fun h=>fun e=>(kj h).1 e.symm);have o1:K1[H.length+1]? =K[H.length+1]? :=hoth1.2 _ (by omega) (by omega) (fun h=>fun e=>(kj h).2 e.symm);rw[hk0]at o0;rw[hk1]at o1;have hb1:b<K1.length:=by have:=hoth1.1;omega
     have hb1':¬K1.length<=b:=by omega
     have wu:IntKind.i64.wrap (p1.used+1)=p1.used+1:=wiz;have wn:IntKind.i64.wrap ((n:Int)+1)=n+1:=wiz;have e1:b≠H.length:=by omega
     have e2:b≠H.length+1:=by omega
     have fin:∀fr' K',(∃x:Nat->AV,fr'=[.ptr (some (b,0)),.str s,.ptr (some (H.length,0)),x 3,.ptr (some (H.length+1,0)),x 5,x 6,x 7,x 8,x 9,x 10,x 11,x 12,x 13,x 14,x 15,x 16,x 17,x 18,x 19,x 20,x 21,x 22,x 23,x 24,x 25,x 26,x 27,x 28,x 29,x 30,x 31,x 32,x 33,x 34,x 35,x 36,x 37,x 38,x 39])->K'=(K1.set b (({p1 with nx:=nx,used:=p1.used+1}:Prs).av b j1)).set (H.length+1) [.int .i64 ((n:Int)+1)]->fdI H b j p N s fr' K':=fun fr' K' hfr hK=>by
      have hl':K'.length=K1.length:=by rw[hK];simp
      have hat1:∀i,i≠b->i≠H.length+1->K'[i]? =K1[i]? :=fun i h2 h3=>by rw[hK,zqF (Ne.symm h3),zqF (Ne.symm h2)]
      have hfeed:qaf p' (s.drop n)=((qaf {p1 with nx:=nx,used:=p1.used+1} (s.drop (n+1))).1,(qaf {p1 with nx:=nx,used:=p1.used+1} (s.drop (n+1))).2+1):=by
       rw[hdr];simp only[qaf,hnx,hgo]
      refine⟨n+1,j1,{p1 with nx:=nx,used:=p1.used+1},⟨by omega,⟨by rw[hK,zqF (Ne.symm e2)];exact zqO hb1,fun d hd=>?_⟩,fun _=>by rw[<-Nat.add_assoc];exact hfit1,by rw[hfd,hfeed];simp[Nat.add_assoc,Nat.add_comm],by rw[hat1 _ (Ne.symm e1) (by omega)];exact o0,by rw[hK,zqO (by simp;have:=hoth1.1;omega)];simp,by rw[hl'];have:=hoth1.1;omega,fun i hi h2 h3=>?_,fun h=>?_⟩,?_,hfr⟩
      ·obtain⟨q1,q2⟩:=hpb1.dec d hd;refine⟨q1,?_⟩;rw[hat1 j1 q1 (fun e=>?_)]
       ·exact q2
       ·rcases hj1 (by rw[show p1.dec=some d from hd];rfl)with⟨h4,rfl⟩|h4
        ·exact(kj h4).2 e
        ·omega
      ·rw[hat1 i h2 (by omega),hoth1.2 i (by omega) h2 (fun h=>fun e=>?_)]
       ·exact hJ.oth i hi h2 h3
       ·rcases hJ.jj h with⟨h4,rfl⟩|h4
        ·exact h3 h4 e
        ·omega
      ·rcases hj1 h with⟨h4,rfl⟩|h4
       ·exact hJ.jj h4
       ·exact .inr (by omega)
      ·rw[hl',hK];refine qdG (qdG hB1 _ ?_) _ ?_
       ·exact Prs.bnd hb1 (fun d hd=>(zqC.1 (hpb1.dec d hd).2).1)
       ·intro z hz;simp at hz;subst hz;exact .int _ _
     have kdec:((n:Int).toNat)=n:=rfl;have gs0:∀x,(K1.set b x)[H.length]? =some [.ptr (some (b,0))]:=fun x=>by rw[zqF e1];exact o0
     have gs1:∀x,(K1.set b x)[H.length+1]? =some [.int .i64 (n:Int)]:=fun x=>by rw[zqF e2];exact o1
     have gs2:∀x,(K1.set b x)[b]? =some x:=fun x=>zqO hb1;have hms:∀X,((K1.set b X).set (H.length+1) [.int .i64 ((n:Int)+1)])[H.length+1]? =some [.int .i64 ((n:Int)+1)]:=fun X=>zqO (by simp;have:=hoth1.1;omega);have nf1:Value.nilFunc.oneCell'=true:=rfl;cases nx with
     |none=>
      simp[qal,KP,hSS,o0,o1,hrow1,nxV,hk0,zqO hb1,gs0,gs1,gs2,nf1,wu,wn];exact⟨hoth1.1,qaD (fin _ _ (friz) (by simp[Prs.av,nxV])) (by simp[hms];exact Nat.sub_lt_sub_left h1 (Nat.lt_succ_self n))⟩
     |some m1=>
      simp[qal,KP,hSS,o0,o1,hrow1,nxV,hk0,zqO hb1,gs0,gs1,gs2,nf1,wu,wn];exact⟨hoth1.1,qaD (fin _ _ (friz) (by simp[Prs.av,nxV])) (by simp[hms];exact Nat.sub_lt_sub_left h1 (Nat.lt_succ_self n))⟩
    ·intro p1 st err at_ j1 K1 hbad hpb1 hj1 hoth1 hB1;have hused:=qoD hbad;have o0:K1[H.length]? =K[H.length]? :=hoth1.2 _ (by omega) (by omega) (fun h=>fun e=>(kj h).1 e.symm);have o1:K1[H.length+1]? =K[H.length+1]? :=hoth1.2 _ (by omega) (by omega) (fun h=>fun e=>(kj h).2 e.symm);rw[hk0]at o0;rw[hk1]at o1;rw[hpan,hR0]
     have hfp:qaf p' (s.drop n)=((SR.bad p1 st err at_).prs,1):=by
      rw[hdr];simp only[qaf,hnx,hbad]
     rw[hfp]at hfd;refine⟨rfl,n,j',p',p1,j1,st,err,at_,rfl,by rw[hfd];simp;omega,by rw[hfd],hpb1,by omega,by omega,o0,o1,by have:=hoth1.1;omega,fun i hi h2 h3=>?_,fun h=>?_⟩
     ·rw[hoth1.2 i (by omega) h2 (fun h=>fun e=>?_)]
      ·exact hJ.oth i hi h2 h3
      ·rcases hJ.jj h with⟨h4,rfl⟩|h4
       ·exact h3 h4 e
       ·omega
     ·rcases hj1 h with⟨h4,rfl⟩|h4
      ·exact hJ.jj h4
      ·exact .inr (by omega)
  ·simp[hk0,hk1,hrow,h1,hset];have hn:n=s.length:=by omega
   exact stop (by rw[hn,List.drop_length];rfl)
 ·rintro e fr' K' a w' hs ⟨he,z,hres,hq⟩;obtain⟨hd,hn,β',Rd',Ow',hS',hβ'⟩:=hs;obtain⟨c,Ow2,fr2,hrun,hS2,hrel,_,_⟩:=qiI (a:=a) hS' hres;obtain rfl:=qay hrel
  have fin:Leaves Tryz.prog Tryz.f23 a.tmps (fun e w'=>∃c v H' β' Rd' Ow',e= .returned c/\Q v H'/\Post E' w β Rd Ow H w' β' Rd' Ow' H' v c) a.defers .returning w':=by
   rw[hd];refine leaves_cons (f:=43) (args:= #[.pointer (some ⟨w.heap.size,0,none⟩),.pointer (some ⟨w.heap.size+1,0,none⟩)]) (by simp) (by simp[go_sem]) ?_;refine(qmP _ _ _).mono ?_;rintro e u' w2 ⟨rfl,rfl,rfl⟩;show Leaves _ _ a.tmps _ [] (settle .returning) _;exact⟨_,hrun,_,.int .i64 z,K',β',Rd',Ow2,rfl,hq,S3.post hS2 (fun i hi=>(hβ' i (by omega)).trans (hβH i hi)) (by omega) _ _⟩
  rcases he with rfl|rfl
  ·exact fin
  ·exact fin
end
def qk0(E:Env)(b:Nat)(f:FuncId)(S:Prs->UInt8->SR):Prop:=∀(K:Hp) (j:Nat) (p:Prs) (c:UInt8) (n:Nat) (Q:AV->Hp->Prop) (R:Value->Hp->Prop),fitP n p->n<4194304->PB K b j p->
 (∀p1 nx j1 K1,S p c= .go p1 nx->PB K1 b j1 p1->(p1.dec.isSome=true->(p.dec.isSome=true/\j1=j)\/K.length<=j1)->OthP K K1 b j p.dec.isSome->BndH K1.length K1->Q (nxV b nx) K1)->
 (∀p1 st err at_ j1 K1,S p c= .bad p1 st err at_->PB K1 b j1 p1->(p1.dec.isSome=true->(p.dec.isSome=true/\j1=j)\/K.length<=j1)->OthP K K1 b j p.dec.isSome->BndH K1.length K1->R (qcj st err at_) K1)->
 PX Tryz.prog E f [.ptr (some (b,0)),.int .u8 (c.toNat:Int)] K Q R
theorem OthP.refl(K:Hp)(b j:Nat)(d:Bool):OthP K K b j d:=⟨Nat.le_refl _,fun _ _ _ _=>rfl⟩
theorem OthP.put(K:Hp)(b j:Nat)(d:Bool)(x:List AV):OthP K (K.set b x) b j d:=⟨by simp,fun i _ h _=>zqF (Ne.symm h)⟩
theorem PB.lt{K:Hp}{b j:Nat}{p:Prs}(h:PB K b j p):b<K.length:=(zqC.1 h.row).1
theorem PB.put{K:Hp}{b j:Nat}{p p1:Prs}(h:PB K b j p)(hd:p1.dec=p.dec):PB (K.set b (p1.av b j)) b j p1:=
 ⟨zqO h.lt,fun d hd1=>by
  obtain⟨q1,q2⟩:=h.dec d (by rw[<-hd];exact hd1)
  exact⟨q1,by rw[zqF (Ne.symm q1)];exact q2⟩⟩
theorem PB.bnd{K:Hp}{b j:Nat}{p p1:Prs}(h:PB K b j p)(hd:p1.dec=p.dec):∀z∈p1.av b j,Bnd K.length z:=
 Prs.bnd h.lt fun d hd1=>(zqC.1 (h.dec d (by rw[<-hd];exact hd1)).2).1
theorem qaY{N b:Nat}(hb:b<N)(m:Option Md):Bnd N (nxV b m):=by
 cases m with
 |none=>exact .raw _
 |some m=>exact .fn _ _ fun x hx=>by simp at hx;subst hx;exact .tup _ fun y hy=>by simp at hy;subst hy;exact .ptr _ _ hb
theorem SE.env{E E':Env}(h:SE E)(h0:E'.w0=E.w0)(hF:E'.Fix=E.Fix):SE E':=⟨by rw[hF];exact h.1,by rw[h0];exact h.2⟩
theorem qaW(l:List UInt8)(c:UInt8):bts l++[[.int .u8 (c.toNat:Int)]]=bts (l++[c]):=by simp[bts]
theorem qcb(b j:Nat)(p:Prs)(h:p.text=[]):nilL [AV.int .i64 p.lt,.int .i64 p.lh,.int .i64 p.lf,.int .i64 p.lb,nxV b p.nx,.int .i64 p.state,.int .i64 p.used,.str p.meth,.str p.targ,.int .i64 p.major,.int .i64 p.minor,.sl true 2 (flds p.fields),.str p.rbody,.sl false 2 (flds p.trailers),
 .int .i64 p.fst_,.int .i64 p.ferr,.int .i64 p.fat,.nil,.str [],.int .i64 p.head,.int .i64 p.begin_,.int .i64 p.left,.sl true 1 (bts p.body),.ptr (p.dec.map fun _=>(j,0)),.bool p.bodied] (p.av b j):=by
 unfold Prs.av;rw[h];exact⟨.inl rfl,.inl rfl,.inl rfl,.inl rfl,.inl rfl,.inl rfl,.inl rfl,.inl rfl,.inl rfl,.inl rfl,.inl rfl,.inl rfl,.inl rfl,.inl rfl,.inl rfl,.inl rfl,.inl rfl,.inr ⟨rfl,true,1,rfl⟩,.inl rfl,.inl rfl,.inl rfl,.inl rfl,.inl rfl,.inl rfl,.inl rfl,trivial⟩
theorem qbF(b j:Nat)(p:Prs):nilL [AV.int .i64 p.lt,.int .i64 p.lh,.int .i64 p.lf,.int .i64 p.lb,nxV b p.nx,.int .i64 p.state,.int .i64 p.used,.str p.meth,.str p.targ,.int .i64 p.major,.int .i64 p.minor,.sl true 2 (flds p.fields),.str p.rbody,.sl false 2 (flds p.trailers),
 .int .i64 p.fst_,.int .i64 p.ferr,.int .i64 p.fat,.sl true 1 (bts p.text),.str [],.int .i64 p.head,.int .i64 p.begin_,.int .i64 p.left,.sl true 1 (bts p.body),.ptr (p.dec.map fun _=>(j,0)),.bool p.bodied] (p.av b j):=qbs _
section
variable (E:Env){K:Hp}{b j:Nat}{p:Prs}{Q:AV->Hp->Prop}{R:Value->Hp->Prop}
theorem qaj(hp:PB K b j p)(st err:Int)(hR:R (qcj st err p.used) K):PX Tryz.prog E 86 [.ptr (some (b,0)),.int .i64 st,.int .i64 err] K Q R:=by
 refine qbJ R (fun _=>False) Tryz.func86 rfl [] [(0,[0,0,0,0,0,0,0,3])] (by kernel_rfl) (fun E' hpan hS h0 hF hB=>?_);have hrow:=hp.row;simp[Prs.av]at hrow;simp[Tryz.ntmps86,Tryz.results86,List.replicate_succ,hrow];refine qoK E' _ _ _ _ ?_;rw[hpan];exact hR
theorem qfy(hp:PB K b j p)(hl:p.body.length<=1073741824)(hQ:∀K1,PB K1 b j {p with rbody:=p.body,state:=4}->K1=K.set b (({p with rbody:=p.body,state:=4}:Prs).av b j)->BndH K1.length K1->Q (.raw .nilFunc) K1):PC Tryz.prog E 199 [.ptr (some (b,0))] K Q:=by
 have hrow:=hp.row;have hlt:=hp.lt;have m3:p.body.length<=maxLen:=by unfold maxLen;omega
 simp[Prs.av]at hrow;refine qac Tryz.func199 rfl [] [] (by kernel_rfl) (fun hB=>?_);simp[Tryz.ntmps199,Tryz.results199,List.replicate_succ,hrow,m3,hs0 hlt,hs1 hlt,hs2 hlt,hs3 hlt,hs4 hlt,hs5 hlt];exact qaG hB hlt (qbF b j {p with rbody:=p.body,state:=4}) rfl (hp.bnd (p1:={p with rbody:=p.body,state:=4}) rfl) (.raw _) (hQ _ (hp.put rfl) rfl (qbf hB b (hp.bnd (p1:={p with rbody:=p.body,state:=4}) rfl)))
theorem qmL:qk0 E b 198 qbH:=by
 intro K j p c n Q R hf hn hp hG hR;refine qbJ R (fun _=>False) Tryz.func198 rfl [10] [] (by kernel_rfl) (fun E' hpan hS h0 hF hB=>?_);have hrow:=hp.row;have hlt:=hp.lt;have hb:=hf.b;have hl:=hf.left;simp[Prs.av]at hrow;have m3:p.body.length<=maxLen:=by unfold maxLen;omega
 have m1:p.body.length<=140737488355327:=by omega
 have m4:p.body.length+1<=maxLen:=by unfold maxLen;omega
 have w1:IntKind.i64.wrap (p.left-1)=p.left-1:=wiz;unfold qbH at hG;dsimp only at hG;have h1:PB (K.set b (({p with body:=p.body++[c],bodied:=true,left:=p.left-1}:Prs).av b j)) b j {p with body:=p.body++[c],bodied:=true,left:=p.left-1}:=hp.put rfl;have hb1:=hp.bnd (p1:={p with body:=p.body++[c],bodied:=true,left:=p.left-1}) rfl;by_cases h:0<p.left-1
 ·have h2:1<p.left:=by omega
  simp[Tryz.ntmps198,Tryz.results198,List.replicate_succ,hrow,m1,m3,m4,w1,h2,hs0 hlt,hs1 hlt,hs2 hlt,hs3 hlt,hs4 hlt,hs5 hlt,qaW];exact qaG hB hlt (qbF b j {p with body:=p.body++[c],bodied:=true,left:=p.left-1}) rfl hb1 (qaY hlt (some .counted)) (hG _ (some .counted) j _ (by rw[if_pos h]) h1 (fun h=> .inl ⟨h,rfl⟩) (OthP.put ..) (qbf hB b hb1))
 ·rw[if_neg h]at hG;have h2:¬1<p.left:=by omega
  simp[Tryz.ntmps198,Tryz.results198,List.replicate_succ,hrow,m1,m3,m4,w1,h2,hs0 hlt,hs1 hlt,hs2 hlt,hs3 hlt,hs4 hlt,hs5 hlt,qaW];refine qfy E' (p:={p with body:=p.body++[c],bodied:=true,left:=p.left-1}) h1 (by simp;omega) (fun K1 g1 g2 g3=>?_);simp[qal,KP];subst g2;rw[List.set_set]at g1 g3⊢;exact qbk (v:= .raw .nilFunc) rfl (by simp) g3 (.raw _) (hG _ none j _ rfl g1 (fun h=> .inl ⟨h,rfl⟩) (OthP.put ..) g3)
theorem qkb:qk0 E b 60 qa6:=by
 intro K j p c n Q R hf hn hp hG hR;refine qbJ R (fun _=>False) Tryz.func60 rfl [] [(2,[0,3])] (by kernel_rfl) (fun E' hpan hS h0 hF hB=>?_);by_cases h:c=10
 ·subst h;simp[Tryz.ntmps60,Tryz.results60,List.replicate_succ];exact qat hB rfl (qaa _) (qaY hp.lt (some .start)) (hG p (some .start) j K rfl hp (fun h=> .inl ⟨h,rfl⟩) (OthP.refl ..) hB)
 ·have hb:=(qaw c 10 (by decide) 10 rfl h).2;simp[Tryz.ntmps60,Tryz.results60,List.replicate_succ,hb];refine qaj E' hp _ _ ?_;rw[hpan];exact hR p _ _ _ j K (by unfold qa6;rw[if_pos h];rfl) hp (fun h=> .inl ⟨h,rfl⟩) (OthP.refl ..) hB
theorem qjj(hE:SE E):qk0 E b 61 qbz:=by
 intro K j p c n Q R hf hn hp hG hR;refine qbJ R (fun _=>False) Tryz.func61 rfl [22] [(3,[0,3]),(9,[0,3])] (by kernel_rfl) (fun E' hpan hS h0 hF hB=>?_);have hrow:=hp.row;have hlt:=hp.lt;have ha:=hf.a;simp[Prs.av]at hrow;have m1:p.text.length<=140737488355327:=by omega
 have m2:(1:Nat)<=maxLen:=by unfold maxLen;omega
 have m3:p.text.length<=maxLen:=by unfold maxLen;omega
 have m4:p.text.length+1<=maxLen:=by unfold maxLen;omega
 unfold qbz at hG hR;have hc:(c.toNat:Int)<256:=by have:=c.toNat_lt;omega
 simp[Tryz.ntmps61,Tryz.results61,List.replicate_succ,m2,hc];refine qdg E' _ _ (hE.env h0 hF) [c] (by simp[cap]) ?_;by_cases ht:tokB [c]=true
 ·by_cases hl:p.text.length=24
  ·simp[qal,KP,ht,hrow,hl];refine qaj E' hp _ _ ?_;rw[hpan];exact hR p _ _ _ j K (by rw[if_pos ht,if_pos hl];rfl) hp (fun h=> .inl ⟨h,rfl⟩) (OthP.refl ..) hB
  ·have hl':((p.text.length:Int)==24)=false:=by simpa using fun e:(p.text.length:Int)=24=>hl (by omega)
   simp[qal,KP,ht,hrow,hl',m1,m3,m4,hs0 hlt,hs1 hlt,hs2 hlt,hs3 hlt,hs4 hlt,hs5 hlt,qaW];have h1:PB (K.set b (({p with text:=p.text++[c]}:Prs).av b j)) b j {p with text:=p.text++[c]}:=hp.put rfl;exact qaG hB hlt (qbF b j {p with text:=p.text++[c]}) rfl (hp.bnd (p1:={p with text:=p.text++[c]}) rfl) (qaY hlt (some .method)) (hG _ (some .method) j _ (by rw[if_pos ht,if_neg hl]) h1 (fun h=> .inl ⟨h,rfl⟩) (OthP.put ..) (qbf hB b (hp.bnd (p1:={p with text:=p.text++[c]}) rfl)))
 ·have ht':tokB [c]=false:=by simpa using ht
  by_cases h32:c=32
  ·subst h32;by_cases hne:p.text=[]
   ·simp[qal,KP,ht',hrow,hne];refine qaj E' hp _ _ ?_;rw[hpan];exact hR p _ _ _ j K (by rw[if_neg (by simp[ht']),if_neg (fun h=>h.2 hne)];rfl) hp (fun h=> .inl ⟨h,rfl⟩) (OthP.refl ..) hB
   ·have hpos:0<p.text.length:=List.length_pos_iff.2 hne;simp[qal,KP,ht',hrow,hpos,m3,hs0 hlt,hs1 hlt,hs2 hlt,hs3 hlt,hs4 hlt,hs5 hlt];have h1:PB (K.set b (({p with meth:=p.text,text:=[]}:Prs).av b j)) b j {p with meth:=p.text,text:=[]}:=hp.put rfl;exact qaG hB hlt (qcb b j {p with meth:=p.text,text:=[]} rfl) rfl (hp.bnd (p1:={p with meth:=p.text,text:=[]}) rfl) (qaY hlt (some .target)) (hG _ (some .target) j _ (by rw[if_neg (by simp[ht']),if_pos ⟨rfl,hne⟩]) h1 (fun h=> .inl ⟨h,rfl⟩) (OthP.put ..) (qbf hB b (hp.bnd (p1:={p with meth:=p.text,text:=[]}) rfl)))
  ·have hb:=(qaw c 32 (by decide) 32 rfl h32).1;simp[qal,KP,ht',hb,hrow];refine qaj E' hp _ _ ?_;rw[hpan];exact hR p _ _ _ j K (by rw[if_neg (by simp[ht']),if_neg (fun h=>h32 h.1)];rfl) hp (fun h=> .inl ⟨h,rfl⟩) (OthP.refl ..) hB
theorem qp6(hE:SE E):qk0 E b 39 qcC:=by
 intro K j p c n Q R hf hn hp hG hR;refine qbJ R (fun _=>False) Tryz.func39 rfl [] [(4,[0,0,3,0])] (by kernel_rfl) (fun E' hpan hS h0 hF hB=>?_);have hrow:=hp.row;have hlt:=hp.lt;simp[Prs.av]at hrow;unfold qcC at hG hR;by_cases h13:c=13
 ·subst h13;simp[Tryz.ntmps39,Tryz.results39,List.replicate_succ];exact qat hB rfl (qaa _) (qaY hlt (some .startEnd)) (hG p (some .startEnd) j K (by rw[if_pos rfl]) hp (fun h=> .inl ⟨h,rfl⟩) (OthP.refl ..) hB)
 ·have hb:=(qaw c 13 (by decide) 13 rfl h13).1;have h1:PB (K.set b (({p with state:=1}:Prs).av b j)) b j {p with state:=1}:=hp.put rfl;have hlK:(K.set b (({p with state:=1}:Prs).av b j)).length=K.length:=by simp
  rw[if_neg h13]at hG hR;simp[Tryz.ntmps39,Tryz.results39,List.replicate_succ,hb,hrow,hs0 hlt,hs1 hlt,hs2 hlt,hs3 hlt,hs4 hlt,hs5 hlt];refine qjj E' (hE.env h0 hF) _ j {p with state:=1} c n _ _ {hf with} hn h1 (fun p1 nx j1 K1 g1 g2 g3 g4 g5=>?_) (fun p1 st err at_ j1 K1 g1 g2 g3 g4 g5=>?_)
  ·have g6:OthP K K1 b j p.dec.isSome:=⟨by simpa using g4.1,fun i hi h2 h3=>(g4.2 i (by simpa using hi) h2 h3).trans (zqF (Ne.symm h2))⟩
   have q:=hG p1 nx j1 K1 g1 g2 (fun h=>(g3 h).imp id (fun h=>by simpa using h)) g6 g5;have hK1:=g6.1;cases nx with
   |none=>
    simp[qal,KP,nxV,hS];exact⟨hK1,qbk rfl hK1 g5 (qaY (N:=K1.length) g2.lt none) q⟩
   |some m=>
    simp[qal,KP,nxV,hS];exact⟨hK1,qbk rfl hK1 g5 (qaY (N:=K1.length) g2.lt (some m)) q⟩
  ·rw[hpan];exact hR p1 st err at_ j1 K1 g1 g2 (fun h=>(g3 h).imp id (fun h=>by simpa using h)) ⟨by simpa using g4.1,fun i hi h2 h3=>(g4.2 i (by simpa using hi) h2 h3).trans (zqF (Ne.symm h2))⟩ g5
theorem qns:qk0 E b 87 qb3:=by
 intro K j p c n Q R hf hn hp hG hR;refine qbJ R (fun _=>False) Tryz.func87 rfl [29] [(3,[0,3]),(9,[0,3])] (by kernel_rfl) (fun E' hpan hS h0 hF hB=>?_);have hrow:=hp.row;have hlt:=hp.lt;have ha:=hf.a;simp[Prs.av]at hrow;have m1:p.text.length<=140737488355327:=by omega
 have m3:p.text.length<=maxLen:=by unfold maxLen;omega
 have m4:p.text.length+1<=maxLen:=by unfold maxLen;omega
 unfold qb3 at hG hR;by_cases hr:33<=c.toNat/\c.toNat<=126
 ·have r1:(33:Int)<=c.toNat:=by omega
  have r2:(c.toNat:Int)<=126:=by omega
  by_cases hl:(p.text.length:Int)=p.lt
  ·simp[Tryz.ntmps87,Tryz.results87,List.replicate_succ,r1,r2,hrow,hl];refine qaj E' hp _ _ ?_;rw[hpan];exact hR p _ _ _ j K (by rw[if_pos hr,if_pos hl];rfl) hp (fun h=> .inl ⟨h,rfl⟩) (OthP.refl ..) hB
  ·have hl':((p.text.length:Int)==p.lt)=false:=by simpa using hl
   simp[Tryz.ntmps87,Tryz.results87,List.replicate_succ,r1,r2,hrow,hl',m1,m3,m4,hs0 hlt,hs1 hlt,hs2 hlt,hs3 hlt,hs4 hlt,hs5 hlt,qaW];have h1:PB (K.set b (({p with text:=p.text++[c]}:Prs).av b j)) b j {p with text:=p.text++[c]}:=hp.put rfl;exact qaG hB hlt (qbF b j {p with text:=p.text++[c]}) rfl (hp.bnd (p1:={p with text:=p.text++[c]}) rfl) (qaY hlt (some .target)) (hG _ (some .target) j _ (by rw[if_pos hr,if_neg hl]) h1 (fun h=> .inl ⟨h,rfl⟩) (OthP.put ..) (qbf hB b (hp.bnd (p1:={p with text:=p.text++[c]}) rfl)))
 ·by_cases h32:c=32
  ·subst h32;by_cases hne:p.text=[]
   ·simp[Tryz.ntmps87,Tryz.results87,List.replicate_succ,hrow,hne];refine qaj E' hp _ _ ?_;rw[hpan];exact hR p _ _ _ j K (by rw[if_neg hr,if_neg (fun h=>h.2 hne)];rfl) hp (fun h=> .inl ⟨h,rfl⟩) (OthP.refl ..) hB
   ·have hpos:0<p.text.length:=List.length_pos_iff.2 hne;simp[Tryz.ntmps87,Tryz.results87,List.replicate_succ,hrow,hpos,m3,hs0 hlt,hs1 hlt,hs2 hlt,hs3 hlt,hs4 hlt,hs5 hlt];have h1:PB (K.set b (({p with targ:=p.text,text:=[]}:Prs).av b j)) b j {p with targ:=p.text,text:=[]}:=hp.put rfl;exact qaG hB hlt (qcb b j {p with targ:=p.text,text:=[]} rfl) rfl (hp.bnd (p1:={p with targ:=p.text,text:=[]}) rfl) (qaY hlt (some .line)) (hG _ (some .line) j _ (by rw[if_neg hr,if_pos ⟨rfl,hne⟩]) h1 (fun h=> .inl ⟨h,rfl⟩) (OthP.put ..) (qbf hB b (hp.bnd (p1:={p with targ:=p.text,text:=[]}) rfl)))
  ·have hb:=(qaw c 32 (by decide) 32 rfl h32).1;have hr':¬((33:Int)<=c.toNat/\(c.toNat:Int)<=126):=by omega
   by_cases h33:(33:Int)<=c.toNat
   ·have h126:¬(c.toNat:Int)<=126:=fun h=>hr' ⟨h33,h⟩;simp[Tryz.ntmps87,Tryz.results87,List.replicate_succ,hb,hrow,h33,h126];refine qaj E' hp _ _ ?_;rw[hpan];exact hR p _ _ _ j K (by rw[if_neg hr,if_neg (fun h=>h32 h.1)];rfl) hp (fun h=> .inl ⟨h,rfl⟩) (OthP.refl ..) hB
   ·simp[Tryz.ntmps87,Tryz.results87,List.replicate_succ,hb,hrow,h33];refine qaj E' hp _ _ ?_;rw[hpan];exact hR p _ _ _ j K (by rw[if_neg hr,if_neg (fun h=>h32 h.1)];rfl) hp (fun h=> .inl ⟨h,rfl⟩) (OthP.refl ..) hB
theorem PB.putD{K:Hp}{b j:Nat}{p p1:Prs}{d d1:Dec}(h:PB K b j p)(hd:p.dec=some d)(hd1:p1.dec=some d1):PB ((K.set b (p1.av b j)).set j d1.av) b j p1:=by
 obtain⟨q1,q2⟩:=h.dec d hd;refine⟨by rw[zqF q1];exact zqO h.lt,fun e he=>?_⟩;rw[hd1]at he;cases he;exact⟨q1,zqO (by simp;exact(zqC.1 q2).1)⟩
theorem qmN (hE : SE E) : qk0 E b 197 qa2 := by
  intro K j p c n Q R hf hn hp hG hR
  refine qbJ R (fun _ => False) Tryz.func197 rfl [] [(12, [0, 0, 0, 0, 0, 0, 1]), (7, [0, 0, 3]), (9, [0, 0, 3]), (4, [0, 0, 3])] (by kernel_rfl) (fun E' hpan hS h0 hF hB => ?_)
  have hrow := hp.row
  have hlt := hp.lt
  simp [Prs.av] at hrow
  have hc : (c.toNat : Int) < 256 := by have := c.toNat_lt; omega
  have m2 : (1 : Nat) ≤ maxLen := by unfold maxLen; omega
  have h0p : PB (K.set b (({ p with bodied := true } : Prs).av b j)) b j { p with bodied := true } := hp.put rfl
  have hb0 := qbf hB b (hp.bnd (p1 := { p with bodied := true }) rfl)
  cases hd : p.dec with
  | none =>
    have hSS : qa2 p c = .bad { p with bodied := true } 400 103 p.used := by unfold qa2; rw [hd]; rfl
    simp [Tryz.ntmps197, Tryz.results197, List.replicate_succ, m2, hc, hrow, hd, hs0 hlt, hs1 hlt, hs2 hlt, hs3 hlt, hs4 hlt, hs5 hlt]
    refine qqJ E' _ _ [c] ?_
    simp [qal, KP]
    have e0 : [AV.int .i64 p.lt, .int .i64 p.lh, .int .i64 p.lf, .int .i64 p.lb, nxV b p.nx, .int .i64 p.state, .int .i64 p.used, .str p.meth, .str p.targ, .int .i64 p.major, .int .i64 p.minor, .sl true 2 (flds p.fields), .str p.rbody, .sl false 2 (flds p.trailers), .int .i64 p.fst_, .int .i64 p.ferr, .int .i64 p.fat, .sl true 1 (bts p.text), .str [], .int .i64 p.head, .int .i64 p.begin_, .int .i64 p.left, .sl true 1 (bts p.body), .ptr none, .bool true] = ({ p with bodied := true } : Prs).av b j := by simp [Prs.av, hd]
    rw [e0]
    refine qaj E' h0p _ _ ?_
    rw [hpan]
    exact hR _ _ _ _ j _ hSS h0p (fun h => .inl ⟨h, rfl⟩) (OthP.put ..) hb0
  | some d =>
    obtain ⟨hjb, hjd⟩ := hp.dec d hd
    obtain ⟨ok, tot⟩ := hf.c d hd
    have hj' : (K.set b (({ p with bodied := true } : Prs).av b j))[j]? = some d.av := by rw [zqF (Ne.symm hjb)]; exact hjd
    have hj0 : ∀ x, (K.set b x)[j]? = some d.av := fun x => by rw [zqF (Ne.symm hjb)]; exact hjd
    simp [Tryz.ntmps197, Tryz.results197, List.replicate_succ, m2, hc, hrow, hd, hs0 hlt, hs1 hlt, hs2 hlt, hs3 hlt, hs4 hlt, hs5 hlt]
    have e0 : [AV.int .i64 p.lt, .int .i64 p.lh, .int .i64 p.lf, .int .i64 p.lb, nxV b p.nx, .int .i64 p.state, .int .i64 p.used, .str p.meth, .str p.targ, .int .i64 p.major, .int .i64 p.minor, .sl true 2 (flds p.fields), .str p.rbody, .sl false 2 (flds p.trailers), .int .i64 p.fst_, .int .i64 p.ferr, .int .i64 p.fat, .sl true 1 (bts p.text), .str [], .int .i64 p.head, .int .i64 p.begin_, .int .i64 p.left, .sl true 1 (bts p.body), .ptr (some (j, 0)), .bool true] = ({ p with bodied := true } : Prs).av b j := by simp [Prs.av, hd]
    rw [e0]
    by_cases hdn : d.done = true ∨ d.err ≠ 0
    · have hSS : qa2 p c = .bad { p with bodied := true } 400 103 p.used := by unfold qa2; rw [hd]; exact if_pos hdn
      refine qoG E' _ _ j d hj' (hE.env h0 hF) [c] ok (by simp; omega) (fun h1 h2 => absurd hdn (by simp [h1, h2])) (fun _ => ?_)
      simp [qal, KP]
      refine qaj E' h0p _ _ ?_
      rw [hpan]
      exact hR _ _ _ _ j _ hSS h0p (fun h => .inl ⟨h, rfl⟩) (OthP.put ..) hb0
    · have hSS := fun (d1 : Dec) (h1 : (qav d [c]).1 = d1) => show qa2 p c = (let p1 : Prs := { p with bodied := true, dec := some d1 }
          if d1.err = 102 then qao p1 413 102 else if d1.err = 104 then qao p1 431 104 else if d1.err ≠ 0 then qao p1 400 d1.err else if d1.done = false then .go p1 (some .chunked) else qcK { p1 with body := d1.body, trailers := d1.trailers }) by
        unfold qa2; rw [hd, ← h1]; exact if_neg hdn
      refine qoG E' _ _ j d hj' (hE.env h0 hF) [c] ok (by simp; omega) (fun _ _ => ?_) (fun h => absurd h hdn)
      have ok1 := (qit [c] d ok).1
      have tot1 : (qav d [c]).1.total ≤ n + 1 := by
        have := (qit [c] d ok).2
        have := qlH [c] d
        simp only [zqL, List.length_nil] at this
        omega
      obtain ⟨d1, hd1⟩ := exz ((qav d [c]).1)
      have hS1 := hSS d1 hd1
      clear hSS
      rw [hd1] at ok1 tot1 ⊢
      rw [hS1] at hG hR
      clear hS1 hd1
      dsimp only at hG hR
      obtain ⟨K2, hK2⟩ := exz ((K.set b (({ p with bodied := true } : Prs).av b j)).set j d1.av)
      rw [hK2]
      have hp2 : PB K2 b j { p with bodied := true, dec := some d1 } := by
        have := hp.putD (p1 := { p with bodied := true, dec := some d1 }) hd rfl
        have e1 : ({ p with bodied := true, dec := some d1 } : Prs).av b j = ({ p with bodied := true } : Prs).av b j := by simp [Prs.av, hd]
        rw [e1, hK2] at this
        exact this
      have ho2 : OthP K K2 b j p.dec.isSome := by
        rw [← hK2, hd]
        exact ⟨by simp, fun i hi h1 h2 => by rw [zqF (Ne.symm (h2 rfl)), zqF (Ne.symm h1)]⟩
      have hl2 : K2.length = K.length := by rw [← hK2]; simp
      have hlt2 : b < K2.length := hp2.lt
      have hb2 : BndH K2.length K2 := by
        rw [hl2, ← hK2]
        refine qdG (by have := hb0; rwa [List.length_set] at this) _ fun z hz => Dec.bnd d1 _ z hz
      have hrow2 := hp2.row
      simp [Prs.av] at hrow2
      have hd2 : K2[j]? = some d1.av := (hp2.dec d1 rfl).2
      have jj : ∀ (x : Prs), x.dec.isSome = true → (p.dec.isSome = true ∧ j = j) ∨ K.length ≤ j := fun _ _ => .inl ⟨by rw [hd]; rfl, rfl⟩
      clear hK2
      have bad : ∀ st err, qao { p with bodied := true, dec := some d1 } st err = .bad { p with bodied := true, dec := some d1 } st err p.used := fun _ _ => rfl
      by_cases e102 : d1.err = 102
      · simp [qal, KP, e102]
        refine qaj E' hp2 _ _ ?_
        rw [hpan]
        exact hR _ _ _ _ j K2 (by rw [if_pos e102]; rfl) hp2 (jj _) ho2 hb2
      · by_cases e104 : d1.err = 104
        · simp [qal, KP, e104]
          refine qaj E' hp2 _ _ ?_
          rw [hpan]
          exact hR _ _ _ _ j K2 (by rw [if_neg e102, if_pos e104]; rfl) hp2 (jj _) ho2 hb2
        · have f102 : (d1.err == 102) = false := by simpa using e102
          have f104 : (d1.err == 104) = false := by simpa using e104
          by_cases e0' : d1.err = 0
          · simp [qal, KP, e0', hrow2]
            refine qsT E' _ _ j d1 hd2 ?_
            by_cases hdd : d1.done = true
            · simp [qal, KP, hdd, hrow2]
              have lb1 : d1.body.length ≤ 1073741824 := by have := ok1.2.1; omega
              have lt1 : d1.trailers.length ≤ 1073741824 := by have := ok1.2.2.1; omega
              have mb : d1.body.length ≤ maxLen := by unfold maxLen; omega
              refine qs7 E' _ _ j d1 hd2 lb1 ?_
              simp [qal, KP, qag, hrow2, mb]
              refine qj6 E' _ _ j d1 hd2 lt1 ?_
              simp [qal, KP, qag, hrow2, hs0 hlt2, hs1 hlt2, hs2 hlt2, hs3 hlt2, hs4 hlt2, hs5 hlt2]
              have h3 : PB (K2.set b (({ p with bodied := true, dec := some d1, body := d1.body, trailers := d1.trailers } : Prs).av b j)) b j { p with bodied := true, dec := some d1, body := d1.body, trailers := d1.trailers } := hp2.put rfl
              refine qfy E' (p := { p with bodied := true, dec := some d1, body := d1.body, trailers := d1.trailers }) h3 lb1 (fun K1 g1 g2 g3 => ?_)
              simp [qal, KP]
              subst g2
              rw [List.set_set] at g1 g3 ⊢
              exact qbk (v := .raw .nilFunc) rfl (by simp; omega) g3 (.raw _) (hG _ none j _ (by rw [if_neg e102, if_neg e104, if_neg (fun h => h e0'), if_neg (by simp [hdd])]; rfl) g1 (jj _) ⟨by simp; omega, fun i hi h1 h2 => by rw [zqF (Ne.symm h1)]; exact ho2.2 i hi h1 h2⟩ g3)
            · have hdd' : d1.done = false := by simpa using hdd
              simp [qal, KP, hdd', hrow2]
              exact qbk (v := nxV b (some .chunked)) rfl (by omega) hb2 (qaY hlt2 (some .chunked)) (hG _ _ j K2 (by rw [if_neg e102, if_neg e104, if_neg (fun h => h e0'), if_pos hdd']) hp2 (jj _) ho2 hb2)
          · have f0 : (d1.err == 0) = false := by simpa using e0'
            simp [qal, KP, f0, f102, f104]
            refine qaj E' hp2 _ _ ?_
            rw [hpan]
            exact hR _ _ _ _ j K2 (by rw [if_neg e102, if_neg e104, if_pos e0']; rfl) hp2 (jj _) ho2 hb2
theorem PX.nilTo{P:Program}{E:Env}{f:FuncId}{args:List AV}{H H1:Hp}{Q:AV->Hp->Prop}{R:Value->Hp->Prop}(h:PX P E f args H1 Q R)(hn:nilH H H1)(hl:H1.length=H.length):PX P E f args H Q R:=by
 refine⟨h.1,fun w β Rd Ow cargs hr hcell hsz hargs=>?_⟩;have s:=(S3.start (fr:=[]) (tmps:= #[]) hr rfl (by simp) (by simp)).nilTo (qbs _) hn
 have tr:∀{w' β' Rd' Ow' H' v c},Post E w β Rd Ow H1 w' β' Rd' Ow' H' v c->Post E w β Rd Ow H w' β' Rd' Ow' H' v c:=fun hp=>
  ⟨hp.rel,hp.bnd,hp.own,hp.ne,hp.hr,fun i hi=>hp.old i (by omega),by have:=hp.len;omega,hp.keep,fun b hb h1 h2=>hp.frame b hb (fun i hi=>h1 i (by omega)) h2,hp.os,hp.tape,hp.output,hp.size⟩
 refine(h.2 w β Rd Ow cargs s.hr hcell hsz (fun t x u hx hu=>by rw[hl];exact hargs t x u hx hu)).mono ?_;rintro e w' (⟨c,v,H',β',Rd',Ow',he,hq,hp⟩|⟨c,H',β',Rd',Ow',he,hq,hp⟩)
 ·exact .inl ⟨c,v,H',β',Rd',Ow',he,hq,tr hp⟩
 ·exact .inr ⟨c,H',β',Rd',Ow',he,hq,tr hp⟩
end
def qpH(E:Env)(b:Nat):Prop:=∀(K:Hp) (j:Nat) (p:Prs) (n:Nat) (Q:AV->Hp->Prop) (R:Value->Hp->Prop),fitP n p->n<=4194304->PB K b j p->
 (∀p1 nx j1 K1,qa1 p= .go p1 nx->PB K1 b j1 p1->(p1.dec.isSome=true->(p.dec.isSome=true/\j1=j)\/K.length<=j1)->OthP K K1 b j p.dec.isSome->BndH K1.length K1->Q (nxV b nx) K1)->
 (∀p1 st err at_ j1 K1,qa1 p= .bad p1 st err at_->PB K1 b j1 p1->(p1.dec.isSome=true->(p.dec.isSome=true/\j1=j)\/K.length<=j1)->OthP K K1 b j p.dec.isSome->BndH K1.length K1->R (qcj st err at_) K1)->
 PX Tryz.prog E 166 [.ptr (some (b,0))] K Q R
section
variable (E:Env){b:Nat}
theorem qoF(hE:SE E)(hH:∀E':Env,E'.w0=E.w0->E'.Fix=E.Fix->qpH E' b):qk0 E b 145 qbA:=by
 intro K j p c n Q R hf hn hp hG hR;refine qbJ R (fun _=>False) Tryz.func145 rfl [60,125] [(2,[0,3]),(6,[0,3]),(13,[0,3,0]),(15,[0,3]),(18,[0,0,0,0,0,0,0,0,3])] (by kernel_rfl) (fun E' hpan hS h0 hF hB=>?_);have hrow:=hp.row;have hlt:=hp.lt;have ha:=hf.a;have hh:=hf.head;have hu:=hf.used;have hbg:=hf.beg;simp[Prs.av]at hrow;have m1:p.text.length<=140737488355327:=by omega
 have m3:p.text.length<=maxLen:=by unfold maxLen;omega
 have m4:p.text.length+1<=maxLen:=by unfold maxLen;omega
 have wh:IntKind.i64.wrap (p.head+1)=p.head+1:=wiz;by_cases h1:p.head=p.lh
 ·simp[Tryz.ntmps145,Tryz.results145,List.replicate_succ,hrow,h1];refine qaj E' hp _ _ ?_;rw[hpan];exact hR p _ _ _ j K (by unfold qbA;rw[if_pos h1];rfl) hp (fun h=> .inl ⟨h,rfl⟩) (OthP.refl ..) hB
 ·have h1':(p.head==p.lh)=false:=by simpa using h1
  have hpb1:PB (K.set b (({p with head:=p.head+1}:Prs).av b j)) b j {p with head:=p.head+1}:=hp.put rfl;have hbd1:=qbf hB b (hp.bnd (p1:={p with head:=p.head+1}) rfl);have hc:(c.toNat:Int)<256:=by have:=c.toNat_lt;omega
  have bad:((p.text.getLast? ==some 13)≠(c==10))->R (qcj 400 111 p.used) (K.set b (({p with head:=p.head+1}:Prs).av b j)):=fun h=>hR {p with head:=p.head+1} _ _ _ j _ (by unfold qbA;rw[if_neg h1,if_pos h];rfl) hpb1 (fun h=> .inl ⟨h,rfl⟩) (OthP.put ..) hbd1
  have more:c≠10->((p.text.getLast? ==some 13)=(c==10))->∀Q',Q'=Q->Q' (nxV b (some .fields)) (K.set b (({p with head:=p.head+1,text:=p.text++[c]}:Prs).av b j)):=fun h10 h Q' e=>by
   rw[e];exact hG _ _ j _ (by unfold qbA;rw[if_neg h1,if_neg (by simp[h]),if_pos h10]) (hp.put rfl) (fun h=> .inl ⟨h,rfl⟩) (OthP.put ..) (qbf hB b (hp.bnd (p1:={p with head:=p.head+1,text:=p.text++[c]}) rfl))
  have m2:(1:Nat)<=maxLen:=by unfold maxLen;omega
  have fine:c≠10->((p.text.getLast? ==some 13)=(c==10))->BndH K.length (K.set b (({p with head:=p.head+1,text:=p.text++[c]}:Prs).av b j)):=fun _ _=>by have:=qbf hB b (hp.bnd (p1:={p with head:=p.head+1,text:=p.text++[c]}) rfl);rwa[List.length_set]at this
  by_cases hne:p.text=[]
  ·have hl0:p.text.length=0:=by rw[hne];rfl
   have g0:(p.text.getLast? ==some 13)=false:=by rw[hne];rfl
   by_cases h10:c=10
   ·subst h10;simp[Tryz.ntmps145,Tryz.results145,List.replicate_succ,hrow,h1',wh,hl0,hs0 hlt,hs1 hlt,hs2 hlt,hs3 hlt,hs4 hlt,hs5 hlt];refine qaj E' (p:={p with head:=p.head+1}) hpb1 _ _ ?_;rw[hpan];exact bad (by rw[g0];decide)
   ·obtain⟨b1,b2⟩:=qaw c 10 (by decide) 10 rfl h10;have hcf:(c==10)=false:=by simpa using h10
    simp[Tryz.ntmps145,Tryz.results145,List.replicate_succ,hrow,h1',wh,hl0,b1,b2,m2,hs0 hlt,hs1 hlt,hs2 hlt,hs3 hlt,hs4 hlt,hs5 hlt,qaW];exact qaG hB hlt (qbF b j {p with head:=p.head+1,text:=p.text++[c]}) rfl (hp.bnd (p1:={p with head:=p.head+1,text:=p.text++[c]}) rfl) (qaY hlt (some .fields)) (more h10 (by rw[g0,hcf]) Q rfl)
  ·have hpos:0<p.text.length:=List.length_pos_iff.2 hne;obtain⟨z,hz⟩:∃z,p.text.getLast? =some z:=⟨_,List.getLast?_eq_some_getLast hne⟩
   have hz1:p.text[p.text.length-1]? =some z:=by rw[<-List.getLast?_eq_getElem?];exact hz
   have hat:lat (bts p.text) (p.text.length-1)=some [.int .u8 (z.toNat:Int)]:=by simp[lat,bts,hz1]
   have q1:(0:Int)<=p.text.length-1:=by omega
   have q2:((p.text.length:Int)-1).toNat=p.text.length-1:=by omega
   have q3:p.text.length-1<p.text.length:=by omega
   have q4:(1:Int)<=p.text.length:=by omega
   have w2:IntKind.i64.wrap ((p.text.length:Int)-1)=p.text.length-1:=wiz;by_cases h13:z=13
   ·subst h13;have g0:(p.text.getLast? ==some 13)=true:=by rw[hz];rfl
    by_cases h10:c=10
    ·subst h10;have e10:bts p.text++[[.int .u8 10]]=bts (p.text++[10]):=qaW p.text 10;have w3:IntKind.i64.wrap ((p.text.length:Int)+1-2)=((p.text.length-1:Nat):Int):=by rw[qai (by omega) (by omega)];omega
     have q5:p.text.length-1<=p.text.length+1:=by omega
     have q6:p.text.length<=p.text.length+1+1:=by omega
     have e11:List.take (p.text.length-1) (bts (p.text++[10]))=bts p.text.dropLast:=by
      rw[List.dropLast_eq_take];simp only[bts,<-List.map_take];rw[List.take_append_of_le_length (by omega)]
     have hld:p.text.dropLast.length=p.text.length-1:=List.length_dropLast
     have hnp:qbA p 10=(let p1:Prs:={p with head:=p.head+1,text:=[]}
       if p.text.dropLast=[]then qa1 p1 else if(p.fields.length:Int)=p.lf then qao p1 431 113
       else if(qaO p.text.dropLast).2.2≠0 then .bad p1 400 (qaO p.text.dropLast).2.2 (p.begin_+(qaO p.text.dropLast).2.1)
       else .go {p1 with fields:=p.fields++[(qaO p.text.dropLast).1],begin_:=p.used+1} (some .fields)):=by
      unfold qbA;rw[if_neg h1,if_neg (by rw[g0];decide),if_neg (by decide)]
     by_cases hline:p.text.dropLast=[]
     ·simp[Tryz.ntmps145,Tryz.results145,List.replicate_succ,hrow,h1',wh,hpos,w2,q1,q2,q3,q4,hat,m1,m3,m4,e10,w3,q5,e11,hline,hs0 hlt,hs1 hlt,hs2 hlt,hs3 hlt,hs4 hlt,hs5 hlt];have hp1:PB (K.set b (({p with head:=p.head+1,text:=[]}:Prs).av b j)) b j {p with head:=p.head+1,text:=[]}:=hp.put rfl
      refine PX.nilTo (H1:=K.set b (({p with head:=p.head+1,text:=[]}:Prs).av b j)) ?_ (by
       have:=qcQ (K.set b _) b _ _ (hs4 hlt _) (qcb b j {p with head:=p.head+1,text:=[]} rfl)
       rwa[hs5 hlt]at this) (by simp)
      rw[if_pos hline]at hnp;have hft:fitP (n+1) {p with head:=p.head+1,text:=[]}:={hf with tr:=(by have:=hf.tr;simp only;omega),rb:=(by have:=hf.rb;simp only;omega),tx:=(fun _ x hx=>by simp at hx),ln:=(fun _ k x hx=>by simp at hx),a:=by simp only[List.length_nil];omega,b:=by have:=hf.b;simp only;omega,c:=fun d hd=>⟨(hf.c d hd).1,by have:=(hf.c d hd).2;omega⟩,head:=by simp only;omega,left:=by have:=hf.left;simp only;omega,used:=by simp only;omega,beg:=by simp only;omega}
      refine hH E' h0 hF _ j {p with head:=p.head+1,text:=[]} (n+1) _ _ hft (by omega) hp1 (fun p1 nx j1 K1 g1 g2 g3 g4 g5=>?_) (fun p1 st err at_ j1 K1 g1 g2 g3 g4 g5=>?_)
      ·have g6:OthP K K1 b j p.dec.isSome:=⟨by simpa using g4.1,fun i hi h2 h3=>(g4.2 i (by simpa using hi) h2 h3).trans (zqF (Ne.symm h2))⟩
       have q:=hG p1 nx j1 K1 (hnp.trans g1) g2 (fun h=>(g3 h).imp id (fun h=>by simpa using h)) g6 g5;have hK1:=g6.1;cases nx with
       |none=>
        simp[qal,KP,nxV,hS];exact⟨hK1,qbk rfl hK1 g5 (qaY (N:=K1.length) g2.lt none) q⟩
       |some m=>
        simp[qal,KP,nxV,hS];exact⟨hK1,qbk rfl hK1 g5 (qaY (N:=K1.length) g2.lt (some m)) q⟩
      ·rw[hpan];exact hR p1 st err at_ j1 K1 (hnp.trans g1) g2 (fun h=>(g3 h).imp id (fun h=>by simpa using h)) ⟨by simpa using g4.1,fun i hi h2 h3=>(g4.2 i (by simpa using hi) h2 h3).trans (zqF (Ne.symm h2))⟩ g5
     ·have hie:p.text.dropLast.isEmpty=false:=by simpa using hline
      have hp1:PB (K.set b (({p with head:=p.head+1,text:=[]}:Prs).av b j)) b j {p with head:=p.head+1,text:=[]}:=hp.put rfl;have hbd2:=qbf hB b (hp.bnd (p1:={p with head:=p.head+1,text:=[]}) rfl)
      have hnil:∀l,nilL l (({p with head:=p.head+1,text:=[]}:Prs).av b j)->nilH (K.set b l) (K.set b (({p with head:=p.head+1,text:=[]}:Prs).av b j)):=fun l hl=>by
       have:=qcQ (K.set b l) b _ _ (hs4 hlt _) hl;rwa[hs5 hlt]at this
      rw[if_neg hline]at hnp;by_cases hmany:(p.fields.length:Int)=p.lf
      ·rw[if_pos hmany]at hnp;simp[Tryz.ntmps145,Tryz.results145,List.replicate_succ,hrow,h1',wh,hpos,w2,q1,q2,q3,q4,hat,m1,m3,m4,e10,w3,q5,e11,hie,hmany,hs0 hlt,hs1 hlt,hs2 hlt,hs3 hlt,hs4 hlt,hs5 hlt];refine PX.nilTo (H1:=K.set b (({p with head:=p.head+1,text:=[]}:Prs).av b j)) ?_ (hnil _ (qcb b j {p with head:=p.head+1,text:=[]} rfl)) (by simp);refine qaj E' hp1 _ _ ?_;rw[hpan];exact hR _ _ _ _ j _ hnp hp1 (fun h=> .inl ⟨h,rfl⟩) (OthP.put ..) hbd2
      ·have hmany':((p.fields.length:Int)==p.lf)=false:=by simpa using hmany
       rw[if_neg hmany]at hnp;simp[Tryz.ntmps145,Tryz.results145,List.replicate_succ,hrow,h1',wh,hpos,w2,q1,q2,q3,q4,hat,m1,m3,m4,e10,w3,q5,e11,hie,hmany',hs0 hlt,hs1 hlt,hs2 hlt,hs3 hlt,hs4 hlt,hs5 hlt];obtain⟨L,hL⟩:=exz (qaO p.text.dropLast);have hfit:=qlt (l:=p.text.dropLast);refine qif E' _ _ (hE.env h0 hF) p.text.dropLast (by rw[hld];simp only[cap];omega) ?_;rw[hL]at hnp hfit⊢;rw[hld]at hfit;have hat_:0<=L.2.1/\L.2.1<=16777216:=by rw[<-hL];exact qsE _ (by rw[hld];omega)
       obtain⟨F,at_,er⟩:=L;simp only at hat_;have wa:∀z:Int,z=p.begin_+at_->-9223372036854775808<=z->z<=9223372036854775807->IntKind.i64.wrap (p.begin_+at_)=p.begin_+at_:=fun z hz a1 a2=>qai (by omega) (by omega);by_cases her:er=0
       ·subst her;have h2:=hfit rfl;simp only at h2 hnp;rw[if_neg (by simp)]at hnp;have m5:p.fields.length<=140737488355327:=by omega
        have m6:p.fields.length<=maxLen:=by unfold maxLen;omega
        have m7:p.fields.length+1<=maxLen:=by unfold maxLen;omega
        have wu:IntKind.i64.wrap (p.used+1)=p.used+1:=wiz;have m8:(p.fields.length+1)*32<=140737488355328:=by omega
        simp[qal,KP,hs0 hlt,hs1 hlt,hs2 hlt,hs3 hlt,hs4 hlt,hs5 hlt,m2,m5,m6,m7,m8,wu,qdV]
        exact qeA hB hlt (qcb b j {p with head:=p.head+1,text:=[],fields:=p.fields++[F],begin_:=p.used+1} rfl) rfl (hp.bnd (p1:={p with head:=p.head+1,text:=[],fields:=p.fields++[F],begin_:=p.used+1}) rfl) (qaY hlt (some .fields))
         (hG _ _ j _ hnp (hp.put rfl) (fun h=> .inl ⟨h,rfl⟩) (OthP.put ..) (qbf hB b (hp.bnd (p1:={p with head:=p.head+1,text:=[],fields:=p.fields++[F],begin_:=p.used+1}) rfl)))
       ·have her':(er==0)=false:=by simpa using her
        have her2:(er !=0)=true:=by simpa using her
        simp only at hnp;rw[if_pos her]at hnp
        have hwa:IntKind.i64.wrap (p.begin_+at_)=p.begin_+at_:=by
         have:=hat_;exact qai (by omega) (by omega)
        simp[qal,KP,her',her2,hwa,hs0 hlt,hs1 hlt,hs2 hlt,hs3 hlt,hs4 hlt,hs5 hlt]
        have hnA:=fun(J:Hp) (l:List AV) (hl:nilL l (({p with head:=p.head+1,text:=[]}:Prs).av b j))=>show nilH (K.set b l++J) (K.set b (({p with head:=p.head+1,text:=[]}:Prs).av b j)++J)by
         have:=qcQ (K.set b l++J) b _ _ (hs1 hlt _ _) hl;rwa[hs2 hlt]at this
        refine PX.nilTo (H1:=K.set b (({p with head:=p.head+1,text:=[]}:Prs).av b j)++[[.str F.name,.str F.value]]) ?_ (hnA _ _ (qcb b j {p with head:=p.head+1,text:=[]} rfl)) (by simp);refine qoK E' _ _ _ _ ?_;rw[hpan]
        have hpa:PB (K.set b (({p with head:=p.head+1,text:=[]}:Prs).av b j)++[[.str F.name,.str F.value]]) b j {p with head:=p.head+1,text:=[]}:=
         ⟨hs1 hlt _ _,fun d hd=>⟨(hp1.dec d hd).1,by rw[zqA (zqC.1 (hp1.dec d hd).2).1];exact(hp1.dec d hd).2⟩⟩
        refine hR _ _ _ _ j _ hnp hpa (fun h=> .inl ⟨h,rfl⟩) ⟨by simp,fun i hi h1 _=>by rw[zqA (by simpa using hi),zqF (Ne.symm h1)]⟩ ?_;have hbb:=qd2 (M:=K.length+1) hbd2 (by simp)
        have:=qcU hbb (J:=[[.str F.name,.str F.value]]) (fun X hX y hy=>by
         simp only[List.mem_cons,List.not_mem_nil,or_false]at hX;subst hX;simp at hy
         rcases hy with rfl|rfl<;>exact .str _)
        simpa using this
    ·obtain⟨b1,b2⟩:=qaw c 10 (by decide) 10 rfl h10;have hcf:(c==10)=false:=by simpa using h10
     simp[Tryz.ntmps145,Tryz.results145,List.replicate_succ,hrow,h1',wh,hpos,w2,q1,q2,q3,q4,hat,b1,b2,hs0 hlt,hs1 hlt,hs2 hlt,hs3 hlt,hs4 hlt,hs5 hlt];refine qaj E' (p:={p with head:=p.head+1}) hpb1 _ _ ?_;rw[hpan];exact bad (by rw[g0,hcf];decide)
   ·obtain⟨c1,c2⟩:=qaw z 13 (by decide) 13 rfl h13;have g0:(p.text.getLast? ==some 13)=false:=by rw[hz];simpa using h13
    by_cases h10:c=10
    ·subst h10;simp[Tryz.ntmps145,Tryz.results145,List.replicate_succ,hrow,h1',wh,hpos,w2,q1,q2,q3,q4,hat,c1,c2,hs0 hlt,hs1 hlt,hs2 hlt,hs3 hlt,hs4 hlt,hs5 hlt];refine qaj E' (p:={p with head:=p.head+1}) hpb1 _ _ ?_;rw[hpan];exact bad (by rw[g0];decide)
    ·obtain⟨b1,b2⟩:=qaw c 10 (by decide) 10 rfl h10;have hcf:(c==10)=false:=by simpa using h10
     simp[Tryz.ntmps145,Tryz.results145,List.replicate_succ,hrow,h1',wh,hpos,w2,q1,q2,q3,q4,hat,b1,b2,c1,c2,m1,m3,m4,hs0 hlt,hs1 hlt,hs2 hlt,hs3 hlt,hs4 hlt,hs5 hlt,qaW];exact qaG hB hlt (qbF b j {p with head:=p.head+1,text:=p.text++[c]}) rfl (hp.bnd (p1:={p with head:=p.head+1,text:=p.text++[c]}) rfl) (qaY hlt (some .fields)) (more h10 (by rw[g0,hcf]) Q rfl)
end
def newP(lt lh lf lb:Int):Prs:={lt:=lt,lh:=lh,lf:=lf,lb:=lb,nx:=some .start,state:=0,used:=0,meth:=[],targ:=[],major:=0,minor:=0,fields:=[],rbody:=[],trailers:=[],fst_:=0,ferr:=0,fat:=0,text:=[],head:=0,begin_:=0,left:=0,body:=[],dec:=none,bodied:=false}
def adv(p:Prs)(nx:Option Md):Prs:={p with nx:=nx,used:=p.used+1}
theorem qbG{p p1:Prs}{m:Md}{c:UInt8}{nx:Option Md}(r:List UInt8)(h:p.nx=some m)(hs:qbr p m c= .go p1 nx):qaf p (c::r)=((qaf (adv p1 nx) r).1,(qaf (adv p1 nx) r).2+1):=by
 simp only[qaf,h,hs];rfl
theorem qbL{p p1:Prs}{m:Md}{c:UInt8}{st err at_:Int}(r:List UInt8)(h:p.nx=some m)(hs:qbr p m c= .bad p1 st err at_):qaf p (c::r)=((SR.bad p1 st err at_).prs,1):=by
 simp only[qaf,h,hs]
theorem qa5{p:Prs}(s:List UInt8)(h:p.nx=none):qaf p s=(p,0):=by
 cases s with
 |nil=>rfl
 |cons c r=>simp only[qaf,h]
theorem qdW(p:Prs):qaf p []=(p,0):=rfl
theorem qed:∀(s:List UInt8) (p:Prs),(qaf p s).1.used=p.used+(qaf p s).2
 |[],p=>by simp[qaf]
 |c::r,p=>by
  cases h:p.nx with
  |none=>rw[qa5 _ h];simp
  |some m=>
   cases hs:qbr p m c with
   |go p1 nx=>
    rw[qbG r h hs];have:=qed r (adv p1 nx);have hu:=qnj hs;simp only[adv]at this⊢;omega
   |bad p1 st err at_=>
    rw[qbL r h hs];have hu:=qoD hs;simp only[SR.prs];omega
theorem qcT(a b:List UInt8):∀p:Prs,qaf p (a++b)=((qaf (qaf p a).1 b).1,(qaf p a).2+(qaf (qaf p a).1 b).2):=by
 induction a with
 |nil=>intro p;simp[qdW]
 |cons c a ih=>
  intro p;cases h:p.nx with
  |none=>
   rw[qa5 _ h,qa5 (c::a) h,qa5 b h];rfl
  |some m=>
   cases hs:qbr p m c with
   |go p1 nx=>
    rw[List.cons_append,qbG _ h hs,qbG a h hs,ih];simp only;rw[Nat.add_right_comm]
   |bad p1 st err at_=>
    rw[List.cons_append,qbL _ h hs,qbL a h hs];have:(SR.bad p1 st err at_).prs.nx=none:=rfl;rw[qa5 b this];rfl
theorem qhU:∀(s:List UInt8) (p:Prs),qaf p (s.take (qaf p s).2)=qaf p s
 |[],p=>rfl
 |c::r,p=>by
  cases h:p.nx with
  |none=>rw[qa5 _ h,qa5 _ h]
  |some m=>
   cases hs:qbr p m c with
   |go p1 nx=>rw[qbG r h hs,List.take_succ_cons,qbG _ h hs,qhU r (adv p1 nx)]
   |bad p1 st err at_=>rw[qbL r h hs,List.take_succ_cons,qbL _ h hs]
def Fd(q:Prs)(s:List UInt8)(p:Prs)(i:Nat):Prop:=i<=s.length/\qaf q s=((qaf p (s.drop i)).1,(qaf p (s.drop i)).2+i)
theorem Fd.refl(q:Prs)(s:List UInt8):Fd q s q 0:=⟨Nat.zero_le _,rfl⟩
theorem Fd.go{q p p1:Prs}{s:List UInt8}{i:Nat}{c:UInt8}{m:Md}{nx:Option Md}(h:Fd q s p i)(hc:s[i]? =some c)(hm:p.nx=some m)(hs:qbr p m c= .go p1 nx):Fd q s (adv p1 nx) (i+1):=by
 have hlt:=(zqC.1 hc).1;refine⟨hlt,?_⟩;rw[h.2,qas s i c hc,qbG _ hm hs];simp only;rw[Nat.add_assoc,Nat.add_comm 1 i]
theorem Fd.bad{q p p1:Prs}{s:List UInt8}{i:Nat}{c:UInt8}{m:Md}{st err at_:Int}(h:Fd q s p i)(hc:s[i]? =some c)(hm:p.nx=some m)(hs:qbr p m c= .bad p1 st err at_):qaf q s=((SR.bad p1 st err at_).prs,i+1):=by
 rw[h.2,qas s i c hc,qbL _ hm hs,Nat.add_comm]
theorem Fd.fin{q p:Prs}{s:List UInt8}(h:Fd q s p s.length):qaf q s=(p,s.length):=by
 rw[h.2,List.drop_length,qdW,Nat.zero_add]
def stC(e:Int):Int:=if e=102 then 413 else if e=104 then 431 else 400
theorem qmC(d:Dec)(c:UInt8):qav d [c]=(feed1 d c,1):=by
 rw[qcz];split
 ·rfl
 ·rfl
theorem qmO{p:Prs}{d:Dec}(c:UInt8)(hd:p.dec=some d)(hg:goD d):
  qa2 p c=if(feed1 d c).err≠0 then .bad {p with bodied:=true,dec:=some (feed1 d c)} (stC (feed1 d c).err) (feed1 d c).err p.used
   else if(feed1 d c).done=false then .go {p with bodied:=true,dec:=some (feed1 d c)} (some .chunked)
   else .go {p with bodied:=true,dec:=some (feed1 d c),body:=(feed1 d c).body,trailers:=(feed1 d c).trailers,rbody:=(feed1 d c).body,state:=4} none:=by
 unfold qa2;rw[hd];simp only[hg.1,hg.2,qmC];rw[if_neg (by simp)];unfold qao qcK stC;by_cases h1:(feed1 d c).err=102
 ·rw[if_pos h1,if_pos h1,if_pos (by rw[h1];decide)];rw[h1]
 ·rw[if_neg h1,if_neg h1];by_cases h2:(feed1 d c).err=104
  ·rw[if_pos h2,if_pos h2,if_pos (by rw[h2];decide)];rw[h2]
  ·rw[if_neg h2,if_neg h2]
theorem qh0:∀(r:List UInt8) (p:Prs) (d:Dec),p.nx=some .chunked->p.dec=some d->goD d->
  ((qav d r).1.err≠0->qaf p r=({p with bodied:=true,dec:=some (qav d r).1,nx:=none,state:=5,used:=p.used+(qav d r).2,fst_:=stC (qav d r).1.err,ferr:=(qav d r).1.err,fat:=p.used+(qav d r).2-1},(qav d r).2))/\
  ((qav d r).1.err=0->(qav d r).1.done=true->qaf p r=({p with bodied:=true,dec:=some (qav d r).1,body:=(qav d r).1.body,trailers:=(qav d r).1.trailers,rbody:=(qav d r).1.body,state:=4,nx:=none,used:=p.used+(qav d r).2},(qav d r).2))/\
  ((qav d r).1.err=0->(qav d r).1.done=false->qaf p r=({p with bodied:=p.bodied||!r.isEmpty,dec:=some (qav d r).1,used:=p.used+r.length},r.length))
 |[],p,d,hn,hd,hg=>by
  simp only[qav,qaf];refine⟨fun h=>absurd hg.2 h,(fun _ h=>by rw[hg.1]at h;cases h),fun _ _=>?_⟩;cases p;simp at hd⊢;exact hd
 |c::r,p,d,hn,hd,hg=>by
  have hs:qbr p .chunked c=qa2 p c:=rfl;rw[qmO c hd hg]at hs;rw[qcz];by_cases h1:(feed1 d c).err≠0
  ·rw[if_pos h1]at hs;rw[if_pos (.inr h1)];refine⟨fun _=>?_,fun h=>absurd h h1,fun h=>absurd h h1⟩;rw[qbL r hn hs];simp only[SR.prs,Prod.mk.injEq,Prs.mk.injEq,true_and,and_true];exact⟨by omega,by omega⟩
  ·rw[if_neg h1]at hs;have h1':(feed1 d c).err=0:=by simpa using h1
   cases h2:(feed1 d c).done with
   |true=>
    rw[if_neg (by rw[h2];simp)]at hs;rw[if_pos (.inl rfl)];refine⟨fun h=>absurd h1' h,fun _ _=>?_,(fun _ h=>by rw[h2]at h;cases h)⟩;rw[qbG r hn hs,qa5 r rfl];rfl
   |false=>
    rw[if_pos h2]at hs;rw[if_neg (by rw[h1'];simp)];have hg1:goD (feed1 d c):=⟨h2,h1'⟩
    obtain⟨i1,i2,i3⟩:=qh0 r (adv {p with bodied:=true,dec:=some (feed1 d c)} (some .chunked)) (feed1 d c) rfl rfl hg1;rw[qbG r hn hs];refine⟨fun h=>?_,fun h h'=>?_,fun h h'=>?_⟩
    ·rw[i1 h];simp only[adv,Prod.mk.injEq,Prs.mk.injEq,true_and,and_true];exact⟨by omega,by omega⟩
    ·rw[i2 h h'];simp only[adv,Prod.mk.injEq,Prs.mk.injEq,true_and,and_true];omega
    ·rw[i3 h h'];simp only[adv,Prod.mk.injEq,Prs.mk.injEq,true_and,and_true,zqL,List.isEmpty_cons,Bool.not_false,Bool.or_true,Bool.true_or,hn];omega
theorem qd1:∀(r:List UInt8) (p:Prs),p.nx=some .counted->0<p.left->
  ((r.length:Int)<p.left->qaf p r=({p with body:=p.body++r,bodied:=p.bodied||!r.isEmpty,left:=p.left-r.length,used:=p.used+r.length},r.length))/\
  (p.left<=r.length->qaf p r=({p with body:=p.body++r.take p.left.toNat,bodied:=true,left:=0,rbody:=p.body++r.take p.left.toNat,state:=4,nx:=none,used:=p.used+p.left},p.left.toNat))
 |[],p,hn,hl=>by
  refine⟨fun _=>?_,fun h=>by simp at h;omega⟩;cases p;simp[qaf]
 |c::r,p,hn,hl=>by
  have hs:qbr p .counted c=qbH p c:=rfl;unfold qbH qcK at hs;dsimp only at hs;by_cases h1:0<p.left-1
  ·rw[if_pos h1]at hs;obtain⟨i1,i2⟩:=qd1 r (adv {p with body:=p.body++[c],bodied:=true,left:=p.left-1} (some .counted)) rfl h1;rw[qbG r hn hs];simp only[zqL];refine⟨fun h=>?_,fun h=>?_⟩
   ·rw[i1 (by simp only[adv];omega)];simp only[adv,Prod.mk.injEq,Prs.mk.injEq,true_and,and_true,List.isEmpty_cons,Bool.not_false,Bool.or_true,Bool.true_or,hn,List.append_assoc,List.cons_append,List.nil_append];exact⟨by omega,by omega⟩
   ·rw[i2 (by simp only[adv];omega)];have e:p.left.toNat=(p.left-1).toNat+1:=by omega
    simp only[adv,Prod.mk.injEq,Prs.mk.injEq,true_and,and_true,List.append_assoc,List.cons_append,List.nil_append,e,List.take_succ_cons];omega
  ·rw[if_neg h1]at hs;have e:p.left=1:=by omega
   refine⟨fun h=>by simp at h;omega,fun _=>?_⟩;rw[qbG r hn hs,qa5 r rfl,e];simp[adv,e]
def expL:List UInt8:=[69,120,112,101,99,116]
def expB(l:List Fld):Bool:=!(allB l expL).isEmpty
structure Rq where
 meth:List UInt8
 targ:List UInt8
 major:Int
 minor:Int
 fields:List Fld
 body:List UInt8
 trailers:List Fld
def Rq.zero:Rq:=⟨[],[],0,0,[],[],[]⟩
def Rq.avs(r:Rq):List AV:=[.str r.meth,.str r.targ,.int .i64 r.major,.int .i64 r.minor,.sl false 2 (flds r.fields),.str r.body,.sl false 2 (flds r.trailers)]
def Rq.av(r:Rq):AV:= .agg r.avs
structure Lk where
 state:Int
 used:Int
 head:Bool
 r:Rq
 waits:Bool
 st:Int
 err:Int
 at_:Int
def Lk.av(x:Lk):AV:= .agg ([.int .i64 x.state,.int .i64 x.used,.bool x.head]++x.r.avs++[.bool x.waits,.int .i64 x.st,.int .i64 x.err,.int .i64 x.at_])
def Prs.rq(p:Prs):Rq:=⟨p.meth,p.targ,p.major,p.minor,p.fields,p.rbody,p.trailers⟩
def Prs.rqH(p:Prs):Rq:=⟨p.meth,p.targ,p.major,p.minor,p.fields,[],[]⟩
def Prs.waits(p:Prs):Bool:=decide (p.state=3)&&!p.bodied&&!decide (p.minor=0)&&expB p.fields
def qaE(p:Prs):Lk:=
 if p.state=5 then⟨5,p.used,false,.zero,false,p.fst_,p.ferr,p.fat⟩
 else if p.state=4 then⟨4,p.used,true,p.rq,false,0,0,0⟩
 else if p.state=3 then⟨3,p.used,true,p.rqH,p.waits,0,0,0⟩
 else⟨p.state,p.used,false,.zero,false,0,0,0⟩
theorem qgD(p:Prs):(qaE p).state=p.state:=by
 unfold qaE
 repeat' split
 all_goals simp_all
theorem qfu(p:Prs):(qaE p).used=p.used:=by
 unfold qaE
 repeat' split
 all_goals rfl
def Lims(p q:Prs):Prop:=p.lt=q.lt/\p.lh=q.lh/\p.lf=q.lf/\p.lb=q.lb
def SR.lims(q:Prs):SR->Prop
 | .go p1 _=>Lims p1 q
 | .bad p1 _ _ _=>Lims p1 q
theorem qkF(p:Prs):(qa1 p).lims p:=by
 unfold qa1 qcK qao;dsimp only
 repeat' split
 all_goals exact⟨rfl,rfl,rfl,rfl⟩
theorem qnx(p:Prs)(m:Md)(c:UInt8):(qbr p m c).lims p:=by
 cases m
 ·show(qcC p c).lims p;unfold qcC qbz qao
  repeat' split
  all_goals exact⟨rfl,rfl,rfl,rfl⟩
 ·show(qa6 p c).lims p;unfold qa6 qao
  repeat' split
  all_goals exact⟨rfl,rfl,rfl,rfl⟩
 ·show(qbz p c).lims p;unfold qbz qao
  repeat' split
  all_goals exact⟨rfl,rfl,rfl,rfl⟩
 ·show(qb3 p c).lims p;unfold qb3 qao
  repeat' split
  all_goals exact⟨rfl,rfl,rfl,rfl⟩
 ·show(qcd p c).lims p;unfold qcd qao;dsimp only
  repeat' split
  all_goals exact⟨rfl,rfl,rfl,rfl⟩
 ·show(qbA p c).lims p;unfold qbA qao;dsimp only
  repeat' split
  all_goals first
   |exact⟨rfl,rfl,rfl,rfl⟩
   |exact qkF _
 ·show(qbH p c).lims p;unfold qbH qcK;dsimp only;split<;>exact⟨rfl,rfl,rfl,rfl⟩
 ·show(qa2 p c).lims p;unfold qa2 qcK qao;split
  ·exact⟨rfl,rfl,rfl,rfl⟩
  ·dsimp only
   repeat' split
   all_goals exact⟨rfl,rfl,rfl,rfl⟩
theorem qhV:∀(s:List UInt8) (p:Prs),Lims (qaf p s).1 p
 |[],p=>⟨rfl,rfl,rfl,rfl⟩
 |c::r,p=>by
  cases h:p.nx with
  |none=>rw[qa5 _ h];exact⟨rfl,rfl,rfl,rfl⟩
  |some m=>
   have hl:=qnx p m c;cases hs:qbr p m c with
   |go p1 nx=>
    rw[qbG r h hs];rw[hs]at hl;have i:=qhV r (adv p1 nx);exact⟨i.1.trans hl.1,i.2.1.trans hl.2.1,i.2.2.1.trans hl.2.2.1,i.2.2.2.trans hl.2.2.2⟩
   |bad p1 st err at_=>
    rw[qbL r h hs];rw[hs]at hl;exact hl
def qtp(p:Prs):Prop:=(p.nx=none↔p.state=4\/p.state=5)/\0<=p.state/\p.state<=5
def Prs.mid(p:Prs):Prop:=0<=p.state/\p.state<=3
def SR.sound:SR->Prop
 | .go p1 nx=>(nx=none↔p1.state=4)/\0<=p1.state/\p1.state<=4
 | .bad p1 _ _ _=>True
theorem qjA(p:Prs)(h:p.mid):(qa1 p).sound:=by
 unfold qa1 qcK qao;dsimp only
 repeat' split
 all_goals first
  |trivial
  |simp[SR.sound]
theorem qmb(p:Prs)(m:Md)(c:UInt8)(h:p.mid):(qbr p m c).sound:=by
 have h1:=h.1;have h2:=h.2;have e4:p.state≠4:=by omega
 cases m
 ·show(qcC p c).sound;unfold qcC qbz qao
  repeat' split
  all_goals first
   |trivial
   |(simp[SR.sound,e4];try omega)
 ·show(qa6 p c).sound;unfold qa6 qao
  repeat' split
  all_goals first
   |trivial
   |(simp[SR.sound,e4];try omega)
 ·show(qbz p c).sound;unfold qbz qao
  repeat' split
  all_goals first
   |trivial
   |(simp[SR.sound,e4];try omega)
 ·show(qb3 p c).sound;unfold qb3 qao
  repeat' split
  all_goals first
   |trivial
   |(simp[SR.sound,e4];try omega)
 ·show(qcd p c).sound;unfold qcd qao;dsimp only
  repeat' split
  all_goals first
   |trivial
   |(simp[SR.sound,e4];try omega)
 ·show(qbA p c).sound;unfold qbA qao;dsimp only
  repeat' split
  all_goals first
   |exact qjA _ h
   |trivial
   |(simp[SR.sound,e4];try omega)
 ·show(qbH p c).sound;unfold qbH qcK;dsimp only;split
  all_goals (simp[SR.sound,e4];try omega)
 ·show(qa2 p c).sound;unfold qa2 qcK qao;split
  ·trivial
  ·dsimp only
   repeat' split
   all_goals first
    |trivial
    |(simp[SR.sound,e4];try omega)
theorem qgO:∀(s:List UInt8) (p:Prs),qtp p->qtp (qaf p s).1
 |[],p,hp=>hp
 |c::r,p,hp=>by
  cases h:p.nx with
  |none=>rw[qa5 _ h];exact hp
  |some m=>
   have hm:p.mid:=by
    obtain⟨h1,h2,h3⟩:=hp;have:¬(p.state=4\/p.state=5):=fun e=>by have:=h1.2 e;rw[h]at this;cases this
    exact⟨h2,by omega⟩
   have hl:=qmb p m c hm;cases hs:qbr p m c with
   |go p1 nx=>
    rw[qbG r h hs];rw[hs]at hl;refine qgO r (adv p1 nx) ⟨?_,hl.2.1,by have:=hl.2.2;simp only[adv];omega⟩;have:=hl.1;have h4:=hl.2.2;simp only[adv];rw[this];omega
   |bad p1 st err at_=>
    rw[qbL r h hs];exact⟨by simp[SR.prs],by simp[SR.prs],by simp[SR.prs]⟩
theorem qmp(a b c d:Int):qtp (newP a b c d):=⟨by simp[newP],by simp[newP],by simp[newP]⟩
theorem qgP:∀(s:List UInt8) (p:Prs) (n:Nat),fitP n p->(qaf p s).1.state≠5->fitP (n+(qaf p s).2) (qaf p s).1
 |[],p,n,h,_=>by simpa[qaf]using h
 |c::r,p,n,hf,h5=>by
  cases h:p.nx with
  |none=>rw[qa5 _ h];exact hf
  |some m=>
   cases hs:qbr p m c with
   |go p1 nx=>
    rw[qbG r h hs]at h5⊢;have hg:=(qrE hf h hs).1;have:=qgP r (adv p1 nx) (n+1) hg h5;simp only;rw[show n+((qaf (adv p1 nx) r).2+1)=n+1+(qaf (adv p1 nx) r).2 by omega];exact this
   |bad p1 st err at_=>
    rw[qbL r h hs]at h5;exact absurd rfl h5
theorem qqn{lt lh lf lb:Int}(h1:1<=lt/\lt<=65536)(h2:2<=lh/\lh<=1048576)(h3:0<=lf/\lf<=100)(h4:0<=lb/\lb<=1073741824):fitP 0 (newP lt lh lf lb):=
 ⟨by simp[newP,fsz],by simp[newP],fun d hd=>by simp[newP]at hd,h1,h2,h3,h4,by simp[newP],by simp[newP],by simp[newP],by simp[newP],(fun c hc=>by simp[newP]at hc),(fun e=>by simp[newP]at e),(fun e=>by simp[newP]at e),by simp[newP],by simp[newP]⟩
end Go.Proofs.YtnnhdehmlkkfjaaGreatDoor
