/- Part 11 of the texts below the law. -/
import Derived.Test.YtnnhdehmlkkfjaaGreatDoorPg10
set_option maxRecDepth 100000
set_option maxHeartbeats 16000000
set_option linter.unusedVariables false
set_option linter.unnecessarySimpa false
set_option linter.unusedSimpArgs false
set_option linter.unusedSectionVars false
namespace Go.Proofs.YtnnhdehmlkkfjaaGreatDoor
open Go Go.RowKit Go.Proofs
theorem qnA(out:List (List UInt8))(x:List UInt8):qb1 (out++[x])=qb1 out++(if(qaH x).isEmpty then []else [qaH x]):=by
 cases h:(qaH x).isEmpty<;>simp[qb1,h]
section
variable (E:Env)(H:Hp)(Q:AV->Hp->Prop)
theorem qgt(l:List Fld)(n:List UInt8)(hl:fsz l+l.length<=16777216)(hn:n.length<=cap)(hQ:Q (.sl false 1 (strs (allB l n))) H):PC Tryz.prog E 95 [.sl false 2 (flds l),.str n] H Q:=by
 refine qac Tryz.func95 rfl [18] [] (by kernel_rfl) (fun hB=>?_);simp[Tryz.ntmps95,Tryz.results95,List.replicate_succ];refine qd3 5 1 (by rfl) ?_;simp only[List.set_cons_succ,List.set_cons_zero];refine qaB (qq6 l n H) (fun fr _=>l.length-(ai (aget fr 10)).toNat) ⟨[],0,by simp,by omega,qal (by simp[allB,strs])⟩ ?_;rintro fr H' ⟨J,i,rfl,hi,x,rfl⟩;by_cases h:i<l.length
 ·obtain⟨f,hf⟩:∃f,l[i]? =some f:=⟨_,zqD h⟩
  have hat:=qka hf;have hfm:=qj9 hf;have hw:IntKind.i64.wrap ((i:Int)+1)=i+1:=wiz;have hst:=qjo l n i f hf;have hal:=qlq (l.take i) n;rw[zqJ]at hal;simp[h,hat];refine qog E _ _ f.name n (by simp only[cap];omega) hn ?_;cases he:qj3 f.name n with
  |false=>
   rw[if_neg (by rw[he];simp),List.append_nil]at hst;simp[hw];exact Klz ⟨_,i+1,rfl,by omega,qal (by simp[hst])⟩
  |true=>
   rw[if_pos he]at hst;have m1:(allB (l.take i) n).length+1<=maxLen:=by unfold maxLen;omega
   have m2:((allB (l.take i) n).length+1)*16<=140737488355328:=by omega
   have hsn:=qf1 (allB (l.take i) n) f.value;rw[<-hst]at hsn;simp[m1,m2,hsn,hw];exact Klz ⟨_,i+1,rfl,by omega,friz⟩
 ·obtain rfl:i=l.length:=by omega
  simp;exact qab hB (v0:= .sl false 1 (strs (allB l n))) (by simp) (qaa _) (by simp[qcl]) hQ
def elInv(l:List UInt8)(H:Hp)(fr:List AV)(H':Hp):Prop:=H'=H/\∃(f i:Nat) (out:List (List UInt8)),((f<=i/\i<=l.length/\out.length<=i/\qfk l out f i)\/(i=l.length+1/\cut [] l=some out))/\
 ∃x:Nat->AV,fr=[.str l,x 1,x 2,x 3,.sl true 1 (strs (qb1 out)),.int .i64 f,.int .i64 i,x 7,x 8,x 9,x 10,x 11,x 12,x 13,x 14,x 15,x 16,x 17,x 18,x 19,x 20,x 21,x 22,x 23,x 24,x 25,x 26,x 27,x 28,x 29,x 30,x 31,x 32,x 33,x 34,x 35,x 36,x 37,x 38,x 39,x 40,x 41,x 42,x 43,x 44,x 45,x 46,x 47,x 48,x 49,x 50,x 51,x 52,x 53,x 54,x 55,x 56,x 57,x 58]
theorem qoa(l:List UInt8)(hl:l.length<=16777216)(hQ1:qdu l=none->Q (.tup [.sl false 1 [],.bool false]) H)(hQ2:∀y,qdu l=some y->Q (.tup [.sl false 1 (strs y),.bool true]) H):PC Tryz.prog E 142 [.str l] H Q:=by
 refine qac Tryz.func142 rfl [52] [] (by kernel_rfl) (fun hB=>?_);simp[Tryz.ntmps142,Tryz.results142,List.replicate_succ];refine qd3 4 1 (by rfl) ?_;simp only[List.set_cons_succ,List.set_cons_zero];refine qaB (elInv l H) (fun fr _=>l.length+1-(ai (aget fr 6)).toNat) ⟨rfl,0,0,[],.inl ⟨by omega,by omega,by simp,qgy l⟩,qal (by simp[strs,qb1])⟩ ?_;rintro fr H' ⟨rfl,f,i,out,⟨hf,hi,hout,hc⟩|⟨rfl,hc⟩,x,rfl⟩
 ·have hkl:=qhW out;have hm:(qb1 out).length+1<=maxLen/\((qb1 out).length+1)*16<=140737488355328:=by unfold maxLen;omega
  have hle:(i:Int)<=l.length:=by omega
  have hw:IntKind.i64.wrap ((i:Int)+1)=i+1:=wiz;have pl:((l.drop f).take (i-f)).length<=cap:=by rw[zqJ,zqI];simp only[cap];omega
  have hst:=qnA out ((l.drop f).take (i-f));by_cases h:i<l.length;rotate_left
  ·obtain rfl:i=l.length:=by omega
   have hcut:=qjf hc hf (Nat.le_refl _);have hsl:(l.drop f).take (l.length-f)=l.drop f:=zqE (by rw[zqI];omega);rw[hsl]at hcut pl hst;simp[hf,hsl];refine qcv E _ _ _ pl ?_;cases ht:(qaH (l.drop f)).isEmpty
   ·have hne:(qaH (l.drop f) !=[])=true:=by rw[qhl _ 0,ht];rfl
    rw[ht]at hst;have hsn:=qf1 (qb1 out) (qaH (l.drop f));simp[hne,hm,hw];exact qaC ⟨rfl,l.length+1,l.length+1,_,.inr ⟨rfl,hcut⟩,qal (by rw[hst];simp[strs])⟩ (by simp)
   ·have hne:(qaH (l.drop f) !=[])=false:=by rw[qhl _ 0,ht];rfl
    rw[ht]at hst;simp[hne,hw];exact qaC ⟨rfl,l.length+1,l.length+1,_,.inr ⟨rfl,hcut⟩,qal (by rw[hst];simp[strs])⟩ (by simp)
  obtain⟨b,hb⟩:∃b,l[i]? =some b:=⟨_,zqD h⟩
  have hat:=qap hb;have hbn:=b.toNat_lt;have t1:((i:Int)==(l.length:Int))=false:=by simp;omega
  by_cases b34:b.toNat=34
  ·have hx34:b=34:=UInt8.toNat_inj.1 b34;have hb':l[i]? =some 34:=by rw[hb,hx34]
   have t2:((b.toNat:Int)==34)=true:=by simp;omega
   have hd:(l.drop i).take (l.length-i)=l.drop i:=zqE (by rw[zqI];omega);simp[h,hat,t2,hd,hi];refine qiD E _ _ (l.drop i) (by rw[zqI];omega) (by rw[zqN];exact hb') ?_;cases hu:unquote (l.drop i)with
   |none=>
    have ha:qaQ (l.drop i)=([],0,13):=by unfold qaQ;rw[hu]
    have hbad:=qjg hc hf hb' hu;simp[ha];exact qas hB (v0:= .tup [.nil,.bool false]) (by simp) (qbS 1 _ rfl) (by simp) (hQ1 (by unfold qdu;rw[hbad];rfl))
   |some p=>
    obtain⟨y,k⟩:=p;have ha:qaQ (l.drop i)=(y,(k:Int),0):=by unfold qaQ;rw[hu]
    have hk:=qbB hu;rw[zqI]at hk;have hk0:((k:Int)==0)=false:=by rw[beq_eq_false_iff_ne];omega
    have hw1:IntKind.i64.wrap ((k:Int)-1)=(k:Int)-1:=wiz;have hw2:IntKind.i64.wrap ((i:Int)+((k:Int)-1))=(i:Int)+((k:Int)-1):=wiz;have hw3:IntKind.i64.wrap ((i:Int)+((k:Int)-1)+1)=((i+k:Nat):Int):=by rw[qah (by omega) (by omega)];omega
    simp[ha,hk0,hw1,hw2,hw3];exact Klz ⟨rfl,f,i+k,out,.inl ⟨by omega,by omega,by omega,qgz hc hf hb' hu⟩,friz⟩
  ·have t2:((b.toNat:Int)==34)=false:=by simp;omega
   have ne34:b≠34:=by rintro rfl;exact b34 rfl
   by_cases b44:b.toNat=44
   ·have hx44:b=44:=UInt8.toNat_inj.1 b44;have hb':l[i]? =some 44:=by rw[hb,hx44]
    have t3:((b.toNat:Int)==44)=true:=by simp;omega
    have hcm:=qgB hc hf hb';simp[h,hat,t1,t2,t3,hf,hi];refine qcv E _ _ _ pl ?_;cases ht:(qaH ((l.drop f).take (i-f))).isEmpty
    ·have hne:(qaH ((l.drop f).take (i-f)) !=[])=true:=by rw[qhl _ 0,ht];rfl
     rw[ht]at hst;simp[hne,hm,hw];exact Klz ⟨rfl,i+1,i+1,_,.inl ⟨by omega,by omega,by simp;omega,hcm⟩,qal (by rw[hst];simp[strs])⟩
    ·have hne:(qaH ((l.drop f).take (i-f)) !=[])=false:=by rw[qhl _ 0,ht];rfl
     rw[ht]at hst;simp[hne,hw];exact Klz ⟨rfl,i+1,i+1,_,.inl ⟨by omega,by omega,by simp;omega,hcm⟩,qal (by rw[hst];simp[strs])⟩
   ·have t3:((b.toNat:Int)==44)=false:=by simp;omega
    have ne44:b≠44:=by rintro rfl;exact b44 rfl
    simp[h,hi,hat,t1,t2,t3,hw];exact Klz ⟨rfl,f,i+1,out,.inl ⟨by omega,by omega,by omega,qgA hc hf hb ne44 ne34⟩,friz⟩
 ·have hgt:¬((l.length:Int)+1<=l.length):=by omega
  have hq:=hQ2 (qb1 out) (by unfold qdu;rw[hc];rfl);simp[hgt];exact qas hB (v0:= .tup [.sl false 1 (strs (qb1 out)),.bool true]) (by simp) (qaa _) (by simp[qcl]) hq
def dlInv(vs:List (List UInt8))(H:Hp)(fr:List AV)(H':Hp):Prop:=H'=H/\∃(i:Nat) (acc:List (List UInt8)),i<=vs.length/\qaU (vs.take i)=some acc/\
 ∃x:Nat->AV,fr=[x 0,x 1,x 2,x 3,x 4,x 5,.sl true 1 (strs acc),x 7,x 8,x 9,x 10,x 11,x 12,.sl false 1 (strs vs),.int .i64 vs.length,.int .i64 i,x 16,x 17,x 18,x 19,x 20,x 21,x 22,x 23,x 24,x 25,x 26,x 27,x 28,x 29,x 30]
theorem qlb(l:List Fld)(n:List UInt8)(hl:fsz l+l.length<=4194304)(hn:n.length<=cap)(hQ:Q (.tup [.sl false 1 (strs (qcJ l n).1),.int .i64 (qcJ l n).2]) H):PC Tryz.prog E 115 [.sl false 2 (flds l),.str n] H Q:=by
 have hvz:=qc8 l n
 have q1:qaU (allB l n)=none->Q (.tup [.sl false 1 [],.int .i64 14]) H:=fun h=>by
  have:qcJ l n=([],14):=by unfold qcJ;rw[h]
  rw[this]at hQ;exact hQ
 have q2:∀acc,qaU (allB l n)=some acc->Q (.tup [.sl false 1 (strs acc),.int .i64 0]) H:=fun acc h=>by
  have:qcJ l n=(acc,0):=by unfold qcJ;rw[h]
  rw[this]at hQ;exact hQ
 refine qac Tryz.func115 rfl [26] [] (by kernel_rfl) (fun hB=>?_);simp[Tryz.ntmps115,Tryz.results115,List.replicate_succ];refine qgt E _ _ l n (by omega) hn ?_
 generalize allB l n=vs at*
 have hvl:=qmA vs;simp;refine qd3 6 1 (by rfl) ?_;simp only[List.set_cons_succ,List.set_cons_zero];refine qaB (dlInv vs H) (fun fr _=>vs.length-(ai (aget fr 15)).toNat) ⟨rfl,0,[],by omega,rfl,qal (by simp[strs])⟩ ?_;rintro fr H' ⟨rfl,i,acc,hi,hacc,x,rfl⟩;have hlen:=qbQ _ _ hacc;have hvt:=qkx vs i;by_cases h:i<vs.length
 ·obtain⟨s,hs⟩:∃s,vs[i]? =some s:=⟨_,zqD h⟩
  have hat:=qct hs;have hsz:=qmz hs;have hw:IntKind.i64.wrap ((i:Int)+1)=i+1:=wiz;simp[h,hat];refine qoa E _ _ s (by omega) (fun hb=>?_) (fun y hb=>?_)
  ·simp;exact qas hB (v0:= .tup [.nil,.int .i64 14]) (by simp) (qbS 1 _ rfl) (by simp) (q1 (qge hs hb))
  ·have hyl:=qgg hb;have hst:=qgf hs hacc hb;have m1:acc.length+y.length<=maxLen:=by unfold maxLen;omega
   have m2:(acc.length+y.length)*16<=140737488355328:=by omega
   have hsa:strs acc++strs y=strs (acc++y):=by simp[strs]
   simp[m1,m2,hsa,hw];exact Klz ⟨rfl,i+1,acc++y,by omega,hst,friz⟩
 ·obtain rfl:i=vs.length:=by omega
  rw[zqE (Nat.le_refl _)]at hacc;simp;exact qas hB (v0:= .tup [.sl false 1 (strs acc),.int .i64 0]) (by simp) (qaa _) (by simp[qcl]) (q2 acc hacc)
def dtInv(acc:List (List UInt8))(H:Hp)(fr:List AV)(H':Hp):Prop:=H'=H/\∃i:Nat,i<=acc.length/\(acc.take i).all tokB=true/\
 ∃x:Nat->AV,fr=[x 0,x 1,x 2,x 3,x 4,x 5,x 6,x 7,.sl true 1 (strs ((acc.take i).map low)),x 9,x 10,x 11,x 12,x 13,x 14,x 15,x 16,x 17,x 18,x 19,.sl false 1 (strs acc),.int .i64 acc.length,.int .i64 i,x 23,x 24,x 25,x 26,x 27,x 28,x 29,x 30,x 31,x 32,x 33,x 34,x 35]
theorem qhr(l:List Fld)(n:List UInt8)(hl:fsz l+l.length<=4194304)(hn:n.length<=cap)(hQ:Q (.tup [.sl false 1 (strs (qbM l n).1),.int .i64 (qbM l n).2]) H):PC Tryz.prog E 96 [.sl false 2 (flds l),.str n] H Q:=by
 have hvz:=qc8 l n;refine qac Tryz.func96 rfl [29] [] (by kernel_rfl) (fun hB=>?_);simp[Tryz.ntmps96,Tryz.results96,List.replicate_succ];refine qlb E _ _ l n hl hn ?_;cases hacc:qaU (allB l n)with
 |none=>
  have e1:qcJ l n=([],14):=by unfold qcJ;rw[hacc]
  have e2:qbM l n=([],14):=by unfold qbM;rw[hacc]
  rw[e2]at hQ;rw[e1];simp;exact qas hB (v0:= .tup [.nil,.int .i64 14]) (by simp) (qbS 1 _ rfl) (by simp) hQ
 |some acc=>
  have e1:qcJ l n=(acc,0):=by unfold qcJ;rw[hacc]
  have e2:qbM l n=if acc.all tokB=true then(acc.map low,0)else([],10):=by unfold qbM;rw[hacc]
  have hmem:=qc1 _ _ hacc;have hlen:=qbQ _ _ hacc;rw[e2]at hQ;rw[e1];clear e1 e2 hacc;simp;refine qd3 8 1 (by rfl) ?_;simp only[List.set_cons_succ,List.set_cons_zero];refine qaB (dtInv acc H) (fun fr _=>acc.length-(ai (aget fr 22)).toNat) ⟨rfl,0,by omega,by simp,qal (by simp[strs])⟩ ?_;rintro fr H' ⟨rfl,i,hi,hall,x,rfl⟩;by_cases h:i<acc.length
  ·obtain⟨u,hu⟩:∃u,acc[i]? =some u:=⟨_,zqD h⟩
   have hat:=qct hu;have hw:IntKind.i64.wrap ((i:Int)+1)=i+1:=wiz;have hul:=hmem u (zqH hu);simp[h,hat];refine qft E _ _ u (by simp only[cap];omega) ?_;cases ht:tokB u with
   |false=>
    have e:acc.all tokB=false:=qds tokB acc i u hu ht;rw[if_neg (by rw[e];simp)]at hQ;simp;exact qas hB (v0:= .tup [.nil,.int .i64 10]) (by simp) (qbS 1 _ rfl) (by simp) hQ
   |true=>
    simp;refine qb8 E _ _ u (by simp only[cap];omega) ?_;have m1:(List.take i acc).length+1<=maxLen:=by rw[zqJ];unfold maxLen;omega
    have m2:((List.take i acc).length+1)*16<=140737488355328:=by rw[zqJ];omega
    rw[zqJ,Nat.min_eq_left hi]at m1 m2
    have hst:strs ((acc.take i).map low)++[[.str (low u)]]=strs ((acc.take (i+1)).map low):=by
     rw[List.take_add_one,hu];simp[strs]
    have hmin:min i acc.length=i:=Nat.min_eq_left hi;simp[m1,m2,hmin,hw];exact Klz ⟨rfl,i+1,by omega,by rw[qbV tokB acc i u hu,hall,ht];rfl,qal (by rw[<-hst];simp)⟩
  ·obtain rfl:i=acc.length:=by omega
   rw[zqE (Nat.le_refl _)]at hall;rw[if_pos hall]at hQ;simp;exact qas hB (v0:= .tup [.sl false 1 (strs (acc.map low)),.int .i64 0]) (by simp) (qaa _) (by simp[qcl]) hQ
end
end Go.Proofs.YtnnhdehmlkkfjaaGreatDoor
namespace Go.Proofs.YtnnhdehmlkkfjaaGreatDoor
open Go Go.RowKit
def finD(host port:List UInt8):List UInt8×Int×Int:=if port=[]then(low host,-1,0)else if(qae 10 65535 port).2≠0\/5<port.length then([],0,52)else(low host,(qae 10 65535 port).1,0)
theorem qh9 (c : UInt8) (s : List UInt8) : (cut1 c s).1.length ≤ s.length ∧ (cut1 c s).2.1.length ≤ s.length := by
  obtain ⟨t1, t2⟩ := qbX (· != c) s
  constructor
  · show (s.takeWhile (· != c)).length ≤ _
    rw [← t1, zqJ]; omega
  · show ((s.dropWhile (· != c)).drop 1).length ≤ _
    rw [zqI, ← t2, zqI]; omega
theorem qqc {c : UInt8} {s : List UInt8} (h : (cut1 c s).2.2 = true) : (cut1 c s).1.length + 1 ≤ s.length := by
  have h1 : s.contains c = true := h
  have h2 := qdD s c
  rw [h1] at h2
  have h3 := ((qfh s c).1 (by simpa using h2)).2
  have h4 := List.length_pos_iff.2 h3
  obtain ⟨t1, t2⟩ := qbX (· != c) s
  show (s.takeWhile (· != c)).length + 1 ≤ _
  rw [← t2, zqI] at h4
  omega
theorem qsw{c:UInt8}{s:List UInt8}(h:(cut1 c s).2.2=false):(cut1 c s).2.1=[]:=by
 have h1:s.contains c=false:=h;rw[qgC (fun x hx e=>by subst e;rw[Bool.eq_false_iff]at h1;exact h1 (by simpa using hx))]
section
open Go.Lib
variable (E:Env){H:Hp}(Q:AV->Hp->Prop)
theorem qf8(s:List UInt8)(hl:s.length<=1073741824)(hQ:∀h p e,qbo s=(h,p,e)->Q (.tup [.str h,.int .i64 p,.int .i64 e]) H):PC Tryz.prog E 66 [.str s] H Q:=by
 refine qac Tryz.func66 rfl [] [] (by kernel_rfl) (fun hB=>?_);have fin:∀h p e,qfn s=(h,p,e)->Q (.tup [.str h,.int .i64 p,.int .i64 e]) H:=fun h p e hh=>hQ h p e (by rw[qqq,hh]);clear hQ;by_cases h91:s.head? =some 91
 ·have hd:qfn s=(if(cut1 93 (s.drop 1)).2.2=false\/qfo (cut1 93 (s.drop 1)).1=false\/((cut1 93 (s.drop 1)).2.1≠[]/\(cut1 93 (s.drop 1)).2.1.head? ≠some 58)then([],0,52)else finD (s.take ((cut1 93 (s.drop 1)).1.length+2)) ((cut1 93 (s.drop 1)).2.1.drop 1)):=by
   unfold qfn finD;dsimp only;rw[if_pos h91]
  have hla:=qnI h91;have hne:(s !=[])=true:=by cases s with|nil=>cases h91|cons _ _=>rfl
  have hpos:1<=s.length:=by cases s with|nil=>cases h91|cons _ _=>simp
  obtain⟨T,hT⟩:=exz (s.drop 1);have hTl:T.length=s.length-1:=by rw[<-hT,zqI]
  have htk:T.take (s.length-1)=T:=zqE (by omega);rw[hT]at hd;simp[Tryz.ntmps66,Tryz.results66,List.replicate_succ,hne,hla,hpos,hT,htk];refine qeB E _ T 93 (by omega) ?_;have c1:=qh9 93 T;have c2:(cut1 93 T).2.2=true->(cut1 93 T).1.length+1<=T.length:=qqc;obtain⟨inner,hin⟩:=exz ((cut1 93 T).1);obtain⟨rs,hrs⟩:=exz ((cut1 93 T).2.1);obtain⟨sh,hsh⟩:=exz ((cut1 93 T).2.2);rw[hin,hrs,hsh]at hd;rw[hin,hrs]at c1;rw[hin,hsh]at c2;rw[hin,hrs,hsh];cases sh with
  |false=>
   rw[if_pos (.inl rfl)]at hd;simp;exact aQz hB (h6:=(fin _ _ _ hd))
  |true=>
   have c3:=c2 rfl;simp;refine qm7 E _ inner (by omega) ?_;cases ha:qfo inner with
   |false=>
    rw[if_pos (.inr (.inl ha))]at hd;simp;exact aQz hB (h6:=(fin _ _ _ hd))
   |true=>
    have w2:IntKind.i64.wrap ((inner.length:Int)+2)=((inner.length+2:Nat):Int):=by rw[qah (by omega) (by omega)];omega
    have q2:inner.length+2<=s.length:=by omega
    have htl:(s.take (inner.length+2)).length<=cap:=by rw[zqJ];simp only[cap];omega
    obtain⟨host,hhost⟩:=exz (s.take (inner.length+2));rw[hhost]at hd htl;cases rs with
    |nil=>
     rw[if_neg (by rw[ha];simp)]at hd;have hd2:qfn s=(low host,-1,0):=by rw[hd];rfl
     simp[w2,q2,hhost,-Int.natCast_add];refine qdg E _ _ host htl ?_;simp;exact aQz hB (h6:=(fin _ _ _ hd2))
    |cons b port=>
     have hlb:lat (b::port) 0=some b:=rfl;have hcn:(b::port !=[])=true:=rfl;by_cases h58:b=58
     ·subst h58;rw[if_neg (by rw[ha];simp)]at hd;have hd2:qfn s=finD host port:=hd;simp only[zqL]at c1;simp[w2,q2,hhost,hcn,hlb,-Int.natCast_add];refine qdg E _ _ host htl ?_;by_cases hp0:port=[]
      ·subst hp0;simp;exact aQz hB (h6:=(fin _ _ _ hd2))
      ·have hp0':(port==[])=false:=by simpa using hp0
       unfold finD at hd2;rw[if_neg hp0]at hd2;simp[hp0'];refine qdz E _ port 65535 (by simp only[cap];omega) (by decide) (by decide) ?_;by_cases he:(qae 10 65535 port).2=0
       ·by_cases h5:5<port.length
        ·have h5':(5:Int)<port.length:=by omega
         rw[if_pos (.inr h5)]at hd2;simp[he,h5'];exact aQz hB (h6:=(fin _ _ _ hd2))
        ·have h5':¬(5:Int)<port.length:=by omega
         rw[if_neg (fun h=>h.elim (fun h=>h he) h5)]at hd2;simp[he,h5'];exact aQz hB (h6:=(fin _ _ _ hd2))
       ·have he2:((qae 10 65535 port).2 !=0)=true:=by simpa using he
        have he3:((qae 10 65535 port).2==0)=false:=by simpa using he
        rw[if_pos (.inl he)]at hd2;simp[he2,he3];exact aQz hB (h6:=(fin _ _ _ hd2))
     ·have hb1:=(qaw b 58 (by decide) 58 rfl h58).1;have hb2:=(qaw b 58 (by decide) 58 rfl h58).2;rw[if_pos (.inr (.inr ⟨by simp,by simpa using h58⟩))]at hd;simp[hlb,hcn,hb1,hb2];exact aQz hB (h6:=(fin _ _ _ hd))
 ·have hd:qfn s=(if(cut1 58 s).1=[]\/qaE qbW (cut1 58 s).1≠(cut1 58 s).1.length then([],0,52)else finD (cut1 58 s).1 (cut1 58 s).2.1):=by
   unfold qfn finD;dsimp only;rw[if_neg h91]
  have c1:=qh9 58 s;have c2:(cut1 58 s).2.2=false->(cut1 58 s).2.1=[]:=qsw;obtain⟨host,hin⟩:=exz ((cut1 58 s).1);obtain⟨port,hrs⟩:=exz ((cut1 58 s).2.1);obtain⟨sh,hsh⟩:=exz ((cut1 58 s).2.2);have htl:(cut1 58 s).1.length<=cap:=by simp only[cap];omega
  rw[hin]at htl;rw[hin,hrs]at hd c1;rw[hrs,hsh]at c2;rcases s with _|⟨a,r⟩
  ·simp[Tryz.ntmps66,Tryz.results66,List.replicate_succ];refine qeB E _ [] 58 (by simp) ?_;have:cut1 58 []=([],[],false):=rfl;rw[this]at hin;simp only at hin;subst hin;rw[if_pos (.inl rfl)]at hd;rw[this];simp;refine qix E _ [] (by simp) ?_;simp;exact qas (v:= .tup [.str [],.int .i64 0,.int .i64 52]) hB rfl (qaa _) (by simp) (fin _ _ _ hd)
  ·have hne:(a::r !=[])=true:=rfl;have hla:lat (a::r) 0=some a:=rfl;have ha1:=(qaw a 91 (by decide) 91 rfl (fun e=>h91 (by rw[e];rfl))).1;have hlp:0<(a::r).length:=by simp
   obtain⟨s,hs⟩:∃s,s=a::r:=⟨_,rfl⟩
   rw[<-hs]at hne hla hlp hd hin hrs hsh c1 hl fin⊢;simp[Tryz.ntmps66,Tryz.results66,List.replicate_succ,hne,hla,ha1,hlp];refine qeB E _ s 58 hl ?_;rw[hin,hrs,hsh];simp;refine qix E _ host (by omega) ?_;by_cases hbad:host=[]\/qaE qbW host≠host.length
   ·rw[if_pos hbad]at hd
    have hx:(!host.isEmpty&&qaE qbW host==host.length)=false:=by
     rcases hbad with rfl|hbad
     ·rfl
     ·rw[Bool.and_eq_false_iff];exact .inr (by simpa using hbad)
    rw[hx];simp;exact aQz hB (h6:=(fin _ _ _ hd))
   ·rw[if_neg hbad]at hd
    have hx:(!host.isEmpty&&qaE qbW host==host.length)=true:=by
     simp only[not_or,Decidable.not_not]at hbad;rw[hbad.2];simpa using hbad.1
    rw[hx];simp;refine qdg E _ _ host htl ?_;cases sh with
    |false=>
     have:=c2 rfl;subst this;have hd2:qfn s=(low host,-1,0):=by rw[hd];rfl
     simp;exact aQz hB (h6:=(fin _ _ _ hd2))
    |true=>
     by_cases hp0:port=[]
     ·subst hp0;have hd2:qfn s=(low host,-1,0):=by rw[hd];rfl
      simp;exact aQz hB (h6:=(fin _ _ _ hd2))
     ·have hp0':(port==[])=false:=by simpa using hp0
      unfold finD at hd;rw[if_neg hp0]at hd;simp[hp0'];refine qdz E _ port 65535 (by simp only[cap];omega) (by decide) (by decide) ?_;by_cases he:(qae 10 65535 port).2=0
      ·by_cases h5:5<port.length
       ·have h5':(5:Int)<port.length:=by omega
        rw[if_pos (.inr h5)]at hd;simp[he,h5'];exact aQz hB (h6:=(fin _ _ _ hd))
       ·have h5':¬(5:Int)<port.length:=by omega
        rw[if_neg (fun h=>h.elim (fun h=>h he) h5)]at hd;simp[he,h5'];exact aQz hB (h6:=(fin _ _ _ hd))
      ·have he2:((qae 10 65535 port).2 !=0)=true:=by simpa using he
       have he3:((qae 10 65535 port).2==0)=false:=by simpa using he
       rw[if_pos (.inl he)]at hd;simp[he2,he3];exact aQz hB (h6:=(fin _ _ _ hd))
theorem qnj(c:UInt8):(((qbv c||qbI c)||([58,64]:List UInt8).contains c)||([47]:List UInt8).contains c)=qcw c:=by
 have:∀n,n<256->(((qbv (UInt8.ofNat n)||qbI (UInt8.ofNat n))||([58,64]:List UInt8).contains (UInt8.ofNat n))||([47]:List UInt8).contains (UInt8.ofNat n))=qcw (UInt8.ofNat n):=by decide
 have:=this c.toNat c.toNat_lt;rwa[qcc]at this
theorem qnc(c:UInt8):(((qbv c||qbI c)||([58,64]:List UInt8).contains c)||([47,63]:List UInt8).contains c)=qdi c:=by
 have:∀n,n<256->(((qbv (UInt8.ofNat n)||qbI (UInt8.ofNat n))||([58,64]:List UInt8).contains (UInt8.ofNat n))||([47,63]:List UInt8).contains (UInt8.ofNat n))=qdi (UInt8.ofNat n):=by decide
 have:=this c.toNat c.toNat_lt;rwa[qcc]at this
theorem qsx(s:List UInt8):behE s=if qcD qcw 53 (cut1 63 s).1≠0 then qcD qcw 53 (cut1 63 s).1 else qcD qdi 54 (cut1 63 s).2.1:=behD s
theorem qeA(fm pt:Int)(h pa qu:List UInt8)(hq:Bool)(s:List UInt8)(at_:Nat)(hat:at_<=s.length)(hl:s.length<=1073741824)
  (hQ:∀fm pt h pa qu hq v,Q (.tup [tgV fm pt h pa qu hq,.int .i64 v,.int .i64 (behE (s.drop at_))]) H):PC Tryz.prog E 67 [.str s,.int .i64 (at_:Int),tgV fm pt h pa qu hq] H Q:=by
 refine qac Tryz.func67 rfl [] [] (by kernel_rfl) (fun hB=>?_);obtain⟨u,hu⟩:=exz (s.drop at_);have hul:u.length=s.length-at_:=by rw[<-hu,zqI]
 have htk:u.take (s.length-at_)=u:=zqE (by omega);rw[hu,qsx]at hQ;simp[Tryz.ntmps67,Tryz.results67,List.replicate_succ,tgV,hat,hu,htk];refine qeB E _ u 63 (by omega) ?_;obtain⟨c1,c2⟩:=qh9 63 u
 generalize (cut1 63 u).1=p at*
 generalize (cut1 63 u).2.1=q at*
 generalize (cut1 63 u).2.2=t at*
 have hQ':∀e,(if qcD qcw 53 p≠0 then qcD qcw 53 p else qcD qdi 54 q)=e->∀fm pt h pa qu hq v,Q (.tup [.agg [.int .i64 fm,.str h,.int .i64 pt,.str pa,.str qu,.bool hq],.int .i64 v,.int .i64 e]) H:=fun e he fm pt h pa qu hq v=>he▸hQ fm pt h pa qu hq v;clear hQ;simp;refine qiv E _ p [47] 53 qcw qnj (by decide) (by omega) (by simp) (fun v hv1 hv2=>?_);have w1:IntKind.i64.wrap ((at_:Int)+v)=at_+v:=wiz;by_cases he:qcD qcw 53 p=0
 ·rw[if_neg (by simpa using he)]at hQ';simp[he];refine qiv E _ q [47,63] 54 qdi qnc (by decide) (by omega) (by simp) (fun v hv1 hv2=>?_);have w2:IntKind.i64.wrap ((at_:Int)+(p.length:Int))=at_+(p.length:Int):=wiz;have w3:IntKind.i64.wrap ((at_:Int)+(p.length:Int)+1)=at_+(p.length:Int)+1:=wiz;have w4:IntKind.i64.wrap ((at_:Int)+(p.length:Int)+1+v)=at_+(p.length:Int)+1+v:=wiz;by_cases he2:qcD qdi 54 q=0
  ·by_cases hp0:p=[]
   ·subst hp0;simp[he2];exact aQy hB (h6:=(hQ' _ he2 fm pt h [47] q t 0))
   ·have hp0':(p==[])=false:=by simpa using hp0
    simp[he2,hp0'];exact aQy hB (h6:=(hQ' _ he2 fm pt h p q t 0))
  ·have h1:(qcD qdi 54 q !=0)=true:=by simpa using he2
   have h2:(qcD qdi 54 q==0)=false:=by simpa using he2
   simp[h1,h2,w2,w3,w4];exact aQy hB (h6:=(hQ' _ rfl 0 0 [] [] [] false (at_+(p.length:Int)+1+v)))
 ·rw[if_pos he]at hQ';have h1:(qcD qcw 53 p !=0)=true:=by simpa using he
  have h2:(qcD qcw 53 p==0)=false:=by simpa using he
  simp[h1,h2,w1];exact aQy hB (h6:=(hQ' _ rfl 0 0 [] [] [] false (at_+v)))
end
def nsl(c:UInt8):Bool:=c !=47&&c !=63
theorem qju(p:UInt8->Bool)(l:List UInt8)(k:Nat)(hk:k<=l.length)(ha:(l.take k).all p=true)(hs:∀c,l[k]? =some c->p c=false):l.takeWhile p=l.take k/\l.dropWhile p=l.drop k:=by
 have hl:l=l.take k++l.drop k:=(List.take_append_drop k l).symm;have h1:∀x∈l.take k,p x=true:=fun x hx=>List.all_eq_true.1 ha x hx
 have h2:(l.drop k).takeWhile p=[]/\(l.drop k).dropWhile p=l.drop k:=by
  cases hd:l.drop k with
  |nil=>exact⟨rfl,rfl⟩
  |cons c r=>
   have hc:l[k]? =some c:=by
    have:=congrArg (fun z=>z[0]?) hd;simpa using this
   have:=hs c hc;exact⟨List.takeWhile_cons_of_neg (by rw[this];simp),List.dropWhile_cons_of_neg (by rw[this];simp)⟩
 constructor
 ·conv=>lhs;rw[hl]
  rw[List.takeWhile_append_of_pos h1,h2.1,List.append_nil]
 ·conv=>lhs;rw[hl]
  rw[List.dropWhile_append_of_pos h1,h2.2]
section
open Go.Lib
variable (E:Env){H:Hp}(Q:AV->Hp->Prop)
def rfpI(m s:List UInt8)(H:Hp)(fr:List AV)(K:Hp):Prop:=K=H++[[.int .i64 0,.str [],.int .i64 0,.str [],.str [],.bool false]]/\∃i:Nat,7<=i/\i<=s.length/\((s.drop 7).take (i-7)).all nsl=true/\
 ∃x:Nat->AV,fr=[.str m,.str s,x 2,x 3,.ptr (some (H.length,0)),.int .i64 0,.int .i64 0,x 7,x 8,x 9,.int .i64 (i:Int),x 11,x 12,x 13,x 14,x 15,x 16,x 17,x 18,x 19,x 20,x 21,x 22,x 23,x 24,x 25,x 26,x 27,x 28,x 29,x 30,x 31,x 32,x 33,x 34,x 35,x 36,x 37,x 38,x 39,x 40,x 41,x 42,x 43,x 44,x 45,x 46,x 47,x 48,x 49,x 50,x 51,x 52,x 53,x 54,x 55,x 56,x 57,x 58,x 59,x 60,x 61,x 62,x 63,x 64,x 65,x 66,x 67,x 68,x 69,x 70,x 71,x 72,x 73,x 74,x 75,x 76,x 77,x 78,x 79,x 80,x 81,x 82,x 83,x 84,x 85,x 86,x 87,x 88,x 89,x 90,x 91,x 92,x 93,x 94,x 95,x 96,x 97,x 98]
theorem qlE(m s:List UInt8)(hl:s.length<=4194304)(hQ:∀fm pt h pa qu hq v,Q (.tup [tgV fm pt h pa qu hq,.int .i64 v,.int .i64 (tgtE m s)]) H):PC Tryz.prog E 50 [.str m,.str s] H Q:=by
 refine qac Tryz.func50 rfl [] [] (by kernel_rfl) (fun hB=>?_);have hQ':∀e,tgtE m s=e->∀fm pt h pa qu hq v,Q (.tup [.agg [.int .i64 fm,.str h,.int .i64 pt,.str pa,.str qu,.bool hq],.int .i64 v,.int .i64 e]) H:=fun e he fm pt h pa qu hq v=>he▸hQ fm pt h pa qu hq v;clear hQ;cases s with
 |nil=>
  simp[Tryz.ntmps50,Tryz.results50,List.replicate_succ];exact aQy hB (h6:=(hQ' 50 rfl 0 0 [] [] [] false 0))
 |cons c r=>
  obtain⟨s,hs⟩:∃s,s=c::r:=⟨_,rfl⟩
  have hT:tgtE m s=if m=[67,79,78,78,69,67,84]then(if(qbo s).2.2≠0\/(qbo s).2.1<0 then 52 else 0)
    else if c=47 then behE s
    else if s=[42]/\m=[79,80,84,73,79,78,83]then 0
    else if s.length<7\/low (s.take 7)≠[104,116,116,112,58,47,47]then 50
    else if(qbo ((s.drop 7).takeWhile nsl)).2.2≠0 then(qbo ((s.drop 7).takeWhile nsl)).2.2
    else behE ((s.drop 7).dropWhile nsl):=by rw[hs];rfl
  have hne:(s==[])=false:=by rw[hs];rfl
  have hla:lat s 0=some c:=by rw[hs];rfl
  have hlp:0<s.length:=by rw[hs];simp
  rw[<-hs]at hl hQ'⊢;by_cases hm:m=[67,79,78,78,69,67,84]
  ·rw[if_pos hm]at hT;simp[Tryz.ntmps50,Tryz.results50,List.replicate_succ,hne,hm];refine qf8 E _ s (by omega) (fun h p e hA=>?_);rw[hA]at hT;simp only at hT;by_cases he:e=0
   ·subst he;by_cases hp:p<0
    ·rw[if_pos (.inr hp)]at hT;simp[hp];exact aQy hB (h6:=(hQ' 52 hT 0 0 [] [] [] false 0))
    ·rw[if_neg (by simp;omega)]at hT;simp[hp];exact aQy hB (h6:=(hQ' 0 hT 3 p h [] [] false 0))
   ·have he':(e==0)=false:=by simpa using he
    have he2:(e !=0)=true:=by simpa using he
    rw[if_pos (.inl he)]at hT;simp[he',he2];exact aQy hB (h6:=(hQ' 52 hT 0 0 [] [] [] false 0))
  ·have hm':(m==[67,79,78,78,69,67,84])=false:=by simpa using hm
   rw[if_neg hm]at hT;by_cases h47:c=47
   ·subst h47;rw[if_pos rfl]at hT;simp[Tryz.ntmps50,Tryz.results50,List.replicate_succ,hne,hm',hla,hlp];refine qeA E _ 1 (-1) [] [] [] false s 0 (by omega) (by omega) (fun fm pt h pa qu hq v=>?_);rw[List.drop_zero];simp[tgV];exact aQy hB (h6:=(hQ' _ hT fm pt h pa qu hq v))
   ·have b47:=(qaw c 47 (by decide) 47 rfl h47).1;rw[if_neg h47]at hT;by_cases hast:s=[42]/\m=[79,80,84,73,79,78,83]
    ·obtain⟨ha1,ha2⟩:=hast;rw[if_pos ⟨ha1,ha2⟩]at hT;have ha1':(s==[42])=true:=by simpa using ha1
     have ha2':(m==[79,80,84,73,79,78,83])=true:=by simpa using ha2
     simp[Tryz.ntmps50,Tryz.results50,List.replicate_succ,hne,hm',hla,hlp,b47,ha1',ha2'];exact aQy hB (h6:=(hQ' _ hT 4 (-1) [] [] [] false 0))
    ·rw[if_neg hast]at hT
     have hpath:(s==[42])=false\/((s==[42])=true/\(m==[79,80,84,73,79,78,83])=false):=by
      by_cases h1:s=[42]
      ·exact .inr ⟨by simpa using h1,by simpa using fun h=>hast ⟨h1,h⟩⟩
      ·exact .inl (by simpa using h1)
     by_cases h7:s.length<7
     ·rw[if_pos (.inl h7)]at hT;have h7':(s.length:Int)<7:=by omega
      rcases hpath with hp|⟨hp,hp2⟩
      ·simp[Tryz.ntmps50,Tryz.results50,List.replicate_succ,hne,hm',hla,hlp,b47,hp,h7'];exact aQy hB (h6:=(hQ' _ hT 0 0 [] [] [] false 0))
      ·simp[Tryz.ntmps50,Tryz.results50,List.replicate_succ,hne,hm',hla,hlp,b47,hp,hp2,h7'];exact aQy hB (h6:=(hQ' _ hT 0 0 [] [] [] false 0))
     ·have h7':¬(s.length:Int)<7:=by omega
      have h7'':7<=s.length:=by omega
      have hp:(s==[42])=false:=by
       rcases hpath with hp|⟨hp,_⟩
       ·exact hp
       ·have:s=[42]:=by simpa using hp
        rw[this]at h7;simp at h7
      simp[Tryz.ntmps50,Tryz.results50,List.replicate_succ,hne,hm',hla,hlp,b47,hp,h7',h7''];refine qdg E _ _ (s.take 7) (by rw[zqJ];simp only[cap];omega) ?_;by_cases hsch:low (s.take 7)=[104,116,116,112,58,47,47]
      ·rw[if_neg (fun h=>h.elim h7 (fun h=>h hsch))]at hT;obtain⟨R,hR⟩:=exz (s.drop 7);have hRl:R.length=s.length-7:=by rw[<-hR,zqI]
       rw[hR]at hT;simp[hsch];refine qaB (rfpI m s H) (fun fr _=>s.length-(ai (aget fr 10)).toNat) ⟨rfl,7,by omega,h7'',by simp,friz⟩ ?_;rintro fr K ⟨rfl,i,hi7,hi,hall,x,rfl⟩;rw[hR]at hall;have w1:IntKind.i64.wrap ((i:Int)+1)=i+1:=wiz;have hRi:∀b,s[i]? =some b->R[i-7]? =some b:=fun b hb=>by rw[<-hR,zqN,show 7+(i-7)=i by omega];exact hb
       have hdi:s.drop i=R.drop (i-7):=by rw[<-hR,List.drop_drop,show 7+(i-7)=i by omega]
       have hi7':(7:Int)<=i:=by omega
       by_cases hlt:i<s.length
       ·obtain⟨b,hb⟩:∃b,s[i]? =some b:=⟨_,zqD hlt⟩
        have la:=qap hb;have hRb:=hRi b hb;by_cases q47:b=47
        ·subst q47;obtain⟨e1,e2⟩:=qju nsl R (i-7) (by omega) hall (fun c hc=>by rw[hRb]at hc;obtain rfl:=Option.some.inj hc;rfl);simp[hlt,la,hi7,hi7',hi,hR];have hrl:(R.take (i-7)).length<=1073741824:=by rw[zqJ];omega
         refine qf8 E _ (R.take (i-7)) hrl (fun h p e hA=>?_);rw[e1,e2,hA]at hT;simp only at hT;by_cases he:e=0
         ·subst he;rw[if_neg (by simp)]at hT;simp;refine qeA E _ 2 p h [] [] false s i hi (by omega) (fun fm pt h pa qu hq v=>?_);rw[hdi];simp[tgV];exact aQy hB (h6:=(hQ' _ hT fm pt h pa qu hq v))
         ·have h52:e=52:=by have:=qgH (R.take (i-7));rw[hA]at this;exact this.resolve_left he
          subst h52;rw[if_pos he]at hT;simp;exact aQy hB (h6:=(hQ' _ hT 0 0 [] [] [] false 7))
        ·have b1:=(qaw b 47 (by decide) 47 rfl q47).1;have b2:=(qaw b 47 (by decide) 47 rfl q47).2;by_cases q63:b=63
         ·subst q63;obtain⟨e1,e2⟩:=qju nsl R (i-7) (by omega) hall (fun c hc=>by rw[hRb]at hc;obtain rfl:=Option.some.inj hc;rfl);simp[hlt,la,hi7,hi7',hi,hR];have hrl:(R.take (i-7)).length<=1073741824:=by rw[zqJ];omega
          refine qf8 E _ (R.take (i-7)) hrl (fun h p e hA=>?_);rw[e1,e2,hA]at hT;simp only at hT;by_cases he:e=0
          ·subst he;rw[if_neg (by simp)]at hT;simp;refine qeA E _ 2 p h [] [] false s i hi (by omega) (fun fm pt h pa qu hq v=>?_);rw[hdi];simp[tgV];exact aQy hB (h6:=(hQ' _ hT fm pt h pa qu hq v))
          ·have h52:e=52:=by have:=qgH (R.take (i-7));rw[hA]at this;exact this.resolve_left he
           subst h52;rw[if_pos he]at hT;simp;exact aQy hB (h6:=(hQ' _ hT 0 0 [] [] [] false 7))
         ·have b3:=(qaw b 63 (by decide) 63 rfl q63).1;have b4:=(qaw b 63 (by decide) 63 rfl q63).2;simp[hlt,la,b1,b2,b3,b4,w1];refine Klz ⟨rfl,i+1,by omega,by omega,?_,friz⟩;rw[hR,show i+1-7=(i-7)+1 by omega,List.take_add_one,hRb,List.all_append,hall];simp[nsl,q47,q63]
       ·obtain⟨e1,e2⟩:=qju nsl R (i-7) (by omega) hall (fun c hc=>by have:=(zqC.1 hc).1;omega);simp[hlt,hi7,hi7',hi,hR];have hrl:(R.take (i-7)).length<=1073741824:=by rw[zqJ];omega
        refine qf8 E _ (R.take (i-7)) hrl (fun h p e hA=>?_);rw[e1,e2,hA]at hT;simp only at hT;by_cases he:e=0
        ·subst he;rw[if_neg (by simp)]at hT;simp;refine qeA E _ 2 p h [] [] false s i hi (by omega) (fun fm pt h pa qu hq v=>?_);rw[hdi];simp[tgV];exact aQy hB (h6:=(hQ' _ hT fm pt h pa qu hq v))
        ·have h52:e=52:=by have:=qgH (R.take (i-7));rw[hA]at this;exact this.resolve_left he
         subst h52;rw[if_pos he]at hT;simp;exact aQy hB (h6:=(hQ' _ hT 0 0 [] [] [] false 7))
      ·have hsch':(low (s.take 7)==[104,116,116,112,58,47,47])=false:=by simpa using hsch
       have hsch2:(low (s.take 7) !=[104,116,116,112,58,47,47])=true:=by simpa using hsch
       rw[if_pos (.inr hsch)]at hT;simp[hsch',hsch2];exact aQy hB (h6:=(hQ' _ hT 0 0 [] [] [] false 0))
def rfhI(l:List Fld)(old:Bool)(v:List UInt8)(H:Hp)(fr:List AV)(K:Hp):Prop:=K=H/\∃i:Nat,i<=v.length/\(v.take i).any (fun b=>decide (b.toNat<33)||decide (126<b.toNat)||[34,35,47,60,62,63,64,92].contains b)=false/\
 ∃x:Nat->AV,fr=[.sl false 2 (flds l),.bool old,x 2,x 3,.str [],.bool false,.int .i64 0,.sl false 1 (strs [v]),.int .i64 (i:Int),x 9,x 10,x 11,x 12,x 13,x 14,x 15,x 16,x 17,x 18,x 19,x 20,x 21,x 22,x 23,x 24,x 25,x 26,x 27,x 28,x 29,x 30,x 31,x 32,x 33,x 34,x 35,x 36,x 37,x 38,x 39,x 40,x 41,x 42,x 43,x 44,x 45]
theorem qm6(l:List Fld)(old:Bool)(hl:fsz l+l.length<=4194304)(hQ:∀h ok e,qeO l old=(h,ok,e)->Q (.tup [.str h,.bool ok,.int .i64 e]) H):PC Tryz.prog E 94 [.sl false 2 (flds l),.bool old] H Q:=by
 refine qac Tryz.func94 rfl [] [] (by kernel_rfl) (fun hB=>?_);simp[Tryz.ntmps94,Tryz.results94,List.replicate_succ];refine qgt E _ _ l [72,111,115,116] (by omega) (by decide) ?_;unfold qeO at hQ;have hsz:=qe2 l [72,111,115,116];rcases hal:allB l [72,111,115,116]with _|⟨v,_|⟨w,t⟩⟩
 ·rw[hal]at hQ;cases old
  ·simp[strs];exact aQz hB (h6:=(hQ _ _ _ rfl))
  ·simp[strs];exact aQz hB (h6:=(hQ _ _ _ rfl))
 ·rw[hal]at hQ hsz;dsimp only at hQ;have hvl:=hsz v (.head _);have hat:lat (strs [v]) 0=some [AV.str v]:=rfl;simp[hat];refine qaB (rfhI l old v H) (fun fr _=>v.length-(ai (aget fr 8)).toNat) ⟨rfl,0,by omega,by simp,qal (by simp[strs])⟩ ?_;rintro fr K ⟨rfl,i,hi,hA,x,rfl⟩;by_cases h:i<v.length
  ·obtain⟨b,hb⟩:∃b,v[i]? =some b:=⟨_,zqD h⟩
   have la:=qap hb;have w1:IntKind.i64.wrap ((i:Int)+1)=i+1:=wiz
   have hst:(v.take (i+1)).any (fun b=>decide (b.toNat<33)||decide (126<b.toNat)||[34,35,47,60,62,63,64,92].contains b)=((v.take i).any (fun b=>decide (b.toNat<33)||decide (126<b.toNat)||[34,35,47,60,62,63,64,92].contains b)||(decide (b.toNat<33)||decide (126<b.toNat)||[34,35,47,60,62,63,64,92].contains b)):=by
    rw[List.take_add_one,hb,List.any_append];simp
   have hsp:(decide (b.toNat<33)||decide (126<b.toNat)||[34,35,47,60,62,63,64,92].contains b)=true->v.any (fun b=>decide (b.toNat<33)||decide (126<b.toNat)||[34,35,47,60,62,63,64,92].contains b)=true:=fun hh=>List.any_eq_true.2 ⟨b,zqH hb,hh⟩;have i1:=qdD [34,35,47,60,62,63,64,92] b;by_cases h33:b.toNat<33
   ·have g1:(b.toNat:Int)<33:=by omega
    rw[hsp (by simp[h33])]at hQ;simp[h,hat,la,g1];exact aQz hB (h6:=(hQ _ _ _ rfl))
   ·have g1:¬(b.toNat:Int)<33:=by omega
    by_cases h126:126<b.toNat
    ·have g2:(126:Int)<b.toNat:=by omega
     rw[hsp (by simp[h126])]at hQ;simp[h,hat,la,g1,g2];exact aQz hB (h6:=(hQ _ _ _ rfl))
    ·have g2:¬(126:Int)<b.toNat:=by omega
     simp[h,hat,la,g1,g2];refine qgn E _ _ [34,35,47,60,62,63,64,92] b (by decide) ?_;cases hc:([34,35,47,60,62,63,64,92]:List UInt8).contains b with
     |true=>
      rw[hc]at i1;have j1:0<=Lib.indexByte [34,35,47,60,62,63,64,92] b:=by simpa using i1
      rw[hsp (by rw[hc];simp)]at hQ;simp[j1];exact aQz hB (h6:=(hQ _ _ _ rfl))
     |false=>
      rw[hc]at i1;have j1:¬0<=Lib.indexByte [34,35,47,60,62,63,64,92] b:=by simpa using i1
      simp[j1,w1];exact Klz ⟨rfl,i+1,by omega,by rw[hst,hA,hc];simp[h33,h126],qal (by simp[strs])⟩
  ·obtain rfl:i=v.length:=by omega
   rw[List.take_length]at hA;rw[hA]at hQ;simp[hat];exact aQz hB (h6:=(hQ _ _ _ rfl))
 ·rw[hal]at hQ;have g:(1:Int)<(t.length:Int)+1+1:=by omega
  have g0:((t.length:Int)+1+1==0)=false:=by rw[beq_eq_false_iff_ne];omega
  simp[strs,g,g0];exact aQz hB (h6:=(hQ _ _ _ rfl))
end
end Go.Proofs.YtnnhdehmlkkfjaaGreatDoor
namespace Go.Proofs.YtnnhdehmlkkfjaaGreatDoor
open Go Go.RowKit Go.Proofs
theorem qlc:∀n,n<256->(let b:=UInt8.ofNat n;(48<=b.toNat/\b.toNat<=57->dig b=(b.toNat:Int)-48)/\(¬(48<=b.toNat/\b.toNat<=57)->¬(0<=dig b/\dig b<10))):=by decide
theorem qsm{b:UInt8}(h:48<=b.toNat/\b.toNat<=57):dig b=(b.toNat:Int)-48:=by
 have:=qlc b.toNat b.toNat_lt;simp at this;exact this.1 h.1 h.2
theorem dig_no{b:UInt8}(h:¬(48<=b.toNat/\b.toNat<=57)):¬(0<=dig b/\dig b<10):=by
 have:=(qlc b.toNat b.toNat_lt).2 (by simpa using h);simpa using this
def qp7(p:List UInt8)(n:Int):Prop:=qaT 10 p=true/\((n<=1099511627776/\n=qbb 10 p)\/(1099511627776<n/\1099511627776<qbb 10 p))/\0<=n/\n<=10995116277769
theorem ql8{l:List UInt8}{i:Nat}{b:UInt8}{n:Int}(h:qp7 (l.take i) n)(hb:l[i]? =some b)(hd:48<=b.toNat/\b.toNat<=57):
  qp7 (l.take (i+1)) (if n<=1099511627776 then 10*n+((b.toNat:Int)-48)else n):=by
 obtain⟨h1,h2,h3,h4⟩:=h;have hs:=qco 10 l i b hb;have ho:=qcx 10 l i b hb;have hdg:=qsm hd;have hn0:=qbj 10 (by omega) (l.take i) h1;rw[hdg]at hs ho;refine⟨?_,?_,?_,?_⟩
 ·rw[ho,h1,decide_eq_true (by omega)];rfl
 ·rcases h2 with⟨h5,h6⟩|⟨h5,h6⟩
  ·rw[if_pos h5];by_cases hm:10*n+((b.toNat:Int)-48)<=1099511627776
   ·exact .inl ⟨hm,by rw[hs,<-h6];omega⟩
   ·exact .inr ⟨by omega,by rw[hs,<-h6];omega⟩
  ·rw[if_neg (by omega)];exact .inr ⟨h5,by rw[hs];omega⟩
 ·split<;>omega
 ·split<;>omega
theorem qoc{l:List UInt8}{n:Int}(h:qp7 l n):decA l=if l=[]\/1099511627776<n then-1 else n:=by
 obtain⟨h1,h2,h3,h4⟩:=h;by_cases hl:l=[]
 ·rw[if_pos (.inl hl),hl];decide
 rcases h2 with⟨h5,h6⟩|⟨h5,h6⟩
 ·have e:qae 10 1099511627776 l=(qbb 10 l,0):=by
   unfold qae;rw[if_neg hl,if_neg (by rw[h1];simp),if_neg (by omega)]
  rw[qoe (by rw[e]),e,if_neg (by rintro(h|h);exact hl h;omega),h6]
 ·have e:qae 10 1099511627776 l=(0,12):=by
   unfold qae;rw[if_neg hl,if_neg (by rw[h1];simp),if_pos (.inr h6)]
  rw[qh5 (by rw[e];decide),if_pos (.inr h5)]
theorem qle{l:List UInt8}{i:Nat}{b:UInt8}(hb:l[i]? =some b)(hd:¬(48<=b.toNat/\b.toNat<=57)):decA l= -1:=by
 apply qh5;have hne:l≠[]:=fun e=>by rw[e]at hb;simp at hb
 unfold qae;rw[if_neg hne,if_pos (qcY 10 l i b hb (dig_no hd))];decide
section
variable (E:Env)(H:Hp)(Q:AV->Hp->Prop)
def ddcInv(l:List UInt8)(H:Hp)(fr:List AV)(H':Hp):Prop:=H'=H/\∃(i:Nat) (n:Int),i<=l.length/\qp7 (l.take i) n/\∃x:Nat->AV,fr=[.str l,x 1,x 2,.int .i64 n,.int .i64 i,x 5,x 6,x 7,x 8,x 9,x 10,x 11,x 12,x 13,x 14,x 15,x 16,x 17,x 18,x 19,x 20,x 21,x 22,x 23,x 24,x 25,x 26,x 27,x 28,x 29,x 30,x 31,x 32,x 33,x 34,x 35,x 36,x 37]
theorem qdp(l:List UInt8)(hl:l.length<=cap)(hQ:Q (.int .i64 (decA l)) H):PC Tryz.prog E 116 [.str l] H Q:=by
 simp only[cap]at hl;have fin:∀a:Int,decA l=a->Q (.int .i64 a) H:=fun a ha=>ha▸hQ;refine qac Tryz.func116 rfl [] [] (by kernel_rfl) (fun hB=>?_);simp[Tryz.ntmps116,Tryz.results116,List.replicate_succ];refine qaB (ddcInv l H) (fun fr _=>l.length-(ai (aget fr 4)).toNat) ⟨rfl,0,0,by omega,⟨rfl,.inl ⟨by omega,rfl⟩,by omega,by omega⟩,friz⟩ ?_;rintro fr H' ⟨rfl,i,n,hi,hn,x,rfl⟩;obtain⟨_,_,n0,n1⟩:=id hn;by_cases h:i<l.length
 ·obtain⟨b,hb⟩:∃b,l[i]? =some b:=⟨_,zqD h⟩
  have hat:=qap hb;have hbn:=b.toNat_lt;have hw:IntKind.i64.wrap ((i:Int)+1)=i+1:=wiz;by_cases h48:(b.toNat:Int)<48
  ·simp[h,hat,h48];exact aQz hB (h6:=(fin _ (qle hb (by omega))))
  by_cases h57:(57:Int)<b.toNat
  ·simp[h,hat,h48,h57];exact aQz hB (h6:=(fin _ (qle hb (by omega))))
  have hst:=ql8 hn hb (by omega)
  have w1:IntKind.u8.wrap ((b.toNat:Int)-48)=(b.toNat:Int)-48:=by
   unfold IntKind.wrap;simp[IntKind.signed,IntKind.bits,IntKind.min];omega
  by_cases hM:n<=1099511627776
  ·rw[if_pos hM]at hst;have w2:IntKind.i64.wrap (10*n)=10*n:=wiz;have w3:IntKind.i64.wrap ((b.toNat:Int)-48)=(b.toNat:Int)-48:=wiz;have w4:IntKind.i64.wrap (10*n+((b.toNat:Int)-48))=10*n+((b.toNat:Int)-48):=wiz;simp[h,hat,h48,h57,hM,w1,w2,w3,w4,hw];exact Klz ⟨rfl,i+1,_,by omega,hst,friz⟩
  ·rw[if_neg hM]at hst;simp[h,hat,h48,h57,hM,hw];exact Klz ⟨rfl,i+1,_,by omega,hst,friz⟩
 ·obtain rfl:i=l.length:=by omega
  rw[zqE (Nat.le_refl _)]at hn;have he:=qoc hn;by_cases h0:l=[]
  ·rw[if_pos (.inl h0)]at he;have h0':(l==[])=true:=by rw[h0];rfl
   simp[h0'];exact aQz hB (h6:=(fin _ he))
  have h0':(l==[])=false:=by simpa using h0
  by_cases hM:1099511627776<n
  ·rw[if_pos (.inr hM)]at he;simp[h0',hM];exact aQz hB (h6:=(fin _ he))
  ·rw[if_neg (by rintro(h|h);exact h0 h;exact hM h)]at he;simp[h0',hM];exact aQz hB (h6:=(fin _ he))
def dlnInv(acc:List (List UInt8))(m:Int)(H:Hp)(fr:List AV)(H':Hp):Prop:=H'=H/\∃i:Nat,i<=acc.length/\(∀y∈acc.take i,decA y=m)/\(0<i->0<=m)/\
 ∃x:Nat->AV,fr=[x 0,x 1,x 2,x 3,x 4,.sl false 1 (strs acc),x 6,x 7,x 8,x 9,x 10,x 11,x 12,x 13,x 14,x 15,x 16,x 17,x 18,x 19,x 20,x 21,x 22,x 23,x 24,.sl false 1 (strs acc),.int .i64 acc.length,.int .i64 i,x 28,x 29,x 30,x 31,x 32,x 33,x 34,x 35,x 36,x 37,x 38,x 39,x 40,x 41,x 42,x 43,x 44,x 45,x 46,x 47]
theorem qhs(l:List Fld)(hl:fsz l+l.length<=4194304)(hQ:Q (.tup [.int .i64 (qaA l).1,.bool (qaA l).2.1,.int .i64 (qaA l).2.2]) H):PC Tryz.prog E 83 [.sl false 2 (flds l)] H Q:=by
 have fin:∀a:Int×Bool×Int,qaA l=a->Q (.tup [.int .i64 a.1,.bool a.2.1,.int .i64 a.2.2]) H:=fun a ha=>ha▸hQ;have hcn:nCL.length<=cap:=by simp[nCL,cap]
 have hvz:=qc8 l nCL;refine qac Tryz.func83 rfl [] [(9,[0,0,0,0,0,1])] (by kernel_rfl) (fun hB=>?_);simp[Tryz.ntmps83,Tryz.results83,List.replicate_succ];refine qgt E _ _ l nCL (by omega) hcn ?_;by_cases h0:allB l nCL=[]
 ·have hs0:strs ([]:List (List UInt8))=[]:=rfl;simp[h0,hs0];exact aQz hB (h6:=(fin _ (by unfold qaA;rw[if_pos h0]:qaA l=(0,false,0))))
 have h0':(((allB l nCL).length:Int)==0)=false:=by
  rw[beq_eq_false_iff_ne];intro e;exact h0 (List.length_eq_zero_iff.1 (by omega))
 simp[h0'];refine qlb E _ _ l nCL hl hcn ?_;cases hacc:qaU (allB l nCL)with
 |none=>
  have e1:qcJ l nCL=([],14):=by unfold qcJ;rw[hacc]
  have e2:qaA l=(0,false,66):=by unfold qaA;rw[if_neg h0,hacc]
  rw[e1];simp;exact aQz hB (h6:=(fin _ e2))
 |some acc=>
  have e1:qcJ l nCL=(acc,0):=by unfold qcJ;rw[hacc]
  have hmem:=qc1 _ _ hacc;have hlen:=qbQ _ _ hacc;rw[e1];cases acc with
  |nil=>
   have e2:qaA l=(0,false,66):=by unfold qaA;rw[if_neg h0,hacc]
   have hs0:strs ([]:List (List UInt8))=[]:=rfl;simp[hs0];exact aQz hB (h6:=(fin _ e2))
  |cons w r=>
   have e2:qaA l=if decA w<0\/(r.all fun y=>decide (decA y=decA w))=false then(0,false,66)else(decA w,true,0):=by unfold qaA;rw[if_neg h0,hacc]
   obtain⟨acc,ha⟩:=exz (w::r);have hw0:acc[0]? =some w:=by rw[<-ha];rfl
   have hat0:=qct hw0;have hpos:0<acc.length:=by rw[<-ha];simp
   have hne:((acc.length:Int)==0)=false:=by rw[beq_eq_false_iff_ne];omega
   have hbad:∀y∈acc,(decA y<0\/decA y≠decA w)->qaA l=(0,false,66):=fun y hy hb=>by
    rw[e2];apply if_pos;by_cases hlt:decA w<0
    ·exact .inl hlt
    right;rw[<-ha]at hy;rcases List.mem_cons.1 hy with rfl|hy
    ·rcases hb with hb|hb
     ·exact absurd hb hlt
     ·exact absurd rfl hb
    ·rw[List.all_eq_false];refine⟨y,hy,?_⟩;simp only[decide_eq_true_eq];rcases hb with hb|hb
     ·omega
     ·exact hb
   have hgood:(∀y∈acc,decA y=decA w)->0<=decA w->qaA l=(decA w,true,0):=fun h1 h2=>by
    rw[e2];apply if_neg;rintro(h|h)
    ·omega
    ·rw[List.all_eq_false]at h;obtain⟨y,hy,hh⟩:=h;exact hh (by simpa using h1 y (by rw[<-ha];exact List.mem_cons_of_mem _ hy))
   rw[ha]at hmem hlen⊢;have hwl:=hmem w (zqH hw0);clear e2 hacc e1;simp[hne];refine qaB (dlnInv acc (decA w) H) (fun fr _=>acc.length-(ai (aget fr 27)).toNat) ⟨rfl,0,by omega,by simp,by omega,friz⟩ ?_;rintro fr H' ⟨rfl,i,hi,hall,hm0,x,rfl⟩;by_cases h:i<acc.length
   ·obtain⟨u,hu⟩:∃u,acc[i]? =some u:=⟨_,zqD h⟩
    have hat:=qct hu;have hum:=zqH hu;have hul:=hmem u hum;have hw:IntKind.i64.wrap ((i:Int)+1)=i+1:=wiz;simp[h,hat,hat0,hpos];refine qdp E _ _ u (by simp only[cap];omega) ?_;by_cases hneg:decA u<0
    ·simp[hneg];exact aQz hB (h6:=(fin _ (hbad u hum (.inl hneg))))
    simp[hneg,hat0,hpos];refine qdp E _ _ u (by simp only[cap];omega) ?_;simp[hat0,hpos];refine qdp E _ _ w (by simp only[cap];omega) ?_;by_cases heq:decA u=decA w
    ·simp[heq,hw];refine Klz ⟨rfl,i+1,by omega,fun y hy=>?_,fun _=>by omega,friz⟩;rw[List.take_add_one,hu]at hy;rcases List.mem_append.1 hy with hy|hy
     ·exact hall y hy
     ·simp at hy;subst hy;exact heq
    ·have heq':(decA u !=decA w)=true:=by simpa using heq
     simp[heq'];exact aQz hB (h6:=(fin _ (hbad u hum (.inr heq))))
   ·obtain rfl:i=acc.length:=by omega
    rw[zqE (Nat.le_refl _)]at hall;have hres:=hgood hall (hm0 hpos);simp[hat0,hpos];refine qdp E _ _ w (by simp only[cap];omega) ?_;simp;exact aQz hB (h6:=(fin _ hres))
theorem qkg(l:List Fld)(hl:fsz l+l.length<=4194304)(hQ:Q (.tup [.sl false 1 (strs (qaD l).1),.bool (qaD l).2.1,.int .i64 (qaD l).2.2]) H):PC Tryz.prog E 82 [.sl false 2 (flds l)] H Q:=by
 refine qac Tryz.func82 rfl [] [] (by kernel_rfl) (fun hB=>?_);have fin:∀a:List (List UInt8)×Bool×Int,qaD l=a->Q (.tup [.sl false 1 (strs a.1),.bool a.2.1,.int .i64 a.2.2]) H:=fun a ha=>ha▸hQ;have hcn:nTE.length<=cap:=by simp[nTE,cap]
 simp[Tryz.ntmps82,Tryz.results82,List.replicate_succ];refine qgt E _ _ l nTE (by omega) hcn ?_;by_cases h0:allB l nTE=[]
 ·have e:qaD l=([],false,0):=by unfold qaD;rw[if_pos h0]
  have hs0:strs ([]:List (List UInt8))=[]:=rfl;simp[h0,hs0];exact qas hB (v0:= .tup [.nil,.bool false,.int .i64 0]) (by simp) (qc0 1 _ _ rfl rfl) (by simp) (fin _ e)
 have h0':(((allB l nTE).length:Int)==0)=false:=by
  rw[beq_eq_false_iff_ne];intro e;exact h0 (List.length_eq_zero_iff.1 (by omega))
 simp[h0'];refine qhr E _ _ l nTE hl hcn ?_;by_cases he:(qbM l nTE).2=0
 ·have e:qaD l=((qbM l nTE).1,true,0):=by unfold qaD;rw[if_neg h0,if_pos he]
  simp[he];exact qas hB (v0:= .tup [.sl false 1 (strs (qbM l nTE).1),.bool true,.int .i64 0]) (by simp) (qaa _) (by simp[qcl]) (fin _ e)
 ·have e:qaD l=([],false,67):=by unfold qaD;rw[if_neg h0,if_neg he]
  have he2:((qbM l nTE).2 !=0)=true:=by simpa using he
  simp[he2];exact qas hB (v0:= .tup [.nil,.bool false,.int .i64 67]) (by simp) (qc0 1 _ _ rfl rfl) (by simp) (fin _ e)
theorem qkf(l:List Fld)(old:Bool)(hl:fsz l+l.length<=4194304)(hQ:Q (.tup [.int .i64 (qa5 l old).1,.int .i64 (qa5 l old).2.1,.int .i64 (qa5 l old).2.2]) H):PC Tryz.prog E 58 [.sl false 2 (flds l),.bool old] H Q:=by
 have fin:∀a:Int×Int×Int,qa5 l old=a->Q (.tup [.int .i64 a.1,.int .i64 a.2.1,.int .i64 a.2.2]) H:=fun a ha=>ha▸hQ;have hcl:=qlh l hl;refine qac Tryz.func58 rfl [] [] (by kernel_rfl) (fun hB=>?_);simp[Tryz.ntmps58,Tryz.results58,List.replicate_succ];refine qkg E _ _ l hl ?_;obtain⟨⟨cs,cd,ce⟩,hC⟩:=exz (qaD l);obtain⟨⟨n,tl,f⟩,hL⟩:=exz (qaA l);have hF:=qhp (old:=old) hC hL;rw[hC]at hcl;rw[hC];simp only at hcl⊢;by_cases h1:ce=0;rotate_left
 ·rw[if_pos (.inl h1)]at hF;have h1':(ce !=0)=true:=by simpa using h1
  simp[h1'];exact aQz hB (h6:=(fin _ hF))
 subst h1;cases cd with
 |true=>
  cases old with
  |true=>
   rw[if_pos (.inr ⟨rfl,.inl rfl⟩)]at hF;simp;exact aQz hB (h6:=(fin _ hF))
  |false=>
   by_cases h2:cs=[qbJ]
   ·subst h2;rw[if_neg (by simp)]at hF;have hat:lat (strs [qbJ]) 0=some [.str qbJ]:=rfl;have hv:(qbJ !=[99,104,117,110,107,101,100])=false:=by decide
    simp[hat,hv];refine qhs E _ _ l hl ?_;rw[hL];simp only;by_cases h3:f=0
    ·subst h3;rw[if_neg (by simp)]at hF;cases tl with
     |true=>
      rw[if_pos ⟨rfl,rfl⟩]at hF;simp;exact aQz hB (h6:=(fin _ hF))
     |false=>
      rw[if_neg (by simp),if_pos rfl]at hF;simp;exact aQz hB (h6:=(fin _ hF))
    ·rw[if_pos h3]at hF;have h3':(f !=0)=true:=by simpa using h3
     simp[h3'];exact aQz hB (h6:=(fin _ hF))
   ·rw[if_pos (.inr ⟨rfl,.inr h2⟩)]at hF
    match cs,h2 with
    |[],_=>
     simp;exact aQz hB (h6:=(fin _ hF))
    |[c],h2=>
     have hat:lat (strs [c]) 0=some [.str c]:=rfl;have hv:(c !=[99,104,117,110,107,101,100])=true:=by simpa[qbJ]using h2
     simp[hat,hv];exact aQz hB (h6:=(fin _ hF))
    |c::d::r,_=>
     have hl:((r.length:Int)+1+1 !=1)=true:=by rw[bne_iff_ne];omega
     simp[hl];exact aQz hB (h6:=(fin _ hF))
 |false=>
  simp;refine qhs E _ _ l hl ?_;rw[hL];simp only;by_cases h3:f=0
  ·subst h3;cases tl with
   |true=>
    rw[if_neg (by simp),if_neg (by simp),if_neg (by simp),if_neg (by simp),if_pos rfl]at hF;simp;exact aQz hB (h6:=(fin _ hF))
   |false=>
    rw[if_neg (by simp),if_neg (by simp),if_neg (by simp),if_neg (by simp),if_neg (by simp)]at hF;simp;exact aQz hB (h6:=(fin _ hF))
  ·rw[if_neg (by simp),if_pos h3]at hF;have h3':(f !=0)=true:=by simpa using h3
   simp[h3'];exact aQz hB (h6:=(fin _ hF))
end
section
variable (E:Env)(H:Hp)(Q:AV->Hp->Prop)
theorem qjd(l:List UInt8)(hl:l.length<=cap)(hQ:Q (.tup [.agg [.str (qaP l).1.name,.str (qaP l).1.value],.int .i64 (qaP l).2.1,.int .i64 (qaP l).2.2]) H):
  PC Tryz.prog E 70 [.str l] H Q:=by
 refine qac Tryz.func70 rfl [] [] (by kernel_rfl) (fun hB=>?_);have hl':=hl;simp only[cap]at hl'
 have bad:∀(fr:List AV) (pl e:Int),qaP l=((⟨[],[]⟩:Fld),pl,e)->aget fr 2= .ptr (some (H.length,0))->aget fr 3= .int .i64 pl->aget fr 4= .int .i64 e->qbO Tryz.prog [ResultVar.cell 2 89,ResultVar.tmp 3,ResultVar.tmp 4] H.length Q .ret fr (H++[[.str [],.str []]]):=fun fr pl e h0 h2 h3 h4=>
  qab hB (v0:= .tup [.agg [.str [],.str []],.int .i64 pl,.int .i64 e]) (by simp[h2,h3,h4]) (qaa _) (by simp) (by rw[h0]at hQ;exact hQ)
 obtain⟨c,hc⟩:=exz (run ncol l);have hcl:=qbf ncol l;rw[hc]at hcl;have hib:=qch l;rw[hc]at hib
 have hcase:(∃a r,l=a::r/\qag a=true)\/(l=[]\/∃a r,l=a::r/\qag a=false):=by
  cases l with
  |nil=>exact .inr (.inl rfl)
  |cons a r=>
   cases hb:qag a
   ·exact .inr (.inr ⟨a,r,rfl,hb⟩)
   ·exact .inl ⟨a,r,rfl,hb⟩
 have key:∀fr:List AV,(∃x:Nat->AV,fr=[.str l,x 1,.ptr (some (H.length,0)),x 3,x 4,x 5,x 6,x 7,x 8,x 9,x 10,x 11,x 12,x 13,x 14,x 15,x 16,x 17,x 18,x 19,x 20,x 21,x 22,x 23,x 24,x 25,x 26,x 27,x 28,x 29,x 30,x 31,x 32,x 33,x 34,x 35,x 36,x 37,x 38,x 39,x 40,x 41,x 42,x 43,x 44,x 45,x 46,x 47,x 48,x 49,x 50,x 51,x 52,x 53,x 54,x 55,x 56,x 57,x 58,x 59,x 60,x 61,x 62,x 63,x 64,x 65,x 66,x 67,x 68,x 69,x 70,x 71,x 72,x 73,x 74,x 75,x 76,x 77,x 78,x 79,x 80,x 81,x 82])->True:=fun _ _=>trivial;rcases hcase with⟨a,r,rfl,hb⟩|hcase
 ·have hc0:=qhh a r hb;have hne:(a::r !=[])=true:=rfl;simp[Tryz.ntmps70,Tryz.results70,List.replicate_succ,hne];refine qa1 E _ _ a ?_;simp[hb];exact bad _ 0 63 hc0 rfl rfl rfl
 case' inr=>
  rcases hcase with rfl|⟨a,r,hl0,hb⟩
  case' inl=>
   simp[Tryz.ntmps70,Tryz.results70,List.replicate_succ]
  case' inr=>
   have hne:(l !=[])=true:=by rw[hl0];rfl
   have hl1:0<l.length:=by rw[hl0];simp
   have hla:lat l 0=some a:=by rw[hl0];rfl
   simp[Tryz.ntmps70,Tryz.results70,List.replicate_succ,hne,hl1,hla];refine qa1 E _ _ a ?_;simp[hb];have hnf:lnb l=false:=by rw[hl0];exact hb
   clear hne hla hl0
 rotate_left
 ·refine qgn E _ _ [] 58 (by simp[cap]) ?_;rw[show Lib.indexByte [] 58= -1 from rfl];simp;exact bad _ 0 62 qiR rfl rfl rfl
 ·refine qgn E _ _ l 58 hl ?_;rw[hib];by_cases hcc:c<l.length;rotate_left
  ·have hno:=qgh hnf (by omega);simp[hcc];exact bad _ l.length 62 hno rfl rfl rfl
  ·by_cases hz:c=0
   ·have hno:=qhe hnf (by omega) (by omega);subst hz;simp[hcc];exact bad _ 0 60 hno rfl rfl rfl
   ·have hz2:((c:Int)==0)=false:=by simp;omega
    simp[hcc,hz,hz2];refine qaB (qq4 l c H) (fun fr _=>c-(ai (aget fr 6)).toNat) ⟨rfl,0,by omega,by omega,by simp,friz⟩ ?_;rintro fr H' ⟨rfl,i,hi,hi2,hall,x,rfl⟩;by_cases h:i<c
    ·obtain⟨b,hbi⟩:∃b,l[i]? =some b:=⟨_,zqD (by omega)⟩
     have hat:=qap hbi;by_cases h128:i=128
     ·have hno:=qhg hnf (by omega) (by omega) hall (by omega) (by omega) (by omega);subst h128;have h':(128:Int)<c:=by omega
      simp[h'];exact bad _ 128 60 hno rfl rfl rfl
     ·have h128':((i:Int)==128)=false:=by simp;omega
      have hw:IntKind.i64.wrap ((i:Int)+1)=i+1:=wiz;have hil:i<l.length:=by omega
      simp[h,h128',hat,hil];refine qde E _ _ b ?_;cases hs:qao b with
      |false=>
       have hno:=qiT hnf (by omega) (by omega) hall (by omega) (by omega) hbi hs;simp;exact bad _ i 60 hno rfl rfl rfl
      |true=>
       simp[hw];exact Klz ⟨rfl,i+1,by omega,by omega,by rw[qbe qao l i b hbi,hall,hs];rfl,friz⟩
    ·obtain rfl:i=c:=by omega
     have hnm:qbH (l.take i)=true:=by
      have:l.take i≠[]:=by intro e;have h2:=congrArg List.length e;rw[zqJ]at h2;have h3:min i l.length=0:=h2;omega
      unfold qbH tokB;rw[hall,decide_eq_true (by rw[zqJ];omega)];simpa using this
     have hw:IntKind.i64.wrap ((i:Int)+1)=((i+1:Nat):Int):=by rw[qah (by omega) (by omega)];omega
     simp[hw,-Int.natCast_add];refine qaB (qq3 l i H) (fun fr _=>l.length-(ai (aget fr 7)).toNat) ⟨rfl,i+1,by omega,by omega,by simp[fldB],friz⟩ ?_;rintro fr H' ⟨rfl,k,hk,hk2,hfl,y,rfl⟩;by_cases hkl:k<l.length
     ·obtain⟨b,hbk⟩:∃b,l[k]? =some b:=⟨_,zqD hkl⟩
      have hat:=qap hbk;have hwk:IntKind.i64.wrap ((k:Int)+1)=k+1:=wiz;have hdk:(l.drop (i+1))[k-(i+1)]? =some b:=by rw[zqN,show i+1+(k-(i+1))=k by omega];exact hbk
      simp[hkl,hat];refine qeN E _ _ b ?_;cases hs:fcB b with
      |false=>
       have hno:=qiP hnf (by omega) (by rw[hc];exact hnm) (i:=k) (by omega) (by rw[hc];exact hfl) (by rw[hc];exact hdk) hs;simp;exact bad _ k 61 (by rw[hno];congr 2;omega) rfl rfl rfl
      |true=>
       simp[hwk];refine Klz ⟨rfl,k+1,by omega,by omega,?_,friz⟩;rw[show k+1-(i+1)=k-(i+1)+1 by omega,fldB,qbe fcB _ _ b hdk];rw[fldB]at hfl;rw[hfl,hs];rfl
     ·have hfl':fldB (l.drop (i+1))=true:=by
       rw[zqE (by rw[zqI];omega)]at hfl;exact hfl
      have hi1:i+1<=l.length:=by omega
      simp[hkl,hw,hi1,-Int.natCast_add];refine qcv E _ _ (l.drop (i+1)) (by rw[zqI];omega) ?_;have htl:=qfX (l.drop (i+1));rw[zqI]at htl;by_cases hbig:8192<(qaH (l.drop (i+1))).length
      ·have hno:=qiS hnf (by omega) (by rw[hc];exact hnm) (by rw[hc];exact hfl') (by rw[hc];exact hbig);have hbig':(8192:Int)<(qaH (l.drop (i+1))).length:=by omega
       simp[hbig',hw,-Int.natCast_add];refine qaB (qq2 l i H) (fun fr _=>l.length-(ai (aget fr 9)).toNat) ⟨rfl,i+1,by omega,by omega,by simp,friz⟩ ?_;rintro fr H' ⟨rfl,m,hm,hm2,hbl,z,rfl⟩
       have hml:m<l.length:=by
        apply Nat.lt_of_not_le;intro hge;rw[zqE (by rw[zqI];omega)]at hbl;rw[qik _ hbl]at hbig;simp at hbig
       obtain⟨b,hbm⟩:∃b,l[m]? =some b:=⟨_,zqD hml⟩
       have hat:=qap hbm;have hwm:IntKind.i64.wrap ((m:Int)+1)=m+1:=wiz;have hwm2:IntKind.i64.wrap ((m:Int)+8192)=m+8192:=wiz;have hdm:(l.drop (i+1))[m-(i+1)]? =some b:=by rw[zqN,show i+1+(m-(i+1))=m by omega];exact hbm
       simp[hml,hat];refine qa1 E _ _ b ?_;cases hs:qag b with
       |false=>
        simp[hwm2];have hrb:=qbl qag (l.drop (i+1)) _ hbl (by rw[zqI];omega) (fun c hc=>by rw[hdm]at hc;cases hc;exact hs);exact bad _ (m+8192) 61 (by rw[hno,hc,hrb];congr 2;omega) rfl rfl rfl
       |true=>
        simp[hwm];refine Klz ⟨rfl,m+1,by omega,by omega,?_,friz⟩;rw[show m+1-(i+1)=m-(i+1)+1 by omega,qbe qag _ _ b hdm,hbl,hs];rfl
      ·have hbig':¬(8192:Int)<(qaH (l.drop (i+1))).length:=by omega
       have hf:=qiO hnf (by omega) (by rw[hc];exact hnm) (by rw[hc];exact hfl') (by rw[hc];exact hbig);rw[hc]at hf;rw[hf]at hQ;have hil:i<=l.length:=by omega
       simp[hbig',hil];exact qab hB (v0:= .tup [.agg [.str (l.take i),.str (qaH (l.drop (i+1)))],.int .i64 0,.int .i64 0]) (by simp) (qaa _) (by simp) hQ
end
end Go.Proofs.YtnnhdehmlkkfjaaGreatDoor
namespace Go.Proofs.YtnnhdehmlkkfjaaGreatDoor
open Go Go.RowKit
section
open Go.Lib
variable (E:Env){H:Hp}(Q:AV->Hp->Prop)
def lkN(state used st err at_:Int):List AV:=[.int .i64 state,.int .i64 used,.bool false,.str [],.str [],.int .i64 0,.int .i64 0,.nil,.str [],.nil,.bool false,.int .i64 st,.int .i64 err,.int .i64 at_]
theorem qat(st err met at_:Int)(h1: -1<=met)(h2:met<=4611686018427387904)(hQ:Q (Lk.av ⟨5,met+1,false,.zero,false,st,err,at_⟩) H):PC Tryz.prog E 47 [.int .i64 st,.int .i64 err,.int .i64 met,.int .i64 at_] H Q:=by
 refine PC.nilD ?_;refine qac Tryz.func47 rfl [] [] (by kernel_rfl) (fun hB=>?_);have w1:IntKind.i64.wrap (met+1)=met+1:=wiz;simp[Tryz.ntmps47,Tryz.results47,List.replicate_succ,w1];exact qab (v0:= .agg (lkN 5 (met+1) st err at_)) hB (by simp[lkN]) (qaa _) (by simp[lkN]) ⟨_,qa7 (by simp[lkN,Lk.av,Rq.avs,Rq.zero,flds]),hQ⟩
theorem qdV(st:Int)(s:List UInt8)(hQ:Q (Lk.av ⟨st,s.length,false,.zero,false,0,0,0⟩) H):PC Tryz.prog E 46 [.int .i64 st,.str s] H Q:=by
 refine PC.nilD ?_;refine qac Tryz.func46 rfl [] [] (by kernel_rfl) (fun hB=>?_);simp[Tryz.ntmps46,Tryz.results46,List.replicate_succ];exact qab (v0:= .agg (lkN st s.length 0 0 0)) hB (by simp[lkN]) (qaa _) (by simp[lkN]) ⟨_,qa7 (by simp[lkN,Lk.av,Rq.avs,Rq.zero,flds]),hQ⟩
theorem qke(c:UInt8)(k:Nat)(hk:k<10)(hQ:Q (.bool (qaI k c)) H):PC Tryz.prog E 49 [.int .u8 (c.toNat:Int),.int .i64 (k:Int)] H Q:=by
 refine qac Tryz.func49 rfl [] [] (by kernel_rfl) (fun hB=>?_);rcases(by omega:k=0\/k=1\/k=2\/k=3\/k=4\/k=5\/k=6\/k=7\/k=8\/k=9)with rfl|rfl|rfl|rfl|rfl|rfl|rfl|rfl|rfl|rfl
 ·have e:qaI 0 c=((c.toNat:Int)==72):=by rw[Bool.eq_iff_iff];simp[qaI,<-UInt8.toNat_inj];omega
  rw[e]at hQ;have hla:lat ([72,84,84,80,47,48,46,48,13,10]:List UInt8) 0=some 72:=rfl;simp[Tryz.ntmps49,Tryz.results49,List.replicate_succ,hla];exact aQz hB (h6:=hQ)
 ·have e:qaI 1 c=((c.toNat:Int)==84):=by rw[Bool.eq_iff_iff];simp[qaI,<-UInt8.toNat_inj];omega
  rw[e]at hQ;have hla:lat ([72,84,84,80,47,48,46,48,13,10]:List UInt8) 1=some 84:=rfl;simp[Tryz.ntmps49,Tryz.results49,List.replicate_succ,hla];exact aQz hB (h6:=hQ)
 ·have e:qaI 2 c=((c.toNat:Int)==84):=by rw[Bool.eq_iff_iff];simp[qaI,<-UInt8.toNat_inj];omega
  rw[e]at hQ;have hla:lat ([72,84,84,80,47,48,46,48,13,10]:List UInt8) 2=some 84:=rfl;simp[Tryz.ntmps49,Tryz.results49,List.replicate_succ,hla];exact aQz hB (h6:=hQ)
 ·have e:qaI 3 c=((c.toNat:Int)==80):=by rw[Bool.eq_iff_iff];simp[qaI,<-UInt8.toNat_inj];omega
  rw[e]at hQ;have hla:lat ([72,84,84,80,47,48,46,48,13,10]:List UInt8) 3=some 80:=rfl;simp[Tryz.ntmps49,Tryz.results49,List.replicate_succ,hla];exact aQz hB (h6:=hQ)
 ·have e:qaI 4 c=((c.toNat:Int)==47):=by rw[Bool.eq_iff_iff];simp[qaI,<-UInt8.toNat_inj];omega
  rw[e]at hQ;have hla:lat ([72,84,84,80,47,48,46,48,13,10]:List UInt8) 4=some 47:=rfl;simp[Tryz.ntmps49,Tryz.results49,List.replicate_succ,hla];exact aQz hB (h6:=hQ)
 ·have e:qaI 5 c=qbF c:=by rw[Bool.eq_iff_iff];simp[qaI,qbF]
  rw[e]at hQ;have hla:lat ([72,84,84,80,47,48,46,48,13,10]:List UInt8) 5=some 48:=rfl;simp[Tryz.ntmps49,Tryz.results49,List.replicate_succ,hla];refine qdh E _ _ c ?_
  generalize qbF c=z at hQ⊢
  simp;exact aQz hB (h6:=hQ)
 ·have e:qaI 6 c=((c.toNat:Int)==46):=by rw[Bool.eq_iff_iff];simp[qaI,<-UInt8.toNat_inj];omega
  rw[e]at hQ;have hla:lat ([72,84,84,80,47,48,46,48,13,10]:List UInt8) 6=some 46:=rfl;simp[Tryz.ntmps49,Tryz.results49,List.replicate_succ,hla];exact aQz hB (h6:=hQ)
 ·have e:qaI 7 c=qbF c:=by rw[Bool.eq_iff_iff];simp[qaI,qbF]
  rw[e]at hQ;have hla:lat ([72,84,84,80,47,48,46,48,13,10]:List UInt8) 7=some 48:=rfl;simp[Tryz.ntmps49,Tryz.results49,List.replicate_succ,hla];refine qdh E _ _ c ?_
  generalize qbF c=z at hQ⊢
  simp;exact aQz hB (h6:=hQ)
 ·have e:qaI 8 c=((c.toNat:Int)==13):=by rw[Bool.eq_iff_iff];simp[qaI,<-UInt8.toNat_inj];omega
  rw[e]at hQ;have hla:lat ([72,84,84,80,47,48,46,48,13,10]:List UInt8) 8=some 13:=rfl;simp[Tryz.ntmps49,Tryz.results49,List.replicate_succ,hla];exact aQz hB (h6:=hQ)
 ·have e:qaI 9 c=((c.toNat:Int)==10):=by rw[Bool.eq_iff_iff];simp[qaI,<-UInt8.toNat_inj];omega
  rw[e]at hQ;have hla:lat ([72,84,84,80,47,48,46,48,13,10]:List UInt8) 9=some 10:=rfl;simp[Tryz.ntmps49,Tryz.results49,List.replicate_succ,hla];exact aQz hB (h6:=hQ)
theorem qo6(m f r:Int)(hr:0<=r)(s:List UInt8)(hs:s.length<=1000000000)(hm:0<=m/\m<=9223372036854775807)
  (hQ:∀t e dn B T,Ends m r f s t e dn B T->Q (wkA t e dn B (.sl false 2 (flds T))) H):
  PC Tryz.prog E 97 [.str s,.int .i64 m,.int .i64 r,.int .i64 f] H Q:=by
 obtain⟨r',rfl⟩:=Int.eq_ofNat_of_zero_le hr;exact qrg E _ Q m f r' s hs hm hQ
end
theorem Lk.bnd(x:Lk)(N:Nat):Bnd N x.av:=by
 refine .agg _ fun y hy=>?_;simp only[Rq.avs,List.mem_append,List.mem_cons,List.not_mem_nil,or_false]at hy;rcases hy with(((rfl|rfl|rfl)|(rfl|rfl|rfl|rfl|rfl|rfl|rfl))|(rfl|rfl|rfl|rfl))<;>first|exact qcm _ _ _|constructor
theorem qbL(p:Prs)(st err at_:Int):qaO (SR.bad p st err at_).prs=⟨5,p.used+1,false,.zero,false,st,err,at_⟩:=by simp[qaO,SR.prs]
theorem qmx{q p:Prs}{s R:List UInt8}{i n:Nat}{t:Nat}{e:Int}{dn:Bool}{B:List UInt8}{T:List Fld}(hf:qan q s=((qan (adv {p with state:=3,dec:=some (newD p.lb p.lh p.lf)} (some .chunked)) R).1,n))(hu:p.used=i)(hb:p.bodied=false)(hEn:Ends p.lb p.lh p.lf R t e dn B T):
  (e≠0->qaO (qan q s).1=⟨5,((i+t:Nat):Int)+1,false,.zero,false,stC e,e,((i+t:Nat):Int)⟩)/\
  (e=0->dn=true->qaO (qan q s).1=⟨4,((i+1+t:Nat):Int),true,⟨p.meth,p.targ,p.major,p.minor,p.fields,B,T⟩,false,0,0,0⟩)/\
  (e=0->dn=false->qaO (qan q s).1=⟨3,((i+1+R.length:Nat):Int),true,⟨p.meth,p.targ,p.major,p.minor,p.fields,[],[]⟩,R.isEmpty&&!decide (p.minor=0)&&expB p.fields,0,0,0⟩):=by
 obtain⟨e1,e2,e3,e4,e5⟩:=hEn;obtain⟨c1,c2,c3⟩:=qhu R (adv {p with state:=3,dec:=some (newD p.lb p.lh p.lf)} (some .chunked)) (newD p.lb p.lh p.lf) rfl rfl ⟨rfl,rfl⟩;rw[hf];refine⟨fun he=>?_,fun he hd=>?_,fun he hd=>?_⟩
 ·rw[c1 (by rw[e2];exact he)];simp only[qaO,adv,if_true,e1,e2,hu,Lk.mk.injEq,true_and,and_true];exact⟨by omega,by omega⟩
 ·rw[c2 (by rw[e2];exact he) (by rw[e3];exact hd)];simp only[qaO,adv,e1,e4,e5,hu,Prs.rq];rw[if_neg (by decide),if_pos trivial];simp only[Lk.mk.injEq,true_and,and_true];omega
 ·rw[c3 (by rw[e2];exact he) (by rw[e3];exact hd)];simp only[qaO,adv,hu,Prs.rqH,Prs.waits,hb];rw[if_neg (by decide),if_neg (by decide),if_pos trivial];simp only[Lk.mk.injEq,true_and,and_true];refine⟨by omega,?_⟩;simp
theorem qqd{q p:Prs}{s R:List UInt8}{i n:Nat}{l:Int}(hf:qan q s=((qan (adv {p with state:=3,left:=l} (some .counted)) R).1,n))(hu:p.used=i)(hb:p.bodied=false)(hl:0<l)(hR:(R.length:Int)<l):
  qaO (qan q s).1=⟨3,((i+1+R.length:Nat):Int),true,⟨p.meth,p.targ,p.major,p.minor,p.fields,[],[]⟩,R.isEmpty&&!decide (p.minor=0)&&expB p.fields,0,0,0⟩:=by
 obtain⟨c1,c2⟩:=qdJ R (adv {p with state:=3,left:=l} (some .counted)) rfl hl;rw[hf,c1 hR];simp only[qaO,adv,hu,Prs.rqH,Prs.waits,hb];rw[if_neg (by decide),if_neg (by decide),if_pos trivial];simp only[Lk.mk.injEq,true_and,and_true];refine⟨by omega,?_⟩;simp
theorem qqe{q p:Prs}{s R:List UInt8}{i n:Nat}{l:Int}(hf:qan q s=((qan (adv {p with state:=3,left:=l} (some .counted)) R).1,n))(hu:p.used=i)(hb:p.body=[])(ht:p.trailers=[])(hl:0<l)(hR:l<=(R.length:Int)):
  qaO (qan q s).1=⟨4,((i+1+l.toNat:Nat):Int),true,⟨p.meth,p.targ,p.major,p.minor,p.fields,R.take l.toNat,[]⟩,false,0,0,0⟩:=by
 obtain⟨c1,c2⟩:=qdJ R (adv {p with state:=3,left:=l} (some .counted)) rfl hl;rw[hf,c2 hR];simp only[qaO,adv,hu,Prs.rq,hb,ht];rw[if_neg (by decide),if_pos trivial];simp only[Lk.mk.injEq,true_and,and_true,List.nil_append];omega
theorem qih{q p:Prs}{s R:List UInt8}{i n:Nat}(hf:qan q s=((qan (adv {p with state:=4,rbody:=p.body} none) R).1,n))(hu:p.used=i)(hb:p.body=[])(ht:p.trailers=[]):
  qaO (qan q s).1=⟨4,((i+1:Nat):Int),true,⟨p.meth,p.targ,p.major,p.minor,p.fields,[],[]⟩,false,0,0,0⟩:=by
 rw[hf,qdT R rfl];simp only[qaO,adv,hu,Prs.rq,hb,ht];rw[if_neg (by decide),if_pos trivial];rfl
theorem qnE(l:List Fld)(old:Bool):(qeO l old).1.length<=fsz l:=by
 have hsz:=qe2 l [72,111,115,116];unfold qeO;rcases hal:allB l [72,111,115,116]with _|⟨v,_|⟨w,t⟩⟩
 ·simp only;split<;>exact Nat.zero_le _
 ·rw[hal]at hsz;simp only;split
  ·exact Nat.zero_le _
  ·exact hsz v (.head _)
 ·exact Nat.zero_le _
theorem qi5(l:List Fld)(old:Bool):((qa5 l old).1≠1->(qa5 l old).1≠2->(qa5 l old).2.1=0)/\0<=(qa5 l old).2.1:=by
 have hl:0<=(qaA l).1:=by
  unfold qaA
  repeat' split
  all_goals first|exact Int.le_refl _|skip
  rename_i h;simp only[not_or]at h;show 0<=decA _;omega
 unfold qa5
 repeat' split
 all_goals first|exact⟨fun h=>absurd rfl h,hl⟩|exact⟨fun _ h=>absurd rfl h,Int.le_refl _⟩|exact⟨fun _ _=>rfl,Int.le_refl _⟩
def lenS(p:Prs)(kd ln:Int):SR:=
 if p.lb<ln then qau p 413 114
 else if kd=2 then .go {p with state:=3,dec:=some (newD p.lb p.lh p.lf)} (some .chunked)
 else if 0<ln then .go {p with state:=3,left:=ln} (some .counted)
 else qdI {p with state:=3}
def expS(p:Prs)(kd ln:Int):SR:=
 if allB p.fields [69,120,112,101,99,116]≠[]/\((qbM p.fields [69,120,112,101,99,116]).2≠0\/(qbM p.fields [69,120,112,101,99,116]).1≠[[49,48,48,45,99,111,110,116,105,110,117,101]])then qau p 417 116
 else lenS p kd ln
theorem qmZ{I P:List AV->Hp->Prop}{G:Prop}(main:(∀fr H',I fr H'->P fr H')->G)(tail:∀fr H',I fr H'->P fr H'):G:=main tail
section
open Go.Lib
variable (E:Env){H:Hp}(Q:AV->Hp->Prop)
def hdK(p:Prs)(H:Hp):Hp:=H++[[.int .i64 p.lt,.int .i64 p.lh,.int .i64 p.lf,.int .i64 p.lb],[.str p.meth,.str p.targ,.int .i64 p.major,.int .i64 p.minor,.sl false 2 (flds p.fields),.str [],.sl false 2 []],[.int .i64 0,.int .i64 0,.bool false,.str [],.str [],.int .i64 0,.int .i64 0,.nil,.str [],.nil,.bool false,.int .i64 0,.int .i64 0,.int .i64 0]]
def hdI1(p:Prs)(s R:List UInt8)(i:Nat)(old hok:Bool)(kd ln:Int)(H:Hp)(fr:List AV)(K:Hp):Prop:=qbi p=expS p kd ln/\K=hdK p H/\
 ∃x:Nat->AV,fr=[x 0,.str s,.int .i64 (i:Int),x 3,.ptr (some (H.length,0)),x 5,x 6,.ptr (some (H.length+1,0)),.ptr (some (H.length+2,0)),.bool old,.int .i64 kd,.int .i64 ln,x 12,x 13,x 14,x 15,x 16,x 17,x 18,x 19,x 20,x 21,x 22,x 23,x 24,x 25,x 26,x 27,x 28,x 29,x 30,x 31,x 32,x 33,x 34,x 35,x 36,x 37,x 38,x 39,x 40,x 41,x 42,x 43,x 44,x 45,x 46,x 47,x 48,x 49,x 50,x 51,x 52,x 53,x 54,x 55,x 56,x 57,x 58,x 59,x 60,x 61,x 62,x 63,x 64,x 65,x 66,x 67,x 68,x 69,x 70,x 71,x 72,x 73,x 74,x 75,x 76,x 77,x 78,x 79,x 80,x 81,x 82,x 83,x 84,x 85,x 86,x 87,x 88,x 89,x 90,x 91,x 92,x 93,x 94,x 95,x 96,x 97,x 98,x 99,x 100,x 101,x 102,x 103,x 104,x 105,x 106,x 107,x 108,x 109,x 110,x 111,x 112,x 113,x 114,x 115,x 116,x 117,x 118,x 119,x 120,x 121,x 122,x 123,x 124,x 125,x 126,x 127,x 128,x 129,x 130,x 131,x 132,x 133,x 134,x 135,x 136,x 137,x 138,x 139,x 140,x 141,x 142,x 143,x 144,x 145,x 146,x 147,x 148,x 149,x 150,x 151,x 152,x 153,x 154,x 155,x 156,x 157,x 158,x 159,x 160,x 161,x 162,x 163,x 164,x 165,x 166,x 167,x 168,x 169,x 170,x 171,x 172,x 173,x 174,x 175,x 176,x 177,x 178,x 179,x 180,x 181,x 182,x 183,x 184,x 185,x 186,x 187,x 188,x 189,x 190,x 191,x 192,x 193,x 194,x 195,x 196,x 197,x 198]
def hdI2(p:Prs)(s R:List UInt8)(i:Nat)(old:Bool)(ex:Bool)(kd ln:Int)(H:Hp)(fr:List AV)(K:Hp):Prop:=qbi p=lenS p kd ln/\K=hdK p H/\
 ∃x:Nat->AV,fr=[x 0,.str s,.int .i64 (i:Int),x 3,.ptr (some (H.length,0)),x 5,x 6,.ptr (some (H.length+1,0)),.ptr (some (H.length+2,0)),.bool old,.int .i64 kd,.int .i64 ln,x 12,x 13,x 14,x 15,x 16,x 17,.bool ex,x 19,x 20,x 21,x 22,x 23,x 24,x 25,x 26,x 27,x 28,x 29,x 30,x 31,x 32,x 33,x 34,x 35,x 36,x 37,x 38,x 39,x 40,x 41,x 42,x 43,x 44,x 45,x 46,x 47,x 48,x 49,x 50,x 51,x 52,x 53,x 54,x 55,x 56,x 57,x 58,x 59,x 60,x 61,x 62,x 63,x 64,x 65,x 66,x 67,x 68,x 69,x 70,x 71,x 72,x 73,x 74,x 75,x 76,x 77,x 78,x 79,x 80,x 81,x 82,x 83,x 84,x 85,x 86,x 87,x 88,x 89,x 90,x 91,x 92,x 93,x 94,x 95,x 96,x 97,x 98,x 99,x 100,x 101,x 102,x 103,x 104,x 105,x 106,x 107,x 108,x 109,x 110,x 111,x 112,x 113,x 114,x 115,x 116,x 117,x 118,x 119,x 120,x 121,x 122,x 123,x 124,x 125,x 126,x 127,x 128,x 129,x 130,x 131,x 132,x 133,x 134,x 135,x 136,x 137,x 138,x 139,x 140,x 141,x 142,x 143,x 144,x 145,x 146,x 147,x 148,x 149,x 150,x 151,x 152,x 153,x 154,x 155,x 156,x 157,x 158,x 159,x 160,x 161,x 162,x 163,x 164,x 165,x 166,x 167,x 168,x 169,x 170,x 171,x 172,x 173,x 174,x 175,x 176,x 177,x 178,x 179,x 180,x 181,x 182,x 183,x 184,x 185,x 186,x 187,x 188,x 189,x 190,x 191,x 192,x 193,x 194,x 195,x 196,x 197,x 198]
def hdI3(p:Prs)(s:List UInt8)(i:Nat)(WV:Bool)(kd ln:Int)(H:Hp)(fr:List AV)(K:Hp):Prop:=K=H++[[.int .i64 p.lt,.int .i64 p.lh,.int .i64 p.lf,.int .i64 p.lb],[.str p.meth,.str p.targ,.int .i64 p.major,.int .i64 p.minor,.sl false 2 (flds p.fields),.str [],.sl false 2 []],[.int .i64 0,.int .i64 0,.bool false,.str [],.str [],.int .i64 0,.int .i64 0,.nil,.str [],.nil,.bool false,.int .i64 0,.int .i64 0,.int .i64 0],[.int .i64 3,.int .i64 (s.length:Int),.bool true,.str p.meth,.str p.targ,.int .i64 p.major,.int .i64 p.minor,.sl false 2 (flds p.fields),.str [],.sl false 2 [],.bool WV,.int .i64 0,.int .i64 0,.int .i64 0]]/\
 ∃x:Nat->AV,fr=[x 0,.str s,.int .i64 ((i+1:Nat):Int),x 3,.ptr (some (H.length,0)),x 5,x 6,.ptr (some (H.length+1,0)),.ptr (some (H.length+2,0)),x 9,.int .i64 kd,.int .i64 ln,x 12,x 13,x 14,x 15,x 16,x 17,x 18,x 19,x 20,.ptr (some (H.length+3,0)),x 22,x 23,x 24,x 25,x 26,x 27,x 28,x 29,x 30,x 31,x 32,x 33,x 34,x 35,x 36,x 37,x 38,x 39,x 40,x 41,x 42,x 43,x 44,x 45,x 46,x 47,x 48,x 49,x 50,x 51,x 52,x 53,x 54,x 55,x 56,x 57,x 58,x 59,x 60,x 61,x 62,x 63,x 64,x 65,x 66,x 67,x 68,x 69,x 70,x 71,x 72,x 73,x 74,x 75,x 76,x 77,x 78,x 79,x 80,x 81,x 82,x 83,x 84,x 85,x 86,x 87,x 88,x 89,x 90,x 91,x 92,x 93,x 94,x 95,x 96,x 97,x 98,x 99,x 100,x 101,x 102,x 103,x 104,x 105,x 106,x 107,x 108,x 109,x 110,x 111,x 112,x 113,x 114,x 115,x 116,x 117,x 118,x 119,x 120,x 121,x 122,x 123,x 124,x 125,x 126,x 127,x 128,x 129,x 130,x 131,x 132,x 133,x 134,x 135,x 136,x 137,x 138,x 139,x 140,x 141,x 142,x 143,x 144,x 145,x 146,x 147,x 148,x 149,x 150,x 151,x 152,x 153,x 154,x 155,x 156,x 157,x 158,x 159,x 160,x 161,x 162,x 163,x 164,x 165,x 166,x 167,x 168,x 169,x 170,x 171,x 172,x 173,x 174,x 175,x 176,x 177,x 178,x 179,x 180,x 181,x 182,x 183,x 184,x 185,x 186,x 187,x 188,x 189,x 190,x 191,x 192,x 193,x 194,x 195,x 196,x 197,x 198]
theorem qld(q p0 p:Prs)(s:List UInt8)(i:Nat)(m:Md)(c:UInt8)(hF:Fd q s p0 i)(hc:s[i]? =some c)(hm:p0.nx=some m)(hs:qbN p0 m c=qbi p)(hu:p.used=i)(hb:p.bodied=false)(hbo:p.body=[])(htr:p.trailers=[])
  (hlh:0<=p.lh) (hlb:0<=p.lb/\p.lb<=1073741824) (hsz:fsz p.fields+p.fields.length<=4194304) (hl:s.length<=1000000000) (hQ:Q (qaO (qan q s).1).av H):
  PC Tryz.prog E 69 [limV p.lt p.lh p.lf p.lb,.str s,.int .i64 (i:Int),(Rq.mk p.meth p.targ p.major p.minor p.fields [] []).av] H Q:=by
 refine qga (fun i=>i=H.length+4) Tryz.func69 rfl [] [(26,[0,0,0,0,0,0,0,0,0,4]),(36,[0,0,0,2,0,2])] (by kernel_rfl) (fun E' hS' h0' hF' hB=>?_);have fin:∀x:Lk,qaO (qan q s).1=x->Q x.av H:=fun x hx=>hx▸hQ;clear hQ;have hlt:=(zqC.1 hc).1;obtain⟨R,hR⟩:=exz (s.drop (i+1));have hRl:R.length=s.length-(i+1):=by rw[<-hR,zqI]
 have htR:R.take (s.length-(i+1))=R:=zqE (by omega);have hRs:((i+1+R.length:Nat):Int)=(s.length:Int):=by omega
 have bad:∀st err,qbi p=qau p st err->qaO (qan q s).1=⟨5,(i:Int)+1,false,.zero,false,st,err,(i:Int)⟩:=fun st err h=>by
  unfold qau at h;rw[Fd.bad hF hc hm (hs.trans h),qbL,hu]
 have gol:∀p1 nx,qbi p= .go p1 nx->qan q s=((qan (adv p1 nx) R).1,(qan (adv p1 nx) R).2+(i+1)):=fun p1 nx h=>by
  have:=(Fd.go hF hc hm (hs.trans h)).2;rwa[hR]at this
 have w1:IntKind.i64.wrap ((i:Int)+1)=((i+1:Nat):Int):=by rw[qah (by omega) (by omega)];omega
 have q1:i+1<=s.length:=hlt;obtain⟨W,hW⟩:=exz (R.isEmpty)
 have hWl:(((i+1:Nat):Int)==(s.length:Int))=W:=by
  rw[<-hW,Bool.eq_iff_iff];simp;rw[<-List.length_eq_zero_iff];omega
 obtain⟨old,hold⟩:=exz ((p.minor==0));have hold2:decide (p.minor=0)=old:=by rw[<-hold];rfl
 have hS:qbi p=qbi p:=rfl
 conv at hS=>rhs;unfold qbi
 dsimp only at hS;rw[hold2]at hS;have hkind:=qi5 p.fields old;obtain⟨kd,ln,e0,hFr⟩:∃kd ln e0,qa5 p.fields old=(kd,ln,e0):=⟨_,_,_,rfl⟩
 obtain⟨h,hok,e1,hHo⟩:∃h hok e1,qeO p.fields old=(h,hok,e1):=⟨_,_,_,rfl⟩
 rw[hFr]at hkind;obtain⟨hk,hln0⟩:=hkind;simp only at hk hln0;rw[hFr,hHo]at hS;simp only at hS;simp[Tryz.ntmps69,Tryz.results69,List.replicate_succ,limV,Rq.av,Rq.avs,hold];refine qkf E' _ _ p.fields old (by omega) ?_;rw[hFr];by_cases h67:e0=67
 ·subst h67;rw[if_pos rfl]at hS;simp[w1,-Int.natCast_add];refine qat E' _ 501 67 (i:Int) (i:Int) (by omega) (by omega) ?_;simp[Lk.av,Rq.avs,Rq.zero,flds,-Int.natCast_add];exact qab (v0:=Lk.av ⟨5,(i:Int)+1,false,.zero,false,501,67,(i:Int)⟩) (v:=Lk.av ⟨5,(i:Int)+1,false,.zero,false,501,67,(i:Int)⟩) hB (by simp[Lk.av,Rq.avs,Rq.zero,flds]) (qaa _) (Lk.bnd ⟨5,(i:Int)+1,false,.zero,false,501,67,(i:Int)⟩ _) (fin ⟨5,(i:Int)+1,false,.zero,false,501,67,(i:Int)⟩ (bad _ _ hS))
 ·rw[if_neg h67]at hS;have h67':(e0==67)=false:=by simpa using h67
  by_cases h0:e0=0
  ·subst h0;rw[if_neg (by simp)]at hS;simp;refine qm6 E' _ p.fields old (by omega) (fun h' hok' e1' hx=>?_);rw[hHo]at hx;obtain⟨rfl,rfl,rfl⟩:h=h'/\hok=hok'/\e1=e1':=by simpa using hx
   by_cases he1:e1=0
   ·subst he1;rw[if_neg (by simp)]at hS;simp;apply qmZ (I:=hdI1 p s R i old hok kd ln H)
    ·intro tail;by_cases hh:h=[]
     ·rw[if_neg (fun x=>x.1 hh)]at hS;subst hh;simp[-qaZ];exact tail _ _ ⟨hS,rfl,qal (by simp[flds])⟩
     ·have hh':(h !=[])=true:=by simpa using hh
      have hhl:h.length<=1073741824:=by
       have:=qnE p.fields old;rw[hHo]at this;simp only at this;omega
      simp[hh'];refine qf8 E' _ h hhl (fun h2 p2 e2 hA=>?_);rw[hA]at hS;simp only at hS;simp;by_cases he2:e2=0
      ·subst he2;rw[if_neg (fun x=>x.2 rfl)]at hS;simp[-qaZ];exact tail _ _ ⟨hS,rfl,qal (by simp[flds])⟩
      ·rw[if_pos ⟨hh,he2⟩]at hS;have b1:(e2==0)=false:=by simpa using he2
       have b2:(e2 !=0)=true:=by simpa using he2
       simp[b1,b2,-Int.natCast_add];refine qat E' _ 400 e2 (i:Int) (i:Int) (by omega) (by omega) ?_;simp[Lk.av,Rq.avs,Rq.zero,flds,-Int.natCast_add];exact qab (v0:=Lk.av ⟨5,(i:Int)+1,false,.zero,false,400,e2,(i:Int)⟩) (v:=Lk.av ⟨5,(i:Int)+1,false,.zero,false,400,e2,(i:Int)⟩) hB (by simp[Lk.av,Rq.avs,Rq.zero,flds]) (qaa _) (Lk.bnd ⟨5,(i:Int)+1,false,.zero,false,400,e2,(i:Int)⟩ _) (fin ⟨5,(i:Int)+1,false,.zero,false,400,e2,(i:Int)⟩ (bad _ _ hS))
    clear hS;rintro _ _ ⟨hS,rfl,x,rfl⟩;simp[hdK];refine qgt E' _ _ p.fields [69,120,112,101,99,116] (by omega) (by decide) ?_;simp;apply qmZ (I:=hdI2 p s R i old (expB p.fields) kd ln H)
    ·intro tail;unfold expS at hS;cases hexp:expB p.fields with
     |false=>
      have hnil:allB p.fields [69,120,112,101,99,116]=[]:=by unfold expB expL at hexp;simpa using hexp
      rw[if_neg (fun h=>h.1 hnil)]at hS;rw[hexp]at tail;simp[hnil,-qaZ];exact tail _ _ ⟨hS,rfl,qal (by simp[flds])⟩
     |true=>
      have hnil:allB p.fields [69,120,112,101,99,116]≠[]:=by unfold expB expL at hexp;simpa using hexp
      have hpos:0<(allB p.fields [69,120,112,101,99,116]).length:=List.length_pos_iff.2 hnil;rw[hexp]at tail;simp[hpos];refine qhr E' _ _ p.fields [69,120,112,101,99,116] (by omega) (by decide) ?_;obtain⟨tl,te,htk⟩:∃tl te,qbM p.fields [69,120,112,101,99,116]=(tl,te):=⟨_,_,rfl⟩
      rw[htk]at hS⊢;simp only at hS;by_cases hte:te=0
      ·subst hte;rcases tl with _|⟨t0,_|⟨t1,tr⟩⟩
       ·rw[if_pos ⟨hnil,.inr (by simp)⟩]at hS;simp[strs,-Int.natCast_add];refine qat E' _ 417 116 (i:Int) (i:Int) (by omega) (by omega) ?_;simp[Lk.av,Rq.avs,Rq.zero,flds,-Int.natCast_add];exact qab (v0:=Lk.av ⟨5,(i:Int)+1,false,.zero,false,417,116,(i:Int)⟩) (v:=Lk.av ⟨5,(i:Int)+1,false,.zero,false,417,116,(i:Int)⟩) hB (by simp[Lk.av,Rq.avs,Rq.zero,flds]) (qaa _) (Lk.bnd ⟨5,(i:Int)+1,false,.zero,false,417,116,(i:Int)⟩ _) (fin ⟨5,(i:Int)+1,false,.zero,false,417,116,(i:Int)⟩ (bad _ _ hS))
       ·have hat0:lat (strs [t0]) 0=some [AV.str t0]:=rfl;simp[hat0];by_cases ht0:t0=[49,48,48,45,99,111,110,116,105,110,117,101]
        ·subst ht0;rw[if_neg (fun h=>h.2.elim (fun h=>h rfl) (fun h=>h rfl))]at hS;simp[-qaZ];exact tail _ _ ⟨hS,rfl,qal (by simp[flds])⟩
        ·rw[if_pos ⟨hnil,.inr (by simpa using ht0)⟩]at hS;have ht0':(t0==[49,48,48,45,99,111,110,116,105,110,117,101])=false:=by simpa using ht0
         have ht0'':(t0 !=[49,48,48,45,99,111,110,116,105,110,117,101])=true:=by simpa using ht0
         simp[ht0',ht0'',-Int.natCast_add];refine qat E' _ 417 116 (i:Int) (i:Int) (by omega) (by omega) ?_;simp[Lk.av,Rq.avs,Rq.zero,flds,-Int.natCast_add];exact qab (v0:=Lk.av ⟨5,(i:Int)+1,false,.zero,false,417,116,(i:Int)⟩) (v:=Lk.av ⟨5,(i:Int)+1,false,.zero,false,417,116,(i:Int)⟩) hB (by simp[Lk.av,Rq.avs,Rq.zero,flds]) (qaa _) (Lk.bnd ⟨5,(i:Int)+1,false,.zero,false,417,116,(i:Int)⟩ _) (fin ⟨5,(i:Int)+1,false,.zero,false,417,116,(i:Int)⟩ (bad _ _ hS))
       ·rw[if_pos ⟨hnil,.inr (by simp)⟩]at hS;have g1:¬((tr.length:Int)+1+1)=1:=by omega
        have g2:((tr.length:Int)+1+1 !=1)=true:=by simpa using g1
        have g3:(((tr.length+1+1:Nat):Int) !=1)=true:=by simp;omega
        simp[strs,g1,g2,g3,-Int.natCast_add];refine qat E' _ 417 116 (i:Int) (i:Int) (by omega) (by omega) ?_;simp[Lk.av,Rq.avs,Rq.zero,flds,-Int.natCast_add];exact qab (v0:=Lk.av ⟨5,(i:Int)+1,false,.zero,false,417,116,(i:Int)⟩) (v:=Lk.av ⟨5,(i:Int)+1,false,.zero,false,417,116,(i:Int)⟩) hB (by simp[Lk.av,Rq.avs,Rq.zero,flds]) (qaa _) (Lk.bnd ⟨5,(i:Int)+1,false,.zero,false,417,116,(i:Int)⟩ _) (fin ⟨5,(i:Int)+1,false,.zero,false,417,116,(i:Int)⟩ (bad _ _ hS))
      ·rw[if_pos ⟨hnil,.inl hte⟩]at hS;have hte':(te==0)=false:=by simpa using hte
       have hte2:(te !=0)=true:=by simpa using hte
       simp[hte',hte2,-Int.natCast_add];refine qat E' _ 417 116 (i:Int) (i:Int) (by omega) (by omega) ?_;simp[Lk.av,Rq.avs,Rq.zero,flds,-Int.natCast_add];exact qab (v0:=Lk.av ⟨5,(i:Int)+1,false,.zero,false,417,116,(i:Int)⟩) (v:=Lk.av ⟨5,(i:Int)+1,false,.zero,false,417,116,(i:Int)⟩) hB (by simp[Lk.av,Rq.avs,Rq.zero,flds]) (qaa _) (Lk.bnd ⟨5,(i:Int)+1,false,.zero,false,417,116,(i:Int)⟩ _) (fin ⟨5,(i:Int)+1,false,.zero,false,417,116,(i:Int)⟩ (bad _ _ hS))
    clear hS;rintro _ _ ⟨hS,rfl,x,rfl⟩;unfold lenS at hS;simp[hdK];by_cases hbig:p.lb<ln
    ·rw[if_pos hbig]at hS;simp[hbig,-Int.natCast_add];refine qat E' _ 413 114 (i:Int) (i:Int) (by omega) (by omega) ?_;simp[Lk.av,Rq.avs,Rq.zero,flds,-Int.natCast_add];exact qab (v0:=Lk.av ⟨5,(i:Int)+1,false,.zero,false,413,114,(i:Int)⟩) (v:=Lk.av ⟨5,(i:Int)+1,false,.zero,false,413,114,(i:Int)⟩) hB (by simp[Lk.av,Rq.avs,Rq.zero,flds]) (qaa _) (Lk.bnd ⟨5,(i:Int)+1,false,.zero,false,413,114,(i:Int)⟩ _) (fin ⟨5,(i:Int)+1,false,.zero,false,413,114,(i:Int)⟩ (bad _ _ hS))
    ·rw[if_neg hbig]at hS;have hbig':¬p.lb<ln:=hbig;obtain⟨WV,hWV⟩:=exz ((R.isEmpty&&!decide (p.minor=0)&&expB p.fields))
     generalize hex:expB p.fields=ex at hWV⊢
     rw[hold2,hW]at hWV;simp[hbig',w1,-qaZ,-Int.natCast_add];apply qmZ (I:=hdI3 p s i WV kd ln H)
     ·intro tail;simp only[qaZ,qmE];simp[w1,-qaZ,-Int.natCast_add];simp only[qaZ,qmE];cases ex with
      |false=>
       obtain rfl:false=WV:=by rw[<-hWV];simp
       simp[-qaZ,-Int.natCast_add];exact tail _ _ ⟨rfl,qal (by simp[flds])⟩
      |true=>
       cases old with
       |true=>
        obtain rfl:false=WV:=by rw[<-hWV];simp
        simp[-qaZ,-Int.natCast_add];exact tail _ _ ⟨rfl,qal (by simp[flds])⟩
       |false=>
        obtain rfl:W=WV:=by rw[<-hWV];simp
        simp[hWl,-qaZ,-Int.natCast_add];exact tail _ _ ⟨rfl,qal (by simp[flds])⟩
     rintro _ _ ⟨rfl,x,rfl⟩;have hwq:(R.isEmpty&&!decide (p.minor=0)&&expB p.fields)=WV:=by rw[hold2,hW,hex,hWV]
     simp[-Int.natCast_add];by_cases hk2:kd=2
     ·rw[if_pos hk2]at hS;subst hk2;simp[q1,hR,htR,-Int.natCast_add];refine qcM fun J=>?_;refine qo6 E' _ p.lb p.lf p.lh (by omega) R (by omega) (by omega) (fun t e dn B T hEn=>⟨rfl,?_⟩);have hE2:=qmx (gol _ _ hS) hu hb hEn;have ht:t<=R.length:=by have:=hEn.1;rw[<-this];exact qk6 _ _
      have w3:IntKind.i64.wrap (((i+1:Nat):Int)+(t:Int))=((i+1+t:Nat):Int):=by rw[qah (by omega) (by omega)];omega
      have w4:IntKind.i64.wrap (((i+1+t:Nat):Int)-1)=((i+t:Nat):Int):=by rw[qah (by omega) (by omega)];omega
      by_cases he:e=0
      ·subst he;cases dn with
       |true=>
        have hx:=hE2.2.1 rfl rfl;simp[wkA,w3,hS',-Int.natCast_add];exact qab (v0:=Lk.av ⟨4,((i+1+t:Nat):Int),true,⟨p.meth,p.targ,p.major,p.minor,p.fields,B,T⟩,false,0,0,0⟩) (v:=Lk.av ⟨4,((i+1+t:Nat):Int),true,⟨p.meth,p.targ,p.major,p.minor,p.fields,B,T⟩,false,0,0,0⟩) hB (by simp[Lk.av,Rq.avs,Rq.zero,flds]) (qaa _) (Lk.bnd ⟨4,((i+1+t:Nat):Int),true,⟨p.meth,p.targ,p.major,p.minor,p.fields,B,T⟩,false,0,0,0⟩ _) (fin ⟨4,((i+1+t:Nat):Int),true,⟨p.meth,p.targ,p.major,p.minor,p.fields,B,T⟩,false,0,0,0⟩ hx)
       |false=>
        have hx:=hE2.2.2 rfl rfl;rw[hwq,hRs]at hx;simp[wkA];exact qab (v0:=Lk.av ⟨3,(s.length:Int),true,⟨p.meth,p.targ,p.major,p.minor,p.fields,[],[]⟩,WV,0,0,0⟩) (v:=Lk.av ⟨3,(s.length:Int),true,⟨p.meth,p.targ,p.major,p.minor,p.fields,[],[]⟩,WV,0,0,0⟩) hB (by simp[Lk.av,Rq.avs,Rq.zero,flds]) (qaa _) (Lk.bnd ⟨3,(s.length:Int),true,⟨p.meth,p.targ,p.major,p.minor,p.fields,[],[]⟩,WV,0,0,0⟩ _) (fin ⟨3,(s.length:Int),true,⟨p.meth,p.targ,p.major,p.minor,p.fields,[],[]⟩,WV,0,0,0⟩ hx)
      ·have he1:(e==0)=false:=by simpa using he
       have he2:(e !=0)=true:=by simpa using he
       have hx:=hE2.1 he;by_cases h102:e=102
       ·subst h102;simp[wkA,w3,w4,-Int.natCast_add];refine qat E' _ 413 102 ((i+t:Nat):Int) ((i+t:Nat):Int) (by omega) (by omega) ?_;simp[Lk.av,Rq.avs,Rq.zero,flds,-Int.natCast_add];exact qab (v0:=Lk.av ⟨5,((i+t:Nat):Int)+1,false,.zero,false,413,102,((i+t:Nat):Int)⟩) (v:=Lk.av ⟨5,((i+t:Nat):Int)+1,false,.zero,false,413,102,((i+t:Nat):Int)⟩) hB (by simp[Lk.av,Rq.avs,Rq.zero,flds]) (qaa _) (Lk.bnd ⟨5,((i+t:Nat):Int)+1,false,.zero,false,413,102,((i+t:Nat):Int)⟩ _) (fin ⟨5,((i+t:Nat):Int)+1,false,.zero,false,413,102,((i+t:Nat):Int)⟩ hx)
       ·have b1:(e==102)=false:=by simpa using h102
        by_cases h104:e=104
        ·subst h104;simp[wkA,w3,w4,-Int.natCast_add];refine qat E' _ 431 104 ((i+t:Nat):Int) ((i+t:Nat):Int) (by omega) (by omega) ?_;simp[Lk.av,Rq.avs,Rq.zero,flds,-Int.natCast_add];exact qab (v0:=Lk.av ⟨5,((i+t:Nat):Int)+1,false,.zero,false,431,104,((i+t:Nat):Int)⟩) (v:=Lk.av ⟨5,((i+t:Nat):Int)+1,false,.zero,false,431,104,((i+t:Nat):Int)⟩) hB (by simp[Lk.av,Rq.avs,Rq.zero,flds]) (qaa _) (Lk.bnd ⟨5,((i+t:Nat):Int)+1,false,.zero,false,431,104,((i+t:Nat):Int)⟩ _) (fin ⟨5,((i+t:Nat):Int)+1,false,.zero,false,431,104,((i+t:Nat):Int)⟩ hx)
        ·have b2:(e==104)=false:=by simpa using h104
         have hst:stC e=400:=by unfold stC;rw[if_neg h102,if_neg h104]
         rw[hst]at hx;simp[wkA,he1,he2,b1,b2,w3,w4,-Int.natCast_add];refine qat E' _ 400 e ((i+t:Nat):Int) ((i+t:Nat):Int) (by omega) (by omega) ?_;simp[Lk.av,Rq.avs,Rq.zero,flds,-Int.natCast_add];exact qab (v0:=Lk.av ⟨5,((i+t:Nat):Int)+1,false,.zero,false,400,e,((i+t:Nat):Int)⟩) (v:=Lk.av ⟨5,((i+t:Nat):Int)+1,false,.zero,false,400,e,((i+t:Nat):Int)⟩) hB (by simp[Lk.av,Rq.avs,Rq.zero,flds]) (qaa _) (Lk.bnd ⟨5,((i+t:Nat):Int)+1,false,.zero,false,400,e,((i+t:Nat):Int)⟩ _) (fin ⟨5,((i+t:Nat):Int)+1,false,.zero,false,400,e,((i+t:Nat):Int)⟩ hx)
     ·rw[if_neg hk2]at hS;have hk2':(kd==2)=false:=by simpa using hk2
      by_cases hk1:kd=1
      ·subst hk1;have w5:IntKind.i64.wrap ((s.length:Int)-((i+1:Nat):Int))=(R.length:Int):=by rw[qah (by omega) (by omega)];omega
       by_cases hsh:(R.length:Int)<ln
       ·have hpos:0<ln:=by omega
        rw[if_pos hpos]at hS;have hx:=qqd (gol _ _ hS) hu hb hpos hsh;rw[hwq,hRs]at hx;simp[w5,hsh,-Int.natCast_add];exact qab (v0:=Lk.av ⟨3,(s.length:Int),true,⟨p.meth,p.targ,p.major,p.minor,p.fields,[],[]⟩,WV,0,0,0⟩) (v:=Lk.av ⟨3,(s.length:Int),true,⟨p.meth,p.targ,p.major,p.minor,p.fields,[],[]⟩,WV,0,0,0⟩) hB (by simp[Lk.av,Rq.avs,Rq.zero,flds]) (qaa _) (Lk.bnd ⟨3,(s.length:Int),true,⟨p.meth,p.targ,p.major,p.minor,p.fields,[],[]⟩,WV,0,0,0⟩ _) (fin ⟨3,(s.length:Int),true,⟨p.meth,p.targ,p.major,p.minor,p.fields,[],[]⟩,WV,0,0,0⟩ hx)
       ·obtain⟨L,rfl⟩:∃L:Nat,ln=L:=⟨ln.toNat,by omega⟩
        have hx:qaO (qan q s).1=⟨4,((i+1+L:Nat):Int),true,⟨p.meth,p.targ,p.major,p.minor,p.fields,(R.take L),[]⟩,false,0,0,0⟩:=by
         by_cases hpos:(0:Int)<L
         ·rw[if_pos hpos]at hS;have:=qqe (gol _ _ hS) hu hbo htr hpos (by omega);rw[this];rfl
         ·rw[if_neg hpos]at hS;have h0:L=0:=by omega
          rw[qih (gol _ _ hS) hu hbo htr,h0];rfl
        have w6:IntKind.i64.wrap (((i+1:Nat):Int)+(L:Int))=((i+1+L:Nat):Int):=by rw[qah (by omega) (by omega)];omega
        have q2:i+1+L<=s.length:=by omega
        have q3:i+1<=i+1+L:=by omega
        have q4:i+1+L-(i+1)=L:=by omega
        simp[w5,hsh,w6,q1,q2,q3,q4,hR,-Int.natCast_add];exact qab (v0:=Lk.av ⟨4,((i+1+L:Nat):Int),true,⟨p.meth,p.targ,p.major,p.minor,p.fields,(R.take L),[]⟩,false,0,0,0⟩) (v:=Lk.av ⟨4,((i+1+L:Nat):Int),true,⟨p.meth,p.targ,p.major,p.minor,p.fields,(R.take L),[]⟩,false,0,0,0⟩) hB (by simp[Lk.av,Rq.avs,Rq.zero,flds]) (qaa _) (Lk.bnd ⟨4,((i+1+L:Nat):Int),true,⟨p.meth,p.targ,p.major,p.minor,p.fields,(R.take L),[]⟩,false,0,0,0⟩ _) (fin ⟨4,((i+1+L:Nat):Int),true,⟨p.meth,p.targ,p.major,p.minor,p.fields,(R.take L),[]⟩,false,0,0,0⟩ hx)
      ·obtain rfl:ln=0:=hk hk1 hk2;have hk1':(kd==1)=false:=by simpa using hk1
       have hln':¬(0:Int)<0:=by omega
       rw[if_neg hln']at hS;have w6:IntKind.i64.wrap ((i+1:Nat):Int)=((i+1:Nat):Int):=wiz;have hx:=qih (gol _ _ hS) hu hbo htr;simp[hk1',hk2',w6,-Int.natCast_add];exact qab (v0:=Lk.av ⟨4,((i+1:Nat):Int),true,⟨p.meth,p.targ,p.major,p.minor,p.fields,[],[]⟩,false,0,0,0⟩) (v:=Lk.av ⟨4,((i+1:Nat):Int),true,⟨p.meth,p.targ,p.major,p.minor,p.fields,[],[]⟩,false,0,0,0⟩) hB (by simp[Lk.av,Rq.avs,Rq.zero,flds]) (qaa _) (Lk.bnd ⟨4,((i+1:Nat):Int),true,⟨p.meth,p.targ,p.major,p.minor,p.fields,[],[]⟩,false,0,0,0⟩ _) (fin ⟨4,((i+1:Nat):Int),true,⟨p.meth,p.targ,p.major,p.minor,p.fields,[],[]⟩,false,0,0,0⟩ hx)
   ·rw[if_pos he1]at hS;have b1:(e1==0)=false:=by simpa using he1
    have b2:(e1 !=0)=true:=by simpa using he1
    simp[b1,b2,-Int.natCast_add];refine qat E' _ 400 e1 (i:Int) (i:Int) (by omega) (by omega) ?_;simp[Lk.av,Rq.avs,Rq.zero,flds,-Int.natCast_add];exact qab (v0:=Lk.av ⟨5,(i:Int)+1,false,.zero,false,400,e1,(i:Int)⟩) (v:=Lk.av ⟨5,(i:Int)+1,false,.zero,false,400,e1,(i:Int)⟩) hB (by simp[Lk.av,Rq.avs,Rq.zero,flds]) (qaa _) (Lk.bnd ⟨5,(i:Int)+1,false,.zero,false,400,e1,(i:Int)⟩ _) (fin ⟨5,(i:Int)+1,false,.zero,false,400,e1,(i:Int)⟩ (bad _ _ hS))
  ·rw[if_pos h0]at hS;have b1:(e0==0)=false:=by simpa using h0
   have b2:(e0 !=0)=true:=by simpa using h0
   simp[b1,b2,h67',-Int.natCast_add];refine qat E' _ 400 e0 (i:Int) (i:Int) (by omega) (by omega) ?_;simp[Lk.av,Rq.avs,Rq.zero,flds,-Int.natCast_add];exact qab (v0:=Lk.av ⟨5,(i:Int)+1,false,.zero,false,400,e0,(i:Int)⟩) (v:=Lk.av ⟨5,(i:Int)+1,false,.zero,false,400,e0,(i:Int)⟩) hB (by simp[Lk.av,Rq.avs,Rq.zero,flds]) (qaa _) (Lk.bnd ⟨5,(i:Int)+1,false,.zero,false,400,e0,(i:Int)⟩ _) (fin ⟨5,(i:Int)+1,false,.zero,false,400,e0,(i:Int)⟩ (bad _ _ hS))
end
end Go.Proofs.YtnnhdehmlkkfjaaGreatDoor
namespace Go.Proofs.YtnnhdehmlkkfjaaGreatDoor
open Go Go.RowKit Go.Proofs
section
variable (E:Env)(H:Hp)(Q:AV->Hp->Prop)
end
theorem qkU{l:List UInt8}(h:(qaP l).2.2=0):(qaP l).1.name.length+(qaP l).1.value.length+1<=l.length:=by
 unfold qaP at h⊢;split at h
 ·simp at h
 split at h
 ·simp at h
 split at h
 ·simp at h
 split at h
 ·simp at h
 split at h
 ·simp at h
 split at h
 ·simp at h
 rename_i h1 h2 h3 h4 h5 h6;rw[if_neg h1,if_neg h2,if_neg h3,if_neg h4,if_neg h5,if_neg h6];have:=qfX (l.drop (run ncol l+1));rw[zqI]at this;simp only[zqJ];omega
theorem qiQ(l:List UInt8):0<=(qaP l).2.1/\(qaP l).2.1<=l.length+8192:=by
 have h1:=qbf ncol l;have h2:=qbf qag (l.drop (run ncol l+1));have h3:=qbf fcB (l.drop (run ncol l+1));have h4:=qbf qao l;rw[zqI]at h2 h3;unfold qaP
 (repeat' split)<;>simp only<;>omega
section
variable (E:Env)(H:Hp)(Q:AV->Hp->Prop)
end
end Go.Proofs.YtnnhdehmlkkfjaaGreatDoor
namespace Go.Proofs.YtnnhdehmlkkfjaaGreatDoor
open Go Go.RowKit
def pI(p0:Prs)(s:List UInt8)(fr0 i bg:Nat)(l:List Fld):Prs:={p0 with used:=i,fields:=l,text:=(s.drop bg).take (i-bg),begin_:=bg,head:=(i:Int)-fr0}
def pI1(p0:Prs)(s:List UInt8)(fr0 i bg:Nat)(l:List Fld)(c:UInt8):Prs:={p0 with used:=i,fields:=l,text:=(s.drop bg).take (i-bg)++[c],begin_:=bg,head:=(i:Int)-fr0+1}
theorem qqS(p0:Prs)(s:List UInt8)(fr0 i bg:Nat)(l:List Fld)(c:UInt8)(hb:bg<=i)(hc:s[i]? =some c)(h1:p0.nx=some .fields):adv (pI1 p0 s fr0 i bg l c) (some .fields)=pI p0 s fr0 (i+1) bg l:=by
 have e:(s.drop bg).take (i+1-bg)=(s.drop bg).take (i-bg)++[c]:=by
  rw[show i+1-bg=(i-bg)+1 by omega,List.take_add_one,zqN,show bg+(i-bg)=i by omega,hc];rfl
 unfold adv pI1 pI;rw[e];cases p0;simp at h1⊢;exact⟨h1.symm,by omega⟩
theorem pI_0(p0:Prs)(s:List UInt8)(fr0:Nat)(h2:p0.used=fr0)(h3:p0.fields=[])(h4:p0.text=[])(h5:p0.begin_=fr0)(h6:p0.head=0):pI p0 s fr0 fr0 fr0 []=p0:=by
 unfold pI;cases p0;simp at h2 h3 h4 h5 h6⊢;simp[h2,h3,h4,h5,h6]
def pI2(p0:Prs)(s:List UInt8)(fr0 i bg:Nat)(l:List Fld):Prs:={p0 with used:=i,fields:=l,text:=[],begin_:=bg,head:=(i:Int)-fr0+1}
theorem qlY(p0:Prs)(s:List UInt8)(fr0 i bg:Nat)(l:List Fld)(c:UInt8):qb2 (pI p0 s fr0 i bg l) c=
  if(i:Int)-fr0=p0.lh then qau (pI p0 s fr0 i bg l) 431 113
  else if(((s.drop bg).take (i-bg)).getLast? ==some 13)≠(c==10)then qau {pI p0 s fr0 i bg l with head:=(i:Int)-fr0+1} 400 111
  else if c≠10 then .go (pI1 p0 s fr0 i bg l c) (some .fields)
  else if((s.drop bg).take (i-bg)).dropLast=[]then qbi (pI2 p0 s fr0 i bg l)
  else if(l.length:Int)=p0.lf then qau (pI2 p0 s fr0 i bg l) 431 113
  else if(qaP ((s.drop bg).take (i-bg)).dropLast).2.2≠0 then .bad (pI2 p0 s fr0 i bg l) 400 (qaP ((s.drop bg).take (i-bg)).dropLast).2.2 (bg+(qaP ((s.drop bg).take (i-bg)).dropLast).2.1)
  else .go {pI2 p0 s fr0 i bg l with fields:=l++[(qaP ((s.drop bg).take (i-bg)).dropLast).1],begin_:=i+1} (some .fields):=rfl
theorem pI_nx(p0:Prs)(s:List UInt8)(fr0 i bg:Nat)(l:List Fld)(f:Fld)(h1:p0.nx=some .fields):adv {pI2 p0 s fr0 i bg l with fields:=l++[f],begin_:=i+1} (some .fields)=pI p0 s fr0 (i+1) (i+1) (l++[f]):=by
 unfold adv pI2 pI;cases p0;simp at h1⊢;exact⟨h1.symm,by omega⟩
section
open Go.Lib
variable (E:Env){H:Hp}(Q:AV->Hp->Prop)
def dfI(q p0:Prs)(s:List UInt8)(fr0:Nat)(H:Hp)(fr:List AV)(K:Hp):Prop:=∃(J:Hp) (i bg:Nat) (l:List Fld) (z:AV),fr0<=bg/\bg<=i/\i<=s.length/\(i:Int)-fr0<=p0.lh/\fsz l+l.length+fr0<=bg/\(l.length:Int)<=p0.lf/\(l=[]/\z= .nil\/z= .sl true 2 (flds l))/\Fd q s (pI p0 s fr0 i bg l) i/\
 K=H++([[.int .i64 p0.lt,.int .i64 p0.lh,.int .i64 p0.lf,.int .i64 p0.lb],[.str p0.meth,.str p0.targ,.int .i64 p0.major,.int .i64 p0.minor,z,.str [],.nil],[.int .i64 0,.int .i64 0,.bool false,.str [],.str [],.int .i64 0,.int .i64 0,.nil,.str [],.nil,.bool false,.int .i64 0,.int .i64 0,.int .i64 0]]++J)/\
 ∃x:Nat->AV,fr=[x 0,.str s,.int .i64 (fr0:Int),x 3,.ptr (some (H.length,0)),x 5,x 6,.ptr (some (H.length+1,0)),.ptr (some (H.length+2,0)),.int .i64 (i:Int),.int .i64 (bg:Int),x 11,x 12,x 13,x 14,x 15,x 16,x 17,x 18,x 19,x 20,x 21,x 22,x 23,x 24,x 25,x 26,x 27,x 28,x 29,x 30,x 31,x 32,x 33,x 34,x 35,x 36,x 37,x 38,x 39,x 40,x 41,x 42,x 43,x 44,x 45,x 46,x 47,x 48,x 49,x 50,x 51,x 52,x 53,x 54,x 55,x 56,x 57,x 58,x 59,x 60,x 61,x 62,x 63,x 64,x 65,x 66,x 67,x 68,x 69,x 70,x 71,x 72,x 73,x 74,x 75,x 76,x 77,x 78,x 79,x 80,x 81,x 82,x 83,x 84,x 85,x 86,x 87,x 88,x 89,x 90,x 91,x 92,x 93,x 94,x 95,x 96,x 97,x 98,x 99,x 100,x 101,x 102,x 103,x 104,x 105,x 106,x 107,x 108,x 109,x 110,x 111,x 112,x 113,x 114,x 115,x 116,x 117,x 118]
theorem ql6(q p0:Prs)(s:List UInt8)(fr0:Nat)(hF:Fd q s p0 fr0)(h1:p0.nx=some .fields)(h2:p0.used=fr0)(h3:p0.fields=[])(h4:p0.text=[])(h5:p0.begin_=fr0)(h6:p0.head=0)(h7:p0.state=2)(h8:p0.bodied=false)(h9:p0.body=[])(h10:p0.trailers=[])
  (hlh:0<=p0.lh/\p0.lh<=1048576) (hlf:0<=p0.lf/\p0.lf<=100) (hlb:0<=p0.lb/\p0.lb<=1073741824) (hl:s.length<=1000000000) (hQ:Q (qaO (qan q s).1).av H):
  PC Tryz.prog E 51 [limV p0.lt p0.lh p0.lf p0.lb,.str s,.int .i64 (fr0:Int),.agg [.str p0.meth,.str p0.targ,.int .i64 p0.major,.int .i64 p0.minor,.nil,.str [],.nil]] H Q:=by
 refine qac Tryz.func51 rfl [111] [] (by kernel_rfl) (fun hB=>?_);have fin:∀x:Lk,qaO (qan q s).1=x->Q x.av H:=fun x hx=>hx▸hQ;clear hQ;simp[Tryz.ntmps51,Tryz.results51,List.replicate_succ,limV];refine qaB (dfI q p0 s fr0 H) (fun fr _=>s.length-(ai (aget fr 9)).toNat) ⟨[],fr0,fr0,[],.nil,by omega,by omega,hF.1,by omega,by simp[fsz],by simpa using hlf.1,.inl ⟨rfl,rfl⟩,by rw[pI_0 p0 s fr0 h2 h3 h4 h5 h6];exact hF,by simp,friz⟩ ?_;clear hF;rintro fr K ⟨J,i,bg,l,z,hfb,hbi,hi,hih,hsz,hlc,hz,hFd,rfl,x,rfl⟩;have hn:(pI p0 s fr0 i bg l).nx=some .fields:=h1;by_cases hlt:i<s.length;rotate_left
 ·obtain rfl:i=s.length:=by omega
  have hx:qaO (qan q s).1=⟨2,(s.length:Int),false,.zero,false,0,0,0⟩:=by
   rw[Fd.fin hFd];simp[qaO,pI,h7]
  simp;refine qdV E _ 2 s ?_;simp[Lk.av,Rq.avs,Rq.zero,flds];exact qab (v0:=Lk.av ⟨2,(s.length:Int),false,.zero,false,0,0,0⟩) (v:=Lk.av ⟨2,(s.length:Int),false,.zero,false,0,0,0⟩) hB (by simp[Lk.av,Rq.avs,Rq.zero,flds]) (qaa _) (Lk.bnd ⟨2,(s.length:Int),false,.zero,false,0,0,0⟩ _) (fin ⟨2,(s.length:Int),false,.zero,false,0,0,0⟩ hx)
 obtain⟨c,hc⟩:∃c,s[i]? =some c:=⟨_,zqD hlt⟩
 have la:=qap hc;have hil:((i:Int)==(s.length:Int))=false:=by rw[beq_eq_false_iff_ne];omega
 have w1:IntKind.i64.wrap ((i:Int)+1)=i+1:=wiz;have w0:IntKind.i64.wrap ((i:Int)-fr0)=i-fr0:=wiz
 have bad:∀p1 st err,p1.used=(i:Int)->qb2 (pI p0 s fr0 i bg l) c=qau p1 st err->qaO (qan q s).1=⟨5,(i:Int)+1,false,.zero,false,st,err,(i:Int)⟩:=fun p1 st err hu h=>by
  unfold qau at h;rw[Fd.bad hFd hc hn (show qbN _ .fields c=_ from h),qbL,hu]
 have hS:=qlY p0 s fr0 i bg l c;by_cases hhd:(i:Int)-fr0=p0.lh
 ·rw[if_pos hhd]at hS;have hb:=bad _ 431 113 rfl hS;have hge:p0.lh<=(i:Int)-fr0:=by omega
  simp[hil,w0,hge];refine qat E _ 431 113 (i:Int) (i:Int) (by omega) (by omega) ?_;simp[Lk.av,Rq.avs,Rq.zero,flds];exact qab (v0:=Lk.av ⟨5,(i:Int)+1,false,.zero,false,431,113,(i:Int)⟩) (v:=Lk.av ⟨5,(i:Int)+1,false,.zero,false,431,113,(i:Int)⟩) hB (by simp[Lk.av,Rq.avs,Rq.zero,flds]) (qaa _) (Lk.bnd ⟨5,(i:Int)+1,false,.zero,false,431,113,(i:Int)⟩ _) (fin ⟨5,(i:Int)+1,false,.zero,false,431,113,(i:Int)⟩ hb)
 have hge:¬p0.lh<=(i:Int)-fr0:=by omega
 rw[if_neg hhd]at hS;obtain⟨l13,h13⟩:=exz ((((s.drop bg).take (i-bg)).getLast? ==some 13));rw[h13]at hS;by_cases hib:i=bg
 ·have e13:l13=false:=by rw[<-h13,hib];simp
  subst e13;have hib':((i:Int)==(bg:Int))=true:=by rw[beq_iff_eq];omega
  have hgt:¬(bg:Int)<i:=by omega
  by_cases hc10:c=10
  ·subst hc10;rw[if_pos (by decide)]at hS;have hbad:=bad _ _ _ rfl hS;simp[hil,w0,hge,la,hib',hgt];refine qat E _ 400 111 (i:Int) (i:Int) (by omega) (by omega) ?_;simp[Lk.av,Rq.avs,Rq.zero,flds];exact qab (v0:=Lk.av ⟨5,(i:Int)+1,false,.zero,false,400,111,(i:Int)⟩) (v:=Lk.av ⟨5,(i:Int)+1,false,.zero,false,400,111,(i:Int)⟩) hB (by simp[Lk.av,Rq.avs,Rq.zero,flds]) (qaa _) (Lk.bnd ⟨5,(i:Int)+1,false,.zero,false,400,111,(i:Int)⟩ _) (fin ⟨5,(i:Int)+1,false,.zero,false,400,111,(i:Int)⟩ hbad)
  ·have b1:=(qaw c 10 (by decide) 10 rfl hc10).1;have b2:=(qaw c 10 (by decide) 10 rfl hc10).2;rw[if_neg (by simpa using hc10),if_pos hc10]at hS;have hgo:=Fd.go hFd hc hn (show qbN _ .fields c=_ from hS);rw[qqS p0 s fr0 i bg l c hbi hc h1]at hgo;simp[hil,w0,hge,la,hib',hgt,b1,b2,w1];exact Klz ⟨J,i+1,bg,l,z,hfb,by omega,by omega,by omega,by omega,hlc,hz,hgo,rfl,friz⟩
 have hbl:bg<i:=by omega
 obtain⟨e,he⟩:∃e,s[i-1]? =some e:=⟨_,zqD (by omega)⟩
 have le:=qap he;have wm:IntKind.i64.wrap ((i:Int)-1)=((i-1:Nat):Int):=by rw[qah (by omega) (by omega)];omega
 have e13:l13=(e==13):=by
  rw[<-h13,List.getLast?_eq_getElem?,zqJ,zqI,Nat.min_eq_left (by omega),zqG (by omega),zqN,show bg+(i-bg-1)=i-1 by omega,he];simp
 subst e13;have hib':((i:Int)==(bg:Int))=false:=by rw[beq_eq_false_iff_ne];omega
 have hgt:(bg:Int)<i:=by omega
 by_cases hc10:c=10
 ·subst hc10;by_cases h13':e=13
  ·subst h13';rw[if_neg (by decide),if_neg (by simp)]at hS;obtain⟨line,hline⟩:=exz ((s.drop bg).take (i-1-bg))
   have hdl:((s.drop bg).take (i-bg)).dropLast=line:=by
    rw[List.dropLast_eq_take,zqJ,zqI,List.take_take,<-hline];congr 1;omega
   have hll:line.length=i-1-bg:=by rw[<-hline,zqJ,zqI];omega
   rw[hdl]at hS;have q1:bg<=i-1:=by omega
   have q2:i-1<=s.length:=by omega
   by_cases hl0:line=[]
   ·rw[if_pos hl0]at hS;obtain⟨X,hX⟩:=exz (qaO (qan q s).1);have hl0':(line==[])=true:=by rw[hl0];rfl
    rcases hz with⟨rfl,rfl⟩|rfl
    ·simp[hil,w0,hge,la,le,hib',hgt,wm,q1,q2,hline,hl0'];refine PC.argsD (args':=[limV p0.lt p0.lh p0.lf p0.lb,.str s,.int .i64 (i:Int),(Rq.mk p0.meth p0.targ p0.major p0.minor [] [] []).av]) ⟨.same _,.same _,.same _,qa7 (Rq.nil _ _ _ _ _),trivial⟩ (qld E _ q (pI p0 s fr0 i bg []) (pI2 p0 s fr0 i bg []) s i .fields 10 hFd hc hn (show qbN _ .fields 10=_ from hS) rfl h8 h9 h10 hlh.1 hlb (by show fsz []+List.length []<=_;omega) hl ?_);rw[hX];simp[Lk.av,Rq.avs];exact qab (v0:=Lk.av X) (v:=Lk.av X) hB (by simp[Lk.av,Rq.avs,Rq.zero,flds]) (qaa _) (Lk.bnd X _) (fin X hX)
    ·simp[hil,w0,hge,la,le,hib',hgt,wm,q1,q2,hline,hl0'];refine PC.argsD (args':=[limV p0.lt p0.lh p0.lf p0.lb,.str s,.int .i64 (i:Int),(Rq.mk p0.meth p0.targ p0.major p0.minor l [] []).av]) ⟨.same _,.same _,.same _,qa7 (Rq.nilT _ _ _ _ _ _),trivial⟩ (qld E _ q (pI p0 s fr0 i bg l) (pI2 p0 s fr0 i bg l) s i .fields 10 hFd hc hn (show qbN _ .fields 10=_ from hS) rfl h8 h9 h10 hlh.1 hlb (by show fsz l+List.length l<=_;omega) hl ?_);rw[hX];simp[Lk.av,Rq.avs];exact qab (v0:=Lk.av X) (v:=Lk.av X) hB (by simp[Lk.av,Rq.avs,Rq.zero,flds]) (qaa _) (Lk.bnd X _) (fin X hX)
   ·rw[if_neg hl0]at hS;have hl0':(line==[])=false:=by simpa using hl0
    rcases hz with⟨rfl,rfl⟩|rfl
    ·by_cases hful:((([]:List Fld).length:Int):Int)=p0.lf
     ·rw[if_pos hful]at hS;have hb:=bad _ _ _ rfl hS;have hge2:p0.lf<=(([]:List Fld).length:Int):=by omega
      have hge3:p0.lf<=0:=by simpa using hge2
      simp[hil,w0,hge,la,le,hib',hgt,wm,q1,q2,hline,hl0',hge3,flds];refine qat E _ 431 113 (i:Int) (i:Int) (by omega) (by omega) ?_;simp[Lk.av,Rq.avs,Rq.zero,flds];exact qab (v0:=Lk.av ⟨5,(i:Int)+1,false,.zero,false,431,113,(i:Int)⟩) (v:=Lk.av ⟨5,(i:Int)+1,false,.zero,false,431,113,(i:Int)⟩) hB (by simp[Lk.av,Rq.avs,Rq.zero,flds]) (qaa _) (Lk.bnd ⟨5,(i:Int)+1,false,.zero,false,431,113,(i:Int)⟩ _) (fin ⟨5,(i:Int)+1,false,.zero,false,431,113,(i:Int)⟩ hb)
     ·rw[if_neg hful]at hS;have hge2:¬p0.lf<=(([]:List Fld).length:Int):=by omega
      have hge3:¬p0.lf<=0:=by simpa using hge2
      simp[hil,w0,hge,la,le,hib',hgt,wm,q1,q2,hline,hl0',hge3,flds];refine qjd E _ _ line (by simp only[cap];omega) ?_;have hrg:=qiQ line;have hls:=qkU (l:=line);obtain⟨nm,vl,pl,er,hLX⟩:∃nm vl pl er,qaP line=(⟨nm,vl⟩,pl,er):=⟨_,_,_,_,rfl⟩
      rw[hLX]at hS hrg hls⊢;simp only at hS hrg hls;by_cases hee:er=0
      ·subst hee;rw[if_neg (by simp)]at hS;have hls:=hls rfl;have hgo:=Fd.go hFd hc hn (show qbN _ .fields 10=_ from hS);rw[pI_nx p0 s fr0 i bg ([]:List Fld) ⟨nm,vl⟩ h1]at hgo;have hfs:[[AV.str nm,AV.str vl]]=flds ([]++[⟨nm,vl⟩]):=by simp[flds]
       have hsn:=qgj ([]:List Fld) ⟨nm,vl⟩;have m1:([]:List Fld).length+1<=maxLen:=by unfold maxLen;simp only[List.length_nil]at*;omega
       have m2:(([]:List Fld).length+1)*32<=140737488355328:=by simp only[List.length_nil]at*;omega
       have m3:1<=maxLen:=by unfold maxLen;omega
       simp[w1,m3];exact Klz ⟨_,i+1,i+1,([]:List Fld)++[⟨nm,vl⟩],_,by omega,by omega,by omega,by omega,by rw[hsn];simp only[zqK,zqL,List.length_nil]at*;omega,by simp only[zqK,zqL,List.length_nil]at*;omega,.inr rfl,hgo,by simp[flds];rfl,friz⟩
      ·rw[if_pos hee]at hS;have hee1:(er==0)=false:=by simpa using hee
       have hee2:(er !=0)=true:=by simpa using hee
       have wp:IntKind.i64.wrap ((bg:Int)+pl)=bg+pl:=wiz
       have hb:qaO (qan q s).1=⟨5,(i:Int)+1,false,.zero,false,400,er,bg+pl⟩:=by
        rw[Fd.bad hFd hc hn (show qbN _ .fields 10=_ from hS),qbL];rfl
       simp[hee1,hee2,wp];refine qat E _ 400 er (i:Int) (bg+pl) (by omega) (by omega) ?_;simp[Lk.av,Rq.avs,Rq.zero,flds];exact qab (v0:=Lk.av ⟨5,(i:Int)+1,false,.zero,false,400,er,(bg+pl)⟩) (v:=Lk.av ⟨5,(i:Int)+1,false,.zero,false,400,er,(bg+pl)⟩) hB (by simp[Lk.av,Rq.avs,Rq.zero,flds]) (qaa _) (Lk.bnd ⟨5,(i:Int)+1,false,.zero,false,400,er,(bg+pl)⟩ _) (fin ⟨5,(i:Int)+1,false,.zero,false,400,er,(bg+pl)⟩ hb)
    ·by_cases hful:((l.length:Int):Int)=p0.lf
     ·rw[if_pos hful]at hS;have hb:=bad _ _ _ rfl hS;have hge2:p0.lf<=(l.length:Int):=by omega
      have hge3:p0.lf<=(l.length:Int):=by simpa using hge2
      simp[hil,w0,hge,la,le,hib',hgt,wm,q1,q2,hline,hl0',hge3,List.length_map];refine qat E _ 431 113 (i:Int) (i:Int) (by omega) (by omega) ?_;simp[Lk.av,Rq.avs,Rq.zero,flds];exact qab (v0:=Lk.av ⟨5,(i:Int)+1,false,.zero,false,431,113,(i:Int)⟩) (v:=Lk.av ⟨5,(i:Int)+1,false,.zero,false,431,113,(i:Int)⟩) hB (by simp[Lk.av,Rq.avs,Rq.zero,flds]) (qaa _) (Lk.bnd ⟨5,(i:Int)+1,false,.zero,false,431,113,(i:Int)⟩ _) (fin ⟨5,(i:Int)+1,false,.zero,false,431,113,(i:Int)⟩ hb)
     ·rw[if_neg hful]at hS;have hge2:¬p0.lf<=(l.length:Int):=by omega
      have hge3:¬p0.lf<=(l.length:Int):=by simpa using hge2
      simp[hil,w0,hge,la,le,hib',hgt,wm,q1,q2,hline,hl0',hge3,List.length_map];refine qjd E _ _ line (by simp only[cap];omega) ?_;have hrg:=qiQ line;have hls:=qkU (l:=line);obtain⟨nm,vl,pl,er,hLX⟩:∃nm vl pl er,qaP line=(⟨nm,vl⟩,pl,er):=⟨_,_,_,_,rfl⟩
      rw[hLX]at hS hrg hls⊢;simp only at hS hrg hls;by_cases hee:er=0
      ·subst hee;rw[if_neg (by simp)]at hS;have hls:=hls rfl;have hgo:=Fd.go hFd hc hn (show qbN _ .fields 10=_ from hS);rw[pI_nx p0 s fr0 i bg l ⟨nm,vl⟩ h1]at hgo;have hfs:flds l++[[.str nm,.str vl]]=flds (l++[⟨nm,vl⟩]):=by simp[flds]
       have hsn:=qgj l ⟨nm,vl⟩;have m1:l.length+1<=maxLen:=by unfold maxLen;simp only[List.length_nil]at*;omega
       have m2:(l.length+1)*32<=140737488355328:=by simp only[List.length_nil]at*;omega
       simp[w1,m1,m2,hfs,List.length_map];exact Klz ⟨_,i+1,i+1,l++[⟨nm,vl⟩],_,by omega,by omega,by omega,by omega,by rw[hsn];simp only[zqK,zqL,List.length_nil]at*;omega,by simp only[zqK,zqL,List.length_nil]at*;omega,.inr rfl,hgo,by simp[flds];rfl,friz⟩
      ·rw[if_pos hee]at hS;have hee1:(er==0)=false:=by simpa using hee
       have hee2:(er !=0)=true:=by simpa using hee
       have wp:IntKind.i64.wrap ((bg:Int)+pl)=bg+pl:=wiz
       have hb:qaO (qan q s).1=⟨5,(i:Int)+1,false,.zero,false,400,er,bg+pl⟩:=by
        rw[Fd.bad hFd hc hn (show qbN _ .fields 10=_ from hS),qbL];rfl
       simp[hee1,hee2,wp];refine qat E _ 400 er (i:Int) (bg+pl) (by omega) (by omega) ?_;simp[Lk.av,Rq.avs,Rq.zero,flds];exact qab (v0:=Lk.av ⟨5,(i:Int)+1,false,.zero,false,400,er,(bg+pl)⟩) (v:=Lk.av ⟨5,(i:Int)+1,false,.zero,false,400,er,(bg+pl)⟩) hB (by simp[Lk.av,Rq.avs,Rq.zero,flds]) (qaa _) (Lk.bnd ⟨5,(i:Int)+1,false,.zero,false,400,er,(bg+pl)⟩ _) (fin ⟨5,(i:Int)+1,false,.zero,false,400,er,(bg+pl)⟩ hb)
  ·have b3:=(qaw e 13 (by decide) 13 rfl h13').1;have b4:=(qaw e 13 (by decide) 13 rfl h13').2;rw[if_pos (by simpa using h13')]at hS;have hbad:=bad _ _ _ rfl hS;simp[hil,w0,hge,la,le,hib',hgt,wm,b3,b4];refine qat E _ 400 111 (i:Int) (i:Int) (by omega) (by omega) ?_;simp[Lk.av,Rq.avs,Rq.zero,flds];exact qab (v0:=Lk.av ⟨5,(i:Int)+1,false,.zero,false,400,111,(i:Int)⟩) (v:=Lk.av ⟨5,(i:Int)+1,false,.zero,false,400,111,(i:Int)⟩) hB (by simp[Lk.av,Rq.avs,Rq.zero,flds]) (qaa _) (Lk.bnd ⟨5,(i:Int)+1,false,.zero,false,400,111,(i:Int)⟩ _) (fin ⟨5,(i:Int)+1,false,.zero,false,400,111,(i:Int)⟩ hbad)
 ·have b1:=(qaw c 10 (by decide) 10 rfl hc10).1;have b2:=(qaw c 10 (by decide) 10 rfl hc10).2;by_cases h13':e=13
  ·subst h13';rw[if_pos (by simpa using hc10)]at hS;have hbad:=bad _ _ _ rfl hS;simp[hil,w0,hge,la,le,hib',hgt,wm,b1,b2];refine qat E _ 400 111 (i:Int) (i:Int) (by omega) (by omega) ?_;simp[Lk.av,Rq.avs,Rq.zero,flds];exact qab (v0:=Lk.av ⟨5,(i:Int)+1,false,.zero,false,400,111,(i:Int)⟩) (v:=Lk.av ⟨5,(i:Int)+1,false,.zero,false,400,111,(i:Int)⟩) hB (by simp[Lk.av,Rq.avs,Rq.zero,flds]) (qaa _) (Lk.bnd ⟨5,(i:Int)+1,false,.zero,false,400,111,(i:Int)⟩ _) (fin ⟨5,(i:Int)+1,false,.zero,false,400,111,(i:Int)⟩ hbad)
  ·have b3:=(qaw e 13 (by decide) 13 rfl h13').1;have b4:=(qaw e 13 (by decide) 13 rfl h13').2;rw[if_neg (fun h=>h (by rw[beq_eq_false_iff_ne.2 h13',beq_eq_false_iff_ne.2 hc10])),if_pos hc10]at hS;have hgo:=Fd.go hFd hc hn (show qbN _ .fields c=_ from hS);rw[qqS p0 s fr0 i bg l c hbi hc h1]at hgo;simp[hil,w0,hge,la,le,hib',hgt,wm,b1,b2,b3,b4,w1];exact Klz ⟨J,i+1,bg,l,z,hfb,by omega,by omega,by omega,by omega,hlc,hz,hgo,rfl,friz⟩
end
end Go.Proofs.YtnnhdehmlkkfjaaGreatDoor
namespace Go.Proofs.YtnnhdehmlkkfjaaGreatDoor
open Go Go.RowKit Go.Proofs
section
variable (E:Env)(H:Hp)(Q:AV->Hp->Prop)
end
section
variable (E:Env)(H:Hp)(Q:AV->Hp->Prop)
end
@[simp] theorem bnd_ints {N:Nat} (l:List Int):(∀r∈ints l,∀x∈r,Bnd N x)=True:=eq_true fun r hr x hx=>by
 obtain⟨z,_,rfl⟩:=List.mem_map.1 hr;simp at hx;subst hx;exact .int _ _
section
variable (E:Env)(H:Hp)(Q:AV->Hp->Prop)
end
section
variable (E:Env)(H:Hp)(Q:AV->Hp->Prop)
end
end Go.Proofs.YtnnhdehmlkkfjaaGreatDoor
namespace Go.Proofs.YtnnhdehmlkkfjaaGreatDoor
open Go Go.RowKit Go.Proofs Go.Deep
section
variable (E:Env)(H:Hp)(Q:AV->Hp->Prop)
end
def Tabs(W : World) : Prop := qgU W ∧ Tz W ∧ Lib.TabIs Tryz.prog W "internal/strconv.uint64pow10" .u64 Lib.pow10Tab
theorem tab_lt{W : World}(hT : Lib.TabIs Tryz.prog W "internal/strconv.uint64pow10" .u64 Lib.pow10Tab) : 1 < W.heap.size := by
 have:=hT;unfold Lib.TabIs World.var? at this;rw[qe9]at this;simp only[Option.bind_some]at this;by_cases h:1<W.heap.size
 ·exact h
 ·rw[Array.getElem?_eq_none (by omega)]at this;cases this
end Go.Proofs.YtnnhdehmlkkfjaaGreatDoor
namespace Go.Proofs.YtnnhdehmlkkfjaaGreatDoor
open Go Go.RowKit Go.Proofs
section
variable (E:Env)(H:Hp)(Q:AV->Hp->Prop)
end
end Go.Proofs.YtnnhdehmlkkfjaaGreatDoor
namespace Go.Proofs.YtnnhdehmlkkfjaaGreatDoor
open Go Go.RowKit
theorem tok1{c:UInt8}:tokB [c]=qao c:=by unfold tokB;simp
section
variable {lt lh lf lb:Int}
end
end Go.Proofs.YtnnhdehmlkkfjaaGreatDoor
