/- Part 10 of the texts below the law. -/
import Derived.Test.YtnnhdehmlkkfjaaGreatDoorPb9
import Derived.Lib.DecodeN
import Derived.Shelf.Vars
set_option maxRecDepth 100000
set_option maxHeartbeats 16000000
set_option linter.unusedVariables false
set_option linter.unnecessarySimpa false
set_option linter.unusedSimpArgs false
set_option linter.unusedSectionVars false
namespace Go.Proofs.YtnnhdehmlkkfjaaGreatDoor
open Go Go.RowKit Go.Proofs
theorem qrd(out:List UInt8)(tail:List AV):chop 1 out.length (u8L out++tail)=bts out:=by
 rw[qht _ _ (by simp),List.take_append_of_le_length (by simp),zqE (by simp)];unfold u8L bts;rw[List.map_map];rfl
theorem qeX{b:List UInt8}(h:b≠[])(n:Int)(ns:List Int):qam b (n::ns)=b.take n.toNat::qam (b.drop n.toNat) ns:=by rw[qam,if_neg h]
theorem qeW{b:List UInt8}(h:b≠[]):qam b []=[b]:=by rw[qam,if_neg h]
theorem qe3(p:List UInt8)(ps:List (List UInt8)):qan (p::ps)=qb9 p++qan ps:=by simp[qan]
section
variable (E:Env)(H:Hp)(Q:AV->Hp->Prop)
def qq3(body:List UInt8)(ns:List Int)(ts:List Fld)(H:Hp)(fr:List AV)(H':Hp):Prop:=H'=H/\∃i:Nat,i<=ns.length/\qb6 (ns.take i)=true/\
 ∃x:Nat->AV,fr=[.str body,.sl false 1 (ints ns),.sl false 2 (flds ts),x 3,x 4,x 5,x 6,x 7,x 8,x 9,x 10,x 11,x 12,x 13,x 14,x 15,x 16,x 17,.sl false 1 (ints ns),.int .i64 ns.length,.int .i64 i,x 21,x 22,x 23,x 24,x 25,x 26,x 27,x 28,x 29,x 30,x 31,x 32,x 33,x 34,x 35,x 36,x 37,x 38,x 39,x 40,x 41,x 42,x 43,x 44,x 45,x 46,x 47,x 48,x 49,x 50,x 51,x 52,x 53,x 54,x 55,x 56,x 57,x 58,x 59,x 60,x 61,x 62,x 63,x 64,x 65,x 66,x 67,x 68,x 69,x 70,x 71,x 72,x 73,x 74,x 75,x 76,x 77,x 78,x 79,x 80,x 81,x 82]
def qq2(body:List UInt8)(ns:List Int)(ts:List Fld)(H:Hp)(fr:List AV)(H':Hp):Prop:=∃(J2:Hp) (i:Nat),i<=ts.length/\H'=H++([.bl TB,.bf TU (qaB (ts.take i))]::J2)/\(∀l∈J2,∀x∈l,∃s,x= .str s)/\(ts.take i).all qbx=true/\
 ∃x:Nat->AV,fr=[.str body,.sl false 1 (ints ns),x 2,x 3,x 4,x 5,x 6,x 7,x 8,x 9,.ptr (some (H.length,0)),x 11,x 12,x 13,x 14,x 15,x 16,x 17,x 18,x 19,x 20,x 21,x 22,x 23,x 24,x 25,x 26,.sl false 2 (flds ts),.int .i64 ts.length,.int .i64 i,x 30,x 31,x 32,x 33,x 34,x 35,x 36,x 37,x 38,x 39,x 40,x 41,x 42,x 43,x 44,x 45,x 46,x 47,x 48,x 49,x 50,x 51,x 52,x 53,x 54,x 55,x 56,x 57,x 58,x 59,x 60,x 61,x 62,x 63,x 64,x 65,x 66,x 67,x 68,x 69,x 70,x 71,x 72,x 73,x 74,x 75,x 76,x 77,x 78,x 79,x 80,x 81,x 82]
def qq1(body:List UInt8)(ns:List Int)(H0:Hp)(hn:Nat)(fr:List AV)(H':Hp):Prop:=∃(i:Nat) (b out:List UInt8) (v:AV),i<=ns.length/\qjy H0 v out H'/\out++qan (qam b (ns.drop i))=qan (qam body ns)/\b.length<=body.length/\
 ∃x:Nat->AV,fr=[.str b,x 1,x 2,x 3,x 4,x 5,x 6,x 7,x 8,x 9,.ptr (some (hn,0)),x 11,x 12,x 13,x 14,v,x 16,x 17,x 18,x 19,x 20,x 21,x 22,x 23,x 24,x 25,x 26,x 27,x 28,x 29,x 30,x 31,x 32,x 33,x 34,x 35,x 36,x 37,x 38,x 39,x 40,x 41,x 42,x 43,x 44,x 45,x 46,x 47,x 48,x 49,.sl false 1 (ints ns),.int .i64 ns.length,.int .i64 i,x 53,x 54,x 55,x 56,x 57,x 58,x 59,x 60,x 61,x 62,x 63,x 64,x 65,x 66,x 67,x 68,x 69,x 70,x 71,x 72,x 73,x 74,x 75,x 76,x 77,x 78,x 79,x 80,x 81,x 82]
theorem qeC{H0:Hp}{v:AV}{out:List UInt8}{H:Hp}(h:qjy H0 v out H):v.free=true/\v.dis=v:=by
 obtain⟨J,_,_,⟨rfl,_⟩|⟨J1,tail,_,rfl,_⟩⟩:=h<;>exact⟨rfl,rfl⟩
theorem qiq(hE:SZ E)(body:List UInt8)(ns:List Int)(ts:List Fld)(hb:body.length<=1048576)(hn:ns.length<=1048577)(ht:fsz ts+ts.length<=1048577)(hr:∀z∈ns,-9223372036854775808<=z/\z<=9223372036854775807)
  (hQ:Q (.tup [.str (qa9 body ns ts).1,.int .i64 (qa9 body ns ts).2]) H):PC Tryz.prog E 55 [.str body,.sl false 1 (ints ns),.sl false 2 (flds ts)] H Q:=by
 refine qfG Tryz.func55 rfl [] [(7,[3]),(27,[5,H.length])] (by kernel_rfl) (fun id m hm=>?_) (fun hB=>?_)
 ·unfold ndOf at hm;split at hm
  ·cases hm
  ·unfold ndOf at hm;split at hm
   ·cases hm;exact Nat.le_refl _
   ·cases hm
 simp[Tryz.ntmps55,Tryz.results55,List.replicate_succ];refine qaG (qq3 body ns ts H) (fun fr _=>ns.length-(ai (aget fr 20)).toNat) ⟨rfl,0,by omega,rfl,friz⟩ ?_;rintro fr H' ⟨rfl,i,hi,hall,x,rfl⟩;by_cases h:i<ns.length
 ·obtain⟨z,hz⟩:∃z,ns[i]? =some z:=⟨_,zqD h⟩
  have hat:=qhd hz;have hw:IntKind.i64.wrap ((i:Int)+1)=i+1:=wiz
  have hst:qb6 (ns.take (i+1))=(qb6 (ns.take i)&&decide (1<=z)):=by
   unfold qb6;rw[List.take_add_one,hz,List.all_append];simp
  by_cases hz1:z<1
  ·have e:qa9 body ns ts=([],1):=by
    unfold qa9;rw[if_pos];unfold qb6;rw[List.all_eq_false];exact⟨z,zqH hz,by simp;omega⟩
   rw[e]at hQ;simp[h,hat,hz1];exact aQz hB (h6:=hQ)
  ·simp[h,hat,hz1,hw];exact Klz ⟨rfl,i+1,by omega,by rw[hst,hall];simp;omega,friz⟩
 obtain rfl:i=ns.length:=by omega
 rw[zqE (Nat.le_refl _)]at hall;have hns:∀z∈ns,1<=z:=fun z hz=>by have:=List.all_eq_true.1 hall z hz;simpa using this
 clear hi h;simp;refine qaG (qq2 body ns ts H') (fun fr _=>ts.length-(ai (aget fr 29)).toNat) ⟨[],0,by omega,by simp[qaB],by simp,by simp,friz⟩ ?_;rintro fr H2 ⟨J2,i,hi,rfl,hJ2,hts,x,rfl⟩;have hlin:=qcC (ts.take i);have hsz:=qfd ts i;rw[zqJ]at hlin;by_cases h:i<ts.length
 ·obtain⟨f,hf⟩:∃f,ts[i]? =some f:=⟨_,zqD h⟩
  have hat:=qco hf;have hfm:=qdh hf;have hw:IntKind.i64.wrap ((i:Int)+1)=i+1:=wiz
  have hstop:qbx f=false->qa9 body ns ts=([],101):=fun hr=>by
   unfold qa9;rw[if_neg (by rw[hall];simp),if_pos];rw[List.all_eq_false];exact⟨f,zqH hf,by rw[hr];simp⟩
  simp[h,hat];refine qeV E _ _ hE.1 f (by omega) (by omega) ?_;cases hnm:qbh f.name with
  |false=>
   have e:qaY f=([],60):=by unfold qaY;rw[if_pos hnm]
   have hq:=hstop (by unfold qbx mayB;rw[hnm];simp);rw[hq]at hQ;simp[e];exact qac hB rfl (qaa _) (by simp) hQ
  |true=>
  cases hvl:qb2 f.value with
  |false=>
   have e:qaY f=([],61):=by unfold qaY;rw[if_neg (by rw[hnm];simp),if_pos hvl]
   have hq:=hstop (by unfold qbx;rw[hvl];simp);rw[hq]at hQ;simp[e];exact qac hB rfl (qaa _) (by simp) hQ
  |true=>
  have e:qaY f=(qbi f,0):=by unfold qaY;rw[if_neg (by rw[hnm];simp),if_neg (by rw[hvl];simp)]
  have hlt:=qeb f;simp[e];refine qfI E _ _ hE.1 f.name (by simp only[cap];omega) ?_;cases hmy:mayB f.name with
  |false=>
   have hq:=hstop (by unfold qbx;rw[hmy];simp);rw[hq]at hQ;simp;exact qac hB rfl (qaa _) (by simp) hQ
  |true=>
  have hrt:qbx f=true:=by unfold qbx;rw[hmy,hvl];rfl
  have m1:(qbi f).length+1+1<=maxLen:=by unfold maxLen;omega
  have m2:(qbi f).length+2<=maxLen:=by unfold maxLen;omega
  simp[m1,m2];refine qly E _ _ H'.length (qaB (ts.take i)) (qbi f++[13,10]) (by simp) (by simp;omega) ?_;rw[<-qcT ts i f hf];simp[hw];refine Klz ⟨J2++[[.str f.name,.str f.value]],i+1,by omega,by simp,fun l hl y hy=>?_,?_,friz⟩
  ·rcases List.mem_append.1 hl with h|h
   ·exact hJ2 l h y hy
   ·simp at h;subst h;simp at hy;rcases hy with rfl|rfl<;>exact⟨_,rfl⟩
  ·rw[qbv qbx ts i f hf,hts,hrt];rfl
 obtain rfl:i=ts.length:=by omega
 rw[zqE (Nat.le_refl _)]at hts hlin⊢
 have he:qa9 body ns ts=(encT (qam body ns) ts,0):=by
  unfold qa9;rw[if_neg (by rw[hall];simp),if_neg (by rw[hts];simp)]
 rw[he]at hQ;simp only at hQ;clear hi h he hall hts;obtain⟨H0,hH0⟩:=exz (H'++([.bl TB,.bf TU (qaB ts)]::J2));have hbl:∀J:Hp,(H0++J)[H'.length]? =some [.bl TB,.bf TU (qaB ts)]:=fun J=>by rw[<-hH0];simp
 have hlH:H'.length<H0.length:=by rw[<-hH0];simp
 have hBH:∀N,H0.length<=N->∀l∈H0,∀y∈l,Bnd N y:=fun N hN l hl y hy=>by
  rw[<-hH0]at hl;rcases List.mem_append.1 hl with h|h
  ·exact(hB l h y hy).mono (by omega)
  ·rcases List.mem_cons.1 h with rfl|h
   ·simp at hy;rcases hy with rfl|rfl
    ·exact .bl _
    ·exact .bf _ _
   ·obtain⟨s,rfl⟩:=hJ2 l h y hy;exact .str _
 have hpf:(qam body ns).flatten=body:=qcR ns body;have htot:=qdv (qam body ns) (qd6 ns body hns) (by rw[hpf];omega);rw[hpf]at htot;rw[hH0];simp;refine qaG (qq1 body ns H0 H'.length) (fun fr _=>ns.length-(ai (aget fr 52)).toNat) ⟨0,body,[],.nil,by omega,⟨[],by simp,by simp,.inl ⟨rfl,rfl⟩⟩,by simp,by omega,friz⟩ ?_;rintro fr H3 ⟨i,b,out,v,hi,hO,hsum,hbl2,x,rfl⟩
 have hol:out.length<=16*body.length:=by
  have:=congrArg List.length hsum;rw[zqK]at this;omega
 obtain⟨hvf,hvd⟩:=qeC hO;by_cases h:i<ns.length
 ·obtain⟨z,hz⟩:∃z,ns[i]? =some z:=⟨_,zqD h⟩
  have hat:=qhd hz;have hz1:=hns z (zqH hz);have hw:IntKind.i64.wrap ((i:Int)+1)=i+1:=wiz;have hdrop:ns.drop i=z::ns.drop (i+1):=by rw[List.drop_eq_getElem_cons h];simp[(zqC.1 hz).2]
  rw[hdrop]at hsum;by_cases hb0:b=[]
  ·subst hb0;simp[h,hat,hw];exact Klz ⟨i+1,[],out,v,by omega,hO,by rw[<-hsum,qcw,qcw],by simp,friz⟩
  ·have hb1:(b !=[])=true:=by simpa using hb0
   obtain⟨m,hm⟩:∃m:Nat,(if(b.length:Int)<z then(b.length:Int)else z)=m:=⟨(if(b.length:Int)<z then(b.length:Int)else z).toNat,by split<;>omega⟩
   have hml:m<=b.length:=by split at hm<;>omega
   have htk:b.take m=b.take z.toNat:=by
    split at hm
    ·rw[zqE (by omega),zqE (by omega)]
    ·rw[show m=z.toNat by omega]
   have hdk:b.drop m=b.drop z.toNat:=by
    split at hm
    ·rw[List.drop_of_length_le (by omega),List.drop_of_length_le (by omega)]
    ·rw[show m=z.toNat by omega]
   have hsum2:(out++qb9 (b.take m))++qan (qam (b.drop m) (ns.drop (i+1)))=qan (qam body ns):=by
    rw[<-hsum,htk,hdk,qeX hb0,qe3,List.append_assoc]
   simp[h,hat,hb1,hm,hml,hvd];refine qpO E _ _ hE H0 v out (b.take m) hO (by rw[zqJ];omega) (by omega) (fun v' H4 hO'=>?_);obtain⟨hvf',hvd'⟩:=qeC hO';have htl:(b.drop m).take (b.length-m)=b.drop m:=zqE (by rw[zqI];omega);simp[hml,hvd',hw,htl];exact Klz ⟨i+1,b.drop m,out++qb9 (b.take m),v',by omega,hO',hsum2,by rw[zqI];omega,friz⟩
 obtain rfl:i=ns.length:=by omega
 rw[List.drop_of_length_le (Nat.le_refl _)]at hsum;simp;have fin:∀(x:Nat->AV) (b:List UInt8) (v:AV) (H4:Hp),qjy H0 v (qan (qam body ns)) H4->vc Tryz.prog E [] [(7,[3]),(27,[5,H'.length])] (Code.skip) (fun _ _ _=>True) [] []:=fun _ _ _ _ _=>trivial;have hm1:(qan (qam body ns)).length+1<=maxLen:=by unfold maxLen;omega
 have hm2:(qan (qam body ns)).length+1+2<=maxLen:=by unfold maxLen;omega
 have hm3:(qan (qam body ns)).length+1+2+(qaB ts).length<=maxLen:=by unfold maxLen;omega
 have hm4:(qan (qam body ns)).length+1+2+(qaB ts).length+2<=maxLen:=by unfold maxLen;omega
 clear fin;by_cases hb0:b=[]
 case' pos=>
  subst hb0;rw[qcw]at hsum
  have hO2:qjy H0 v (qan (qam body ns)) H3:=by
   have:out=qan (qam body ns):=by rw[<-hsum];simp[qan]
   rw[<-this];exact hO
  simp;clear hO hsum hol hi hbl2
 case' neg=>
  have hb1:(b !=[])=true:=by simpa using hb0
  simp[hb1,hvd];refine qpO E _ _ hE H0 v out b hO (by omega) (by omega) (fun v' H4 hO'=>?_);obtain⟨hvf',hvd'⟩:=qeC hO'
  have hO2:qjy H0 v' (qan (qam body ns)) H4:=by
   have:out++qb9 b=qan (qam body ns):=by rw[<-hsum,qeW hb0,qe3];simp[qan]
   rw[<-this];exact hO'
  simp[hvd'];clear hO hO' hsum hol hi hbl2 hvf hvd hb0 hb1 hvf' hvd'
 all_goals
  obtain⟨J,rfl,hJ,⟨rfl,hnil⟩|⟨J1,tail,rfl,rfl,htl⟩⟩:=hO2
  ·refine qkr ?_;rw[hnil]at hm1 hm2 hm3 hm4;simp at hm1 hm2 hm3 hm4;simp[hm1,hm2];refine qjp E _ _ H'.length (qaB ts) (hbl J) (by omega) ?_;have n1:(qaB ts).length+1+1+1+2<=maxLen:=by unfold maxLen;omega
   simp[hm3,hm4,n1];rw[<-hH0,List.append_assoc];have e:encT (qam body ns) ts=48::13::10::(qaB ts++[13,10]):=by unfold encT;rw[hnil];rfl
   rw[e]at hQ;exact aQy hB (h6:=hQ)
  ·refine qiE [10,15] (H0++J1) (u8L (qan (qam body ns))++tail) (by simp) (by simp;omega) ?_ ?_ ?_
   ·intro l' hl' y hy;rcases List.mem_append.1 hl' with h|h
    ·exact hBH _ (by simp) l' h y hy
    ·obtain⟨z,rfl⟩:=hJ l' (List.mem_append_left _ h) y hy;exact .int _ _
   ·intro t ht y hy;simp at ht;rcases ht with rfl|rfl
    ·simp at hy;subst hy;exact .ptr _ _ (by simp;omega)
    ·simp at hy;subst hy;refine .inr ⟨by simp,by omega,by simp,fun y hy=>?_⟩;obtain⟨z,rfl⟩:=hJ (u8L (qan (qam body ns))++tail) (by simp) y (List.mem_of_mem_drop (List.mem_of_mem_take hy));exact⟨rfl,.int _ _⟩
   ·intro y;simp[qfT,frz,qrd,hm1,hm2];refine qjp E _ _ H'.length (qaB ts) (hbl J1) (by omega) ?_;have n1:(qan (qam body ns)).length+((qaB ts).length+1+1+1)+2<=maxLen:=by unfold maxLen;omega
    have n2:(qan (qam body ns)).length+((qaB ts).length+1+1+1)<=maxLen:=by unfold maxLen;omega
    simp[hm3,hm4,n1,n2];rw[<-hH0,List.append_assoc];have e:encT (qam body ns) ts=qan (qam body ns)++48::13::10::(qaB ts++[13,10]):=by unfold encT;simp
    rw[e]at hQ;exact aQy hB (h6:=hQ)
end
section
variable (E:Env)(H:Hp)(Q:AV->Hp->Prop)
end
end Go.Proofs.YtnnhdehmlkkfjaaGreatDoor
namespace Go.Proofs.YtnnhdehmlkkfjaaGreatDoor
open Go Go.RowKit Go.Proofs Go.Deep
@[simp] theorem abin_sleql (P:Program) (t:TypeId) (o:Bool) (k:Nat) (r:List AV) (rs:List (List AV)):abin P .eql t (.sl o k (r::rs)) .nil=if(tsl P t).isSome then some (.bool false)else none:=rfl
@[simp] theorem abin_slneq (P:Program) (t:TypeId) (o:Bool) (k:Nat) (r:List AV) (rs:List (List AV)):abin P .neq t (.sl o k (r::rs)) .nil=if(tsl P t).isSome then some (.bool true)else none:=rfl
@[simp] theorem abin_bxeql (P:Program) (t:TypeId) (i o n c k:Nat):abin P .eql t (.bx i o n c k) .nil=if(tsl P t).isSome then some (.bool false)else none:=rfl
@[simp] theorem abin_bxneq (P:Program) (t:TypeId) (i o n c k:Nat):abin P .neq t (.bx i o n c k) .nil=if(tsl P t).isSome then some (.bool true)else none:=rfl
section
variable (E:Env)(H:Hp)(Q:AV->Hp->Prop)
variable (i:Nat)(d:Dec)(hd:H[i]? =some d.av)
include hd
end
section
variable (E:Env)(H:Hp)(Q:AV->Hp->Prop)
end
end Go.Proofs.YtnnhdehmlkkfjaaGreatDoor
namespace Go.Proofs.YtnnhdehmlkkfjaaGreatDoor
open Go Go.RowKit Go.Proofs
theorem qfF{l:List Fld}(h:l.length<=100){i:Nat}{f:Fld}(hf:l[i]? =some f)(hall:∀g∈l.take i,(qaY g).2=0)(hne:(qaY f).2≠0):qbk l=([],(qaY f).2):=by
 have hi:=(zqC.1 hf).1;have e:l=l.take i++(f::l.drop (i+1)):=by rw[<-(zqC.1 hf).2,<-List.drop_eq_getElem_cons hi,List.take_append_drop]
 have hn:(l.take i).find? (fun f=>decide ((qaY f).2≠0))=none:=List.find?_eq_none.2 fun g hg=>by simp[hall g hg]
 unfold qbk;rw[if_neg (by omega)]
 have:l.find? (fun f=>decide ((qaY f).2≠0))=some f:=by
  rw[e,List.find?_append,hn];simp[hne]
 rw[this]
theorem qgt{l:List Fld}(h:l.length<=100)(hall:∀g∈l,(qaY g).2=0):qbk l=(qaB l,0):=by
 have hn:l.find? (fun f=>decide ((qaY f).2≠0))=none:=List.find?_eq_none.2 fun g hg=>by simp[hall g hg]
 unfold qbk;rw[if_neg (by omega),hn]
theorem qjZ{f:Fld}(h:(qaY f).2=0):(qaY f).1=qbi f:=by
 unfold qaY at h⊢;split
 ·rename_i h1;rw[if_pos h1]at h;cases h
 ·rename_i h1;rw[if_neg h1]at h;split
  ·rename_i h2;rw[if_pos h2]at h;cases h
  ·rfl
section
variable (E:Env)(H:Hp)(Q:AV->Hp->Prop)
def fpInv(l:List Fld)(H:Hp)(fr:List AV)(H':Hp):Prop:=∃(J2:Hp) (i:Nat),i<=l.length/\H'=H++([.bl TB,.bf TU (qaB (l.take i))]::J2)/\(∀g∈l.take i,(qaY g).2=0)/\
 ∃x:Nat->AV,fr=[x 0,x 1,x 2,x 3,.ptr (some (H.length,0)),x 5,x 6,x 7,x 8,x 9,x 10,x 11,.sl false 2 (flds l),.int .i64 l.length,.int .i64 i,x 15,x 16,x 17,x 18,x 19,x 20,x 21,x 22,x 23,x 24,x 25,x 26,x 27,x 28,x 29,x 30]
theorem qii(hE:SE E)(l:List Fld)(hl:fsz l+l.length<=16777216)(hQ:Q (.tup [.str (qbk l).1,.int .i64 (qbk l).2]) H):PC Tryz.prog E 53 [.sl false 2 (flds l)] H Q:=by
 have fin:∀a:List UInt8×Int,qbk l=a->Q (.tup [.str a.1,.int .i64 a.2]) H:=fun a ha=>ha▸hQ;refine qab Tryz.func53 rfl [] [(3,[3])] (by kernel_rfl) (fun hB=>?_);simp[Tryz.ntmps53,Tryz.results53,List.replicate_succ];by_cases h100:100<l.length
 ·have h1:(100:Int)<l.length:=by omega
  simp[h1];exact qap hB (v0:= .tup [.str [],.int .i64 65]) (by simp) (qaa _) (by simp) (fin ([],65) (by unfold qbk;rw[if_pos h100]))
 have h1:¬(100:Int)<l.length:=by omega
 simp[h1];refine qaG (fpInv l H) (fun fr _=>l.length-(ai (aget fr 14)).toNat) ⟨[],0,by omega,by simp[qaB],by simp,friz⟩ ?_;rintro fr H2 ⟨J2,i,hi,rfl,hall,x,rfl⟩;have hlin:=qcC (l.take i);have hsz:=qfd l i;rw[zqJ]at hlin;by_cases h:i<l.length
 ·obtain⟨f,hf⟩:∃f,l[i]? =some f:=⟨_,zqD h⟩
  have hat:=qco hf;have hfm:=qdh hf;have hw:IntKind.i64.wrap ((i:Int)+1)=i+1:=wiz;have hlt:=qeb f;simp[h,hat];refine qeV E _ _ hE f (by omega) (by omega) ?_;by_cases hz:(qaY f).2=0
  ·have hz1:=qjZ hz;have m1:(qbi f).length+2<=maxLen:=by unfold maxLen;omega
   have m0:(qbi f).length+1+1<=maxLen:=by unfold maxLen;omega
   simp[hz,hz1,m1,m0];refine qly E _ _ H.length (qaB (l.take i)) (qbi f++[13,10]) (by simp) (by simp;omega) ?_;rw[<-qcT l i f hf];simp[hw];refine Klz ⟨_,i+1,by omega,rfl,fun g hg=>?_,friz⟩;rw[List.take_add_one,hf]at hg;rcases List.mem_append.1 hg with hg|hg
   ·exact hall g hg
   ·simp at hg;subst hg;exact hz
  ·have hz2:((qaY f).2 !=0)=true:=by simpa using hz
   simp[hz2];exact qac hB (v0:= .tup [.str [],.int .i64 (qaY f).2]) (by simp) (qaa _) (by simp) (fin ([],(qaY f).2) (qfF (by omega) hf hall hz))
 ·obtain rfl:i=l.length:=by omega
  rw[zqE (Nat.le_refl _)]at hall hlin⊢;simp;refine qjp E _ _ H.length (qaB l) (by simp) (by unfold maxLen;omega) ?_;simp;exact qac hB (v0:= .tup [.str (qaB l),.int .i64 0]) (by simp) (qaa _) (by simp) (fin (qaB l,0) (qgt (by omega) hall))
end
section
variable {r:Resp}{h:Mann}
end
section
variable (E:Env)(H:Hp)(Q:AV->Hp->Prop)
end
section
variable (E:Env)(H:Hp)(Q:AV->Hp->Prop)
end
section
variable (E:Env)(H:Hp)(Q:AV->Hp->Prop)
end
end Go.Proofs.YtnnhdehmlkkfjaaGreatDoor
namespace Go.Proofs.YtnnhdehmlkkfjaaGreatDoor
open Go Go.RowKit Go.Lib
def dgB(k:Nat):UInt8:=UInt8.ofNat (48+k)
theorem qne{u:Nat}(h:u<10):decDigits u=[dgB u]:=by rw[decDigits,dif_pos h];rfl
theorem qrb{u:Nat}(h:¬u<10):decDigits u=decDigits (u/10)++[dgB (u%10)]:=by rw[decDigits,dif_neg h];rfl
def decD(u:Nat):List UInt8:=if u=0 then []else decDigits u
theorem qng(u:Nat)(h:u≠0):decD u=decD (u/10)++[dgB (u%10)]:=by
 unfold decD;rw[if_neg h];by_cases h10:u<10
 ·rw[qne h10,if_pos (by omega),Nat.mod_eq_of_lt h10];rfl
 ·rw[qrb h10,if_neg (by omega)]
theorem qog:∀k:Nat,k<10->IntKind.u8.wrap (48+(k:Int))=48+k:=by decide
end Go.Proofs.YtnnhdehmlkkfjaaGreatDoor
namespace Go.Proofs.YtnnhdehmlkkfjaaGreatDoor
open Go Go.RowKit Go.Proofs Go.Lib
def d3(n:Int):List UInt8:=[dgB (n.toNat/100),dgB (n.toNat/10%10),dgB (n.toNat%10)]
end Go.Proofs.YtnnhdehmlkkfjaaGreatDoor
namespace Go.Proofs.YtnnhdehmlkkfjaaGreatDoor
open Go Go.RowKit Go.Proofs
@[simp] theorem qpV (l:List Int):(ints l).length=l.length:=by simp[ints]
section
variable (E:Env)(H:Hp)(Q:AV->Hp->Prop)
def qq4(l:List UInt8)(H:Hp)(fr:List AV)(H':Hp):Prop:=H'=H/\∃i:Nat,i<=l.length/\fldB (l.take i)=true/\∃x:Nat->AV,fr=[.str l,x 1,x 2,.int .i64 i,x 4,x 5,x 6,x 7,x 8,x 9,x 10,x 11,x 12,x 13,x 14,x 15,x 16,x 17,x 18,x 19,x 20,x 21,x 22,x 23]
theorem qir(l:List UInt8)(hl:l.length<=cap)(hQ:Q (.bool (qb2 l)) H):PC Tryz.prog E 114 [.str l] H Q:=by
 have hc:=hl;simp only[cap]at hl;refine qab Tryz.func114 rfl [] [] (by kernel_rfl) (fun hB=>?_);have fin:∀c:Bool,qb2 l=c->Q (.bool c) H:=fun c hc=>hc▸hQ;simp[Tryz.ntmps114,Tryz.results114,List.replicate_succ];refine qaG (qq4 l H) (fun fr _=>l.length-(ai (aget fr 3)).toNat) ⟨rfl,0,by omega,rfl,friz⟩ ?_;rintro fr H' ⟨rfl,i,hi,hall,x,rfl⟩;by_cases h:i<l.length
 ·obtain⟨b,hb⟩:∃b,l[i]? =some b:=⟨_,zqD h⟩
  have hat:=qaP hb;have hw:IntKind.i64.wrap ((i:Int)+1)=i+1:=wiz;simp[h,hat];refine qfO E _ _ b ?_;cases hf:fcB b
  ·simp[hf];exact aQz hB (h6:=(fin _ (by unfold qb2 fldB;rw[qdN fcB l i b hb hf];simp)))
  ·simp[hf,hw];refine Klz ⟨rfl,i+1,by omega,?_,friz⟩;unfold fldB at hall⊢;rw[qbJ fcB l i b hb,hall,hf];rfl
 ·have:l.take i=l:=zqE (by omega);rw[this]at hall;by_cases h8:l.length<=8192
  ·have h8':(l.length:Int)<=8192:=by omega
   simp[h,h8'];refine qdH E _ _ l hc ?_;simp;exact aQz hB (h6:=(fin _ (by unfold qb2;rw[hall,Bool.eq_iff_iff];simp[h8])))
  ·have h8':¬(l.length:Int)<=8192:=by omega
   simp[h,h8'];exact aQz hB (h6:=(fin _ (by simp[qb2,h8])))
theorem qm9(f:Fld)(h1:f.name.length<=cap)(h2:f.value.length<=cap)(hQ:Q (.bool (qbx f)) H):PC Tryz.prog E 84 [.agg [.str f.name,.str f.value]] H Q:=by
 refine qab Tryz.func84 rfl [] [] (by kernel_rfl) (fun hB=>?_);have fin:∀c:Bool,qbx f=c->Q (.bool c) H:=fun c hc=>hc▸hQ;simp[Tryz.ntmps84,Tryz.results84,List.replicate_succ];refine qkG E _ _ f.name h1 ?_;cases hm:mayB f.name
 ·simp;exact qac hB rfl (qaa _) (by simp) (fin _ (by unfold qbx;rw[hm];rfl))
 ·simp;refine qir E _ _ f.value h2 ?_;simp;exact qac hB rfl (qaa _) (by simp) (fin _ (by unfold qbx;rw[hm];simp))
end
end Go.Proofs.YtnnhdehmlkkfjaaGreatDoor
namespace Go.Proofs.YtnnhdehmlkkfjaaGreatDoor
open Go Go.RowKit Go.Proofs Go.Lib
section
variable {r:Resp}{h:Mann}
end
section
variable (E:Env)(H:Hp)(Q:AV->Hp->Prop)
end
end Go.Proofs.YtnnhdehmlkkfjaaGreatDoor
namespace Go.Proofs.YtnnhdehmlkkfjaaGreatDoor
open Go Go.RowKit Go.Proofs Go.Deep
theorem qdj:∀(rows:List (List AV)),(∀r∈rows,r.length=2/\∀(j:Nat) k y,[CK.str,.str][j]? =some k->r[j]? =some y->qgS k y)->∃ls,rows=flds ls/\fsz ls<=wtA rows.flatten
 |[],_=>⟨[],rfl,by simp[fsz]⟩
 |r::rows,h=>by
  obtain⟨ls,rfl,hw⟩:=qdj rows (fun q hq=>h q (List.mem_cons_of_mem _ hq));obtain⟨h1,h2⟩:=h r (List.mem_cons_self ..)
  match r,h1 with
  |[a,b],_=>
   obtain⟨x,rfl⟩:=qj3 (h2 0 _ _ rfl rfl);obtain⟨y,rfl⟩:=qj3 (h2 1 _ _ rfl rfl);refine⟨⟨x,y⟩::ls,rfl,?_⟩;rw[List.flatten_cons,qiG];simp[fsz,wtA]at hw⊢;omega
end Go.Proofs.YtnnhdehmlkkfjaaGreatDoor
namespace Go.Proofs.YtnnhdehmlkkfjaaGreatDoor
open Go Go.RowKit Go.Proofs
theorem qf8(a b:List (List UInt8)):qan (a++b)=qan a++qan b:=by simp[qan]
def full(l:List (List UInt8)):List (List UInt8):=l.filter fun p=>p !=[]
theorem qef(a b:List (List UInt8)):full (a++b)=full a++full b:=by simp[full]
theorem qmM(l:List (List UInt8))(j:Nat):(qan (full (l.take j))).length<=(qan (full l)).length:=by
 have h:full l=full (l.take j)++full (l.drop j):=by rw[<-qef,List.take_append_drop]
 rw[h,qf8,zqK];omega
theorem qeR(l:List (List UInt8))(s:List UInt8):qbM l++[[.str s]]=qbM (l++[s]):=by simp[qbM]
@[simp] theorem qn8 (l:List (List UInt8)):(qbM l).length=l.length:=by simp[qbM]
theorem qim{l:List (List UInt8)}{j:Nat}{s:List UInt8}(h:l[j]? =some s):s.length<=l.flatten.length:=by
 have:=zqH h
 induction l generalizing j with
 |nil=>cases this
 |cons a l ih=>
  cases j with
  |zero=>simp at h;subst h;simp
  |succ j=>
   have h':l[j]? =some s:=by simpa using h
   have:=ih h' (zqH h');simp only[List.flatten_cons,zqK];omega
section
variable (E:Env)(H:Hp)(Q:AV->Hp->Prop)
theorem qej(f:Fld)(h1:f.name.length<=16777216)(h2:f.value.length<=16777216)(hQ:Q (.tup [.str (qaY f).1,.int .i64 (qaY f).2]) H):PC Tryz.prog E 81 [.agg [.str f.name,.str f.value]] H Q:=by
 refine qab Tryz.func81 rfl [] [] (by kernel_rfl) (fun hB=>?_);have m1:f.name.length+1<=maxLen:=by unfold maxLen;omega
 have m2:f.name.length+2<=maxLen:=by unfold maxLen;omega
 have m3:f.name.length+2+f.value.length<=maxLen:=by unfold maxLen;omega
 have m4:f.name.length+1+1<=maxLen:=by unfold maxLen;omega
 have m5:f.name.length+1+1+f.value.length<=maxLen:=by unfold maxLen;omega
 simp[Tryz.ntmps81,Tryz.results81,List.replicate_succ];refine qfD E _ _ f.name (by simp only[cap];omega) ?_;cases hn:qbh f.name with
 |false=>
  have e:qaY f=([],60):=by unfold qaY;rw[if_pos hn]
  rw[e]at hQ;simp;exact qac hB rfl (qaa _) (by simp) hQ
 |true=>
  simp;refine qir E _ _ f.value (by simp only[cap];omega) ?_;cases hv:qb2 f.value with
  |false=>
   have e:qaY f=([],61):=by unfold qaY;rw[if_neg (by rw[hn];simp),if_pos hv]
   rw[e]at hQ;simp;exact qac hB rfl (qaa _) (by simp) hQ
  |true=>
   have e:qaY f=(qbi f,0):=by unfold qaY;rw[if_neg (by rw[hn];simp),if_neg (by rw[hv];simp)]
   rw[e]at hQ;by_cases he:f.value=[]
   ·have e2:qbi f=f.name++[58]:=by unfold qbi;rw[if_pos he]
    rw[e2]at hQ;have he':(f.value==[])=true:=by simpa using he
    simp[he',m1];exact qac hB rfl (qaa _) (by simp) hQ
   ·have e2:qbi f=f.name++(58::32::f.value):=by unfold qbi;rw[if_neg he]
    rw[e2]at hQ;have he':(f.value==[])=false:=by simpa using he
    simp[he',m2,m3,m4,m5];exact qac hB rfl (qaa _) (by simp) hQ
def deInv1(body:List UInt8)(ns:List Int)(ts:List Fld)(H:Hp)(fr:List AV)(H':Hp):Prop:=H'=H/\∃i:Nat,i<=ns.length/\qb6 (ns.take i)=true/\
 ∃x:Nat->AV,fr=[.str body,.sl false 1 (ints ns),.sl false 2 (flds ts),x 3,x 4,x 5,x 6,x 7,x 8,x 9,x 10,x 11,x 12,x 13,x 14,x 15,x 16,x 17,x 18,x 19,x 20,x 21,.sl false 1 (ints ns),.int .i64 ns.length,.int .i64 i,x 25,x 26,x 27,x 28,x 29,x 30,x 31,x 32,x 33,x 34,x 35,x 36,x 37,x 38,x 39,x 40,x 41,x 42,x 43,x 44,x 45,x 46,x 47,x 48,x 49,x 50,x 51,x 52,x 53,x 54,x 55,x 56,x 57,x 58,x 59,x 60,x 61,x 62,x 63,x 64,x 65,x 66,x 67,x 68,x 69,x 70,x 71,x 72,x 73,x 74,x 75,x 76,x 77,x 78,x 79,x 80,x 81,x 82,x 83,x 84,x 85,x 86,x 87,x 88,x 89,x 90,x 91,x 92,x 93,x 94,x 95,x 96,x 97,x 98,x 99,x 100,x 101,x 102,x 103]
def deInv2(body:List UInt8)(ns:List Int)(ts:List Fld)(H:Hp)(fr:List AV)(H':Hp):Prop:=∃(J:Hp) (i:Nat),H'=H++J/\i<=ts.length/\(ts.take i).all qbx=true/\
 ∃x:Nat->AV,fr=[.str body,.sl false 1 (ints ns),.sl false 2 (flds ts),x 3,x 4,x 5,x 6,x 7,x 8,x 9,x 10,x 11,x 12,x 13,x 14,x 15,x 16,x 17,x 18,x 19,x 20,x 21,x 22,x 23,x 24,x 25,x 26,x 27,x 28,x 29,x 30,.sl false 2 (flds ts),.int .i64 ts.length,.int .i64 i,x 34,x 35,x 36,x 37,x 38,x 39,x 40,x 41,x 42,x 43,x 44,x 45,x 46,x 47,x 48,x 49,x 50,x 51,x 52,x 53,x 54,x 55,x 56,x 57,x 58,x 59,x 60,x 61,x 62,x 63,x 64,x 65,x 66,x 67,x 68,x 69,x 70,x 71,x 72,x 73,x 74,x 75,x 76,x 77,x 78,x 79,x 80,x 81,x 82,x 83,x 84,x 85,x 86,x 87,x 88,x 89,x 90,x 91,x 92,x 93,x 94,x 95,x 96,x 97,x 98,x 99,x 100,x 101,x 102,x 103]
def deInv3(body:List UInt8)(ns:List Int)(ts:List Fld)(H:Hp)(fr:List AV)(H':Hp):Prop:=∃(J:Hp) (i:Nat) (b:List UInt8) (pcs:List (List UInt8)),H'=H++J/\i<=ns.length/\pcs.length=i/\full pcs++qam b (ns.drop i)=qam body ns/\b.length<=body.length/\
 ∃x:Nat->AV,fr=[.str b,x 1,.sl false 2 (flds ts),x 3,x 4,x 5,x 6,x 7,x 8,x 9,x 10,x 11,.sl true 1 (qbM pcs),x 13,x 14,x 15,x 16,x 17,x 18,x 19,x 20,x 21,x 22,x 23,x 24,x 25,x 26,x 27,x 28,x 29,x 30,x 31,x 32,x 33,x 34,x 35,x 36,x 37,x 38,x 39,x 40,.sl false 1 (ints ns),.int .i64 ns.length,.int .i64 i,x 44,x 45,x 46,x 47,x 48,x 49,x 50,x 51,x 52,x 53,x 54,x 55,x 56,x 57,x 58,x 59,x 60,x 61,x 62,x 63,x 64,x 65,x 66,x 67,x 68,x 69,x 70,x 71,x 72,x 73,x 74,x 75,x 76,x 77,x 78,x 79,x 80,x 81,x 82,x 83,x 84,x 85,x 86,x 87,x 88,x 89,x 90,x 91,x 92,x 93,x 94,x 95,x 96,x 97,x 98,x 99,x 100,x 101,x 102,x 103]
def deInv4(all:List (List UInt8))(ts:List Fld)(H:Hp)(fr:List AV)(H':Hp):Prop:=∃(J:Hp) (i:Nat),H'=H++J/\i<=all.length/\
 ∃x:Nat->AV,fr=[x 0,x 1,.sl false 2 (flds ts),x 3,x 4,x 5,x 6,x 7,x 8,x 9,x 10,x 11,x 12,x 13,x 14,.str (qan (full (all.take i))),x 16,x 17,x 18,x 19,x 20,x 21,x 22,x 23,x 24,x 25,x 26,x 27,x 28,x 29,x 30,x 31,x 32,x 33,x 34,x 35,x 36,x 37,x 38,x 39,x 40,x 41,x 42,x 43,x 44,x 45,x 46,x 47,x 48,x 49,x 50,x 51,x 52,x 53,x 54,x 55,x 56,x 57,x 58,x 59,x 60,x 61,x 62,x 63,x 64,x 65,.sl true 1 (qbM all),.int .i64 all.length,.int .i64 i,x 69,x 70,x 71,x 72,x 73,x 74,x 75,x 76,x 77,x 78,x 79,x 80,x 81,x 82,x 83,x 84,x 85,x 86,x 87,x 88,x 89,x 90,x 91,x 92,x 93,x 94,x 95,x 96,x 97,x 98,x 99,x 100,x 101,x 102,x 103]
def deInv5(out:List UInt8)(ts:List Fld)(H:Hp)(fr:List AV)(H':Hp):Prop:=∃(J:Hp) (i:Nat),H'=H++J/\i<=ts.length/\
 ∃x:Nat->AV,fr=[x 0,x 1,x 2,x 3,x 4,x 5,x 6,x 7,x 8,x 9,x 10,x 11,x 12,x 13,x 14,.str (out++qaB (ts.take i)),x 16,x 17,x 18,x 19,x 20,x 21,x 22,x 23,x 24,x 25,x 26,x 27,x 28,x 29,x 30,x 31,x 32,x 33,x 34,x 35,x 36,x 37,x 38,x 39,x 40,x 41,x 42,x 43,x 44,x 45,x 46,x 47,x 48,x 49,x 50,x 51,x 52,x 53,x 54,x 55,x 56,x 57,x 58,x 59,x 60,x 61,x 62,x 63,x 64,x 65,x 66,x 67,x 68,x 69,x 70,x 71,x 72,x 73,x 74,x 75,x 76,x 77,x 78,x 79,x 80,x 81,x 82,x 83,x 84,x 85,.sl false 2 (flds ts),.int .i64 ts.length,.int .i64 i,x 89,x 90,x 91,x 92,x 93,x 94,x 95,x 96,x 97,x 98,x 99,x 100,x 101,x 102,x 103]
theorem qgM(body:List UInt8)(ns:List Int)(ts:List Fld)(hb:body.length<=1048576)(hn:ns.length<=1048577)(ht:fsz ts+ts.length<=1048577)(hr:∀z∈ns,-9223372036854775808<=z/\z<=9223372036854775807)
  (hQ:Q (.tup [.str (qa9 body ns ts).1,.int .i64 (qa9 body ns ts).2]) H):PC Tryz.prog E 59 [.str body,.sl false 1 (ints ns),.sl false 2 (flds ts)] H Q:=by
 refine qab Tryz.func59 rfl [53,63] [] (by kernel_rfl) (fun hB=>?_);simp[Tryz.ntmps59,Tryz.results59,List.replicate_succ];refine qaG (deInv1 body ns ts H) (fun fr _=>ns.length-(ai (aget fr 24)).toNat) ⟨rfl,0,by omega,rfl,friz⟩ ?_;rintro fr H' ⟨rfl,i,hi,hall,x,rfl⟩;by_cases h:i<ns.length
 ·obtain⟨z,hz⟩:∃z,ns[i]? =some z:=⟨_,zqD h⟩
  have hat:=qhd hz;have hw:IntKind.i64.wrap ((i:Int)+1)=i+1:=wiz
  have hst:qb6 (ns.take (i+1))=(qb6 (ns.take i)&&decide (1<=z)):=by
   unfold qb6;rw[List.take_add_one,hz,List.all_append];simp
  by_cases hz1:z<1
  ·have e:qa9 body ns ts=([],1):=by
    unfold qa9;rw[if_pos];unfold qb6;rw[List.all_eq_false];exact⟨z,zqH hz,by simp;omega⟩
   rw[e]at hQ;simp[h,hat,hz1];exact aQz hB (h6:=hQ)
  ·simp[h,hat,hz1,hw];exact Klz ⟨rfl,i+1,by omega,by rw[hst,hall];simp;omega,friz⟩
 obtain rfl:i=ns.length:=by omega
 rw[zqE (Nat.le_refl _)]at hall;have hns:∀z∈ns,1<=z:=fun z hz=>by have:=List.all_eq_true.1 hall z hz;simpa using this
 clear hi h;simp;refine qaG (deInv2 body ns ts H') (fun fr _=>ts.length-(ai (aget fr 33)).toNat) ⟨[],0,by simp,by omega,by simp,friz⟩ ?_;rintro fr H2 ⟨J,i,rfl,hi,hts,x,rfl⟩;by_cases h:i<ts.length
 ·obtain⟨f,hf⟩:∃f,ts[i]? =some f:=⟨_,zqD h⟩
  have hat:=qco hf;have hfm:=qdh hf;have hw:IntKind.i64.wrap ((i:Int)+1)=i+1:=wiz;simp[h,hat];refine qm9 E _ _ f (by simp only[cap];omega) (by simp only[cap];omega) ?_;cases hrt:qbx f
  ·have hq:qa9 body ns ts=([],101):=by
    unfold qa9;rw[if_neg (by rw[hall];simp),if_pos];rw[List.all_eq_false];exact⟨f,zqH hf,by rw[hrt];simp⟩
   rw[hq]at hQ;simp;exact qac hB rfl (qaa _) (by simp) hQ
  ·simp[hw];exact Klz ⟨_,i+1,rfl,by omega,by rw[qbv qbx ts i f hf,hts,hrt];rfl,friz⟩
 obtain rfl:i=ts.length:=by omega
 rw[zqE (Nat.le_refl _)]at hts
 have he:qa9 body ns ts=(encT (qam body ns) ts,0):=by
  unfold qa9;rw[if_neg (by rw[hall];simp),if_neg (by rw[hts];simp)]
 rw[he]at hQ;simp only at hQ;clear hi h he hall;have hpf:(qam body ns).flatten=body:=qcR ns body;have htot:=qdv (qam body ns) (qd6 ns body hns) (by rw[hpf];omega);rw[hpf]at htot;simp;refine qes 12 1 (by rfl) ?_;simp only[List.set_cons_succ,List.set_cons_zero];refine qaG (deInv3 body ns ts H') (fun fr _=>ns.length-(ai (aget fr 43)).toNat) ⟨J,0,body,[],rfl,by omega,rfl,by simp[full],by omega,qal (by simp[qbM])⟩ ?_;clear J x;rintro fr H3 ⟨J,i,b,pcs,rfl,hi,hpl,hsum,hbl,x,rfl⟩;have m1:pcs.length+1<=maxLen:=by unfold maxLen;omega
 have m2:(pcs.length+1)*16<=140737488355328:=by omega
 by_cases h:i<ns.length
 ·obtain⟨z,hz⟩:∃z,ns[i]? =some z:=⟨_,zqD h⟩
  have hat:=qhd hz;have hz1:=hns z (zqH hz);have hw:IntKind.i64.wrap ((i:Int)+1)=i+1:=wiz;have hdrop:ns.drop i=z::ns.drop (i+1):=by rw[List.drop_eq_getElem_cons h];simp[(zqC.1 hz).2]
  rw[hdrop]at hsum;obtain⟨m,hm⟩:∃m:Nat,(if(b.length:Int)<z then(b.length:Int)else z)=m:=⟨(if(b.length:Int)<z then(b.length:Int)else z).toNat,by split<;>omega⟩
  have hml:m<=b.length:=by split at hm<;>omega
  have htk:b.take m=b.take z.toNat:=by
   split at hm
   ·rw[zqE (by omega),zqE (by omega)]
   ·rw[show m=z.toNat by omega]
  have hdk:b.drop m=b.drop z.toNat:=by
   split at hm
   ·rw[List.drop_of_length_le (by omega),List.drop_of_length_le (by omega)]
   ·rw[show m=z.toNat by omega]
  have hsum2:full (pcs++[b.take m])++qam (b.drop m) (ns.drop (i+1))=qam body ns:=by
   rw[<-hsum,qef,htk,hdk];by_cases hb0:b=[]
   ·subst hb0;simp[full,qcw]
   ·have hne:b.take z.toNat≠[]:=fun e=>by
     have:=congrArg List.length e;rw[zqJ]at this;have h0:b.length≠0:=fun e=>hb0 (List.length_eq_zero_iff.1 e);have h3:([]:List UInt8).length=0:=rfl;omega
    rw[qeX hb0];simp[full,hne]
  have hsn:=qeR pcs (b.take m);have htl:(b.drop m).take (b.length-m)=b.drop m:=zqE (by rw[zqI];omega);by_cases hlz:(b.length:Int)<z
  ·have hm':m=b.length:=by rw[if_pos hlz]at hm;omega
   subst hm';simp at hsn;simp[h,hat,hlz,m1,m2,hsn,hw];exact Klz ⟨J,i+1,[],pcs++[b],rfl,by omega,by simp[hpl],by simpa using hsum2,by simp,friz⟩
  ·have hzm:z=m:=by rw[if_neg hlz]at hm;exact hm
   subst hzm;have hlz':m<=b.length:=hml;simp[h,hat,hlz,hlz',m1,m2,hsn,hw,htl];exact Klz ⟨J,i+1,b.drop m,pcs++[b.take m],rfl,by omega,by simp[hpl],hsum2,by rw[zqI];omega,friz⟩
 obtain rfl:i=ns.length:=by omega
 rw[List.drop_of_length_le (Nat.le_refl _)]at hsum
 have hall:full (pcs++[b])=qam body ns:=by
  rw[<-hsum,qef];by_cases hb0:b=[]
  ·subst hb0;simp[full,qcw]
  ·rw[qeW hb0];simp[full,hb0]
 have hsn:=qeR pcs b
 have hflat:(full (pcs++[b])).flatten=(pcs++[b]).flatten:=by
  generalize pcs++[b]=l
  induction l with
  |nil=>rfl
  |cons a l ih=>
   unfold full at ih⊢;rw[List.filter_cons];split
   ·simp[ih]
   ·rename_i hh;have:a=[]:=by simpa using hh
    subst this;simpa using ih
 obtain⟨all,hallE⟩:=exz (pcs++[b]);have hal:all.length=ns.length+1:=by rw[<-hallE];simp[hpl]
 rw[hallE]at hsn hall hflat;simp[m1,m2,hsn];refine qaG (deInv4 all ts H') (fun fr _=>all.length-(ai (aget fr 68)).toNat) ⟨J,0,rfl,by omega,qal (by simp[full,qan])⟩ ?_;clear J x hsum;rintro fr H4 ⟨J,i,rfl,hi,x,rfl⟩;have hcl:=qmM all i;rw[hall]at hcl;by_cases h:i<all.length
 ·obtain⟨s,hs⟩:∃s,all[i]? =some s:=⟨_,zqD h⟩
  have hat:=qgr hs;have hsl:=qim hs;rw[<-hflat,hall,hpf]at hsl;have hw:IntKind.i64.wrap ((i:Int)+1)=i+1:=wiz;have htk:all.take (i+1)=all.take i++[s]:=by rw[List.take_add_one,hs];rfl
  have hs11:=qbB s.length (by omega);by_cases hs0:s=[]
  ·have e:qan (full (all.take (i+1)))=qan (full (all.take i)):=by rw[htk,qef,hs0];simp[full]
   subst hs0;simp[h,hat,hw];exact Klz ⟨J,i+1,rfl,by omega,qal (by rw[e];simp)⟩
  ·have hs1:(s !=[])=true:=by simpa using hs0
   have e:qan (full (all.take (i+1)))=qan (full (all.take i))++qb9 s:=by
    rw[htk,qef,qf8];simp[full,hs0,qan]
   have k1:(hexD s.length).length+1+1<=maxLen:=by unfold maxLen;omega
   have k2:(hexD s.length).length+2<=maxLen:=by unfold maxLen;omega
   have k3:(hexD s.length).length+1+1+s.length<=maxLen:=by unfold maxLen;omega
   have k4:(hexD s.length).length+2+s.length<=maxLen:=by unfold maxLen;omega
   have k5:(hexD s.length).length+(s.length+1+1)+2<=maxLen:=by unfold maxLen;omega
   have k6:(qan (full (all.take i))).length+((hexD s.length).length+(s.length+1+1+1+1))<=maxLen:=by unfold maxLen;omega
   have k7:(hexD s.length).length+(s.length+1+1+2)<=maxLen:=by unfold maxLen;omega
   have k8:(qan (full (all.take i))).length+((hexD s.length).length+(s.length+(1+1)+1+1))<=maxLen:=by unfold maxLen;omega
   simp[h,hat,hs1];refine qla E _ _ s.length (by omega) ?_;simp[k1,k2,k3,k4,k5,k6,k7,k8,hw];exact Klz ⟨J,i+1,rfl,by omega,qal (by rw[e];simp[qb9])⟩
 obtain rfl:i=all.length:=by omega
 rw[zqE (Nat.le_refl _),hall]at hcl⊢;have k0:(qan (qam body ns)).length+3<=maxLen:=by unfold maxLen;omega
 have k0':(qan (qam body ns)).length+1+1+1<=maxLen:=by unfold maxLen;omega
 obtain⟨out,hout⟩:=exz (qan (qam body ns)++[48,13,10]);have hol:out.length<=17000000:=by rw[<-hout];simp;omega
 simp[k0,k0',hout];refine qaG (deInv5 out ts H') (fun fr _=>ts.length-(ai (aget fr 88)).toNat) ⟨J,0,rfl,by omega,qal (by simp[qaB])⟩ ?_;clear J x;rintro fr H5 ⟨J,i,rfl,hi,x,rfl⟩;have hlin:=qcC (ts.take i);have hsz:=qfd ts i;rw[zqJ]at hlin;by_cases h:i<ts.length
 ·obtain⟨f,hf⟩:∃f,ts[i]? =some f:=⟨_,zqD h⟩
  have hat:=qco hf;have hfm:=qdh hf;have hw:IntKind.i64.wrap ((i:Int)+1)=i+1:=wiz;have hrt:qbx f=true:=List.all_eq_true.1 hts f (zqH hf)
  have hlp:qaY f=(qbi f,0):=by
   unfold qbx at hrt;simp at hrt;unfold qaY;rw[if_neg (by rw[qmi hrt.1];simp),if_neg (by rw[hrt.2];simp)]
  have hlt:=qeb f;have hst:=qcT ts i f hf;have k1:(qbi f).length+1+1<=maxLen:=by unfold maxLen;omega
  have k2:(qbi f).length+2<=maxLen:=by unfold maxLen;omega
  have k3:out.length+(qaB (ts.take i)).length+((qbi f).length+1+1)<=maxLen:=by unfold maxLen;omega
  have k4:out.length+(qaB (ts.take i)).length+((qbi f).length+2)<=maxLen:=by unfold maxLen;omega
  simp[h,hat];refine qej E _ _ f (by omega) (by omega) ?_;simp[hlp,k1,k2,k3,k4,hw];exact Klz ⟨_,i+1,rfl,by omega,qal (by rw[hst];simp)⟩
 ·obtain rfl:i=ts.length:=by omega
  rw[zqE (Nat.le_refl _)]at hlin⊢;have k1:out.length+(qaB ts).length+2<=maxLen:=by unfold maxLen;omega
  have k2:out.length+(qaB ts).length+1+1<=maxLen:=by unfold maxLen;omega
  have e:encT (qam body ns) ts=out++(qaB ts++[13,10]):=by rw[<-hout];unfold encT;simp
  rw[e]at hQ;simp[k1,k2];exact aQy hB (h6:=hQ)
end
section
variable (E:Env)(H:Hp)(Q:AV->Hp->Prop)
theorem qnj(a b:List UInt8)(ha:a.length<=cap)(hb:b.length<=cap)(hQ:Q (.bool (qja a b)) H):PC Tryz.prog E 126 [.str a,.str b] H Q:=by
 refine qab Tryz.func126 rfl [] [] (by kernel_rfl) (fun hB=>?_);simp[Tryz.ntmps126,Tryz.results126,List.replicate_succ];refine qcf E _ _ a ha ?_;simp;refine qcf E _ _ b hb ?_;simp;exact aQz hB (h6:=hQ)
end
section
variable (E:Env)(H:Hp)(Q:AV->Hp->Prop)
def dfpInv(l:List Fld)(H:Hp)(fr:List AV)(H':Hp):Prop:=∃(J:Hp) (i:Nat),i<=l.length/\H'=H++J/\(∀g∈l.take i,(qaY g).2=0)/\
 ∃x:Nat->AV,fr=[x 0,x 1,x 2,x 3,.str (qaB (l.take i)),x 5,x 6,x 7,x 8,x 9,x 10,x 11,.sl false 2 (flds l),.int .i64 l.length,.int .i64 i,x 15,x 16,x 17,x 18,x 19,x 20,x 21,x 22,x 23,x 24,x 25,x 26,x 27,x 28,x 29,x 30,x 31]
theorem qgL(l:List Fld)(hl:fsz l+l.length<=16777216)(hQ:Q (.tup [.str (qbk l).1,.int .i64 (qbk l).2]) H):PC Tryz.prog E 57 [.sl false 2 (flds l)] H Q:=by
 have fin:∀a:List UInt8×Int,qbk l=a->Q (.tup [.str a.1,.int .i64 a.2]) H:=fun a ha=>ha▸hQ;refine qab Tryz.func57 rfl [] [] (by kernel_rfl) (fun hB=>?_);simp[Tryz.ntmps57,Tryz.results57,List.replicate_succ];by_cases h100:100<l.length
 ·have h1:(100:Int)<l.length:=by omega
  simp[h1];exact qap hB (v0:= .tup [.str [],.int .i64 65]) (by simp) (qaa _) (by simp) (fin ([],65) (by unfold qbk;rw[if_pos h100]))
 have h1:¬(100:Int)<l.length:=by omega
 simp[h1];refine qaG (dfpInv l H) (fun fr _=>l.length-(ai (aget fr 14)).toNat) ⟨[],0,by omega,by simp,by simp,qal (by simp[qaB])⟩ ?_;rintro fr H2 ⟨J2,i,hi,rfl,hall,x,rfl⟩;have hlin:=qcC (l.take i);have hsz:=qfd l i;rw[zqJ]at hlin;by_cases h:i<l.length
 ·obtain⟨f,hf⟩:∃f,l[i]? =some f:=⟨_,zqD h⟩
  have hat:=qco hf;have hfm:=qdh hf;have hw:IntKind.i64.wrap ((i:Int)+1)=i+1:=wiz;have hlt:=qeb f;simp[h,hat];refine qej E _ _ f (by omega) (by omega) ?_;by_cases hz:(qaY f).2=0
  ·have hz1:=qjZ hz;have m1:(qbi f).length+2<=maxLen:=by unfold maxLen;omega
   have m0:(qbi f).length+1+1<=maxLen:=by unfold maxLen;omega
   have m2:(qaB (l.take i)).length+((qbi f).length+1+1)<=maxLen:=by unfold maxLen;omega
   have m3:(qaB (l.take i)).length+((qbi f).length+2)<=maxLen:=by unfold maxLen;omega
   have hst:=qcT l i f hf;simp[hz,hz1,m1,m0,m2,m3,hw];refine Klz ⟨_,i+1,by omega,rfl,fun g hg=>?_,qal (by simp[hst])⟩;rw[List.take_add_one,hf]at hg;rcases List.mem_append.1 hg with hg|hg
   ·exact hall g hg
   ·simp at hg;subst hg;exact hz
  ·have hz2:((qaY f).2 !=0)=true:=by simpa using hz
   simp[hz2];exact qac hB (v0:= .tup [.str [],.int .i64 (qaY f).2]) (by simp) (qaa _) (by simp) (fin ([],(qaY f).2) (qfF (by omega) hf hall hz))
 ·obtain rfl:i=l.length:=by omega
  rw[zqE (Nat.le_refl _)]at hall hlin⊢;simp;exact qac hB (v0:= .tup [.str (qaB l),.int .i64 0]) (by simp) (qaa _) (by simp) (fin (qaB l,0) (qgt (by omega) hall))
end
section
variable (E:Env)(H:Hp)(Q:AV->Hp->Prop)
end
section
variable (E:Env)(H:Hp)(Q:AV->Hp->Prop)
end
section
variable (E:Env)(H:Hp)(Q:AV->Hp->Prop)
end
@[simp] theorem bnd_ints {N:Nat} (l:List Int):(∀r∈ints l,∀x∈r,Bnd N x)=True:=eq_true fun r hr x hx=>by
 obtain⟨z,_,rfl⟩:=List.mem_map.1 hr;simp at hx;subst hx;exact .int _ _
section
variable (E:Env)(H:Hp)(Q:AV->Hp->Prop)
end
section
variable (E:Env)(H:Hp)(Q:AV->Hp->Prop)
end
end Go.Proofs.YtnnhdehmlkkfjaaGreatDoor
namespace Go.Proofs.YtnnhdehmlkkfjaaGreatDoor
open Go Go.RowKit Go.Proofs Go.Deep
section
variable (E:Env)(H:Hp)(Q:AV->Hp->Prop)
end
def Tabs(W : World) : Prop := qgn W ∧ Tz W ∧ Lib.TabIs Tryz.prog W "internal/strconv.uint64pow10" .u64 Lib.pow10Tab
theorem tab_lt{W : World}(hT : Lib.TabIs Tryz.prog W "internal/strconv.uint64pow10" .u64 Lib.pow10Tab) : 1 < W.heap.size := by
 have:=hT;unfold Lib.TabIs World.var? at this;rw[qey]at this;simp only[Option.bind_some]at this;by_cases h:1<W.heap.size
 ·exact h
 ·rw[Array.getElem?_eq_none (by omega)]at this;cases this
end Go.Proofs.YtnnhdehmlkkfjaaGreatDoor
namespace Go.Proofs.YtnnhdehmlkkfjaaGreatDoor
open Go Go.RowKit Go.Proofs
section
variable (E:Env)(H:Hp)(Q:AV->Hp->Prop)
end
end Go.Proofs.YtnnhdehmlkkfjaaGreatDoor
namespace Go.Proofs.YtnnhdehmlkkfjaaGreatDoor
open Go Go.RowKit
def qmh(s:List UInt8):Bool:=tokB s&&decide (s.length<=24)
def qbO(s:List UInt8):Bool:=!s.isEmpty&&s.all fun c=>decide (33<=c.toNat)&&decide (c.toNat<=126)
def preQ(r:Rq):List UInt8:=r.meth++([32]++(r.targ++([32]++([72,84,84,80,47]++([49,46]++(Go.Lib.itoa r.minor++([13,10]++((qbk r.fields).1++[13,10]))))))))
def qeU(r:Rq):List UInt8×Int:=
 if qmh r.meth=false then([],110)else if qbO r.targ=false then([],111)else if r.major≠1\/(r.minor≠0/\r.minor≠1)then([],117)
 else if(qbk r.fields).2≠0 then([],(qbk r.fields).2)
 else if(qaJ r.fields (decide (r.minor=0))).2.2≠0 then([],(qaJ r.fields (decide (r.minor=0))).2.2)
 else if(qaJ r.fields (decide (r.minor=0))).1≠2/\(r.body.length:Int)≠(qaJ r.fields (decide (r.minor=0))).2.1 then([],114)
 else if(qaJ r.fields (decide (r.minor=0))).1≠2/\r.trailers≠[]then([],113)
 else if(qaJ r.fields (decide (r.minor=0))).1=2 then(if(qa9 r.body [] r.trailers).2≠0 then([],(qa9 r.body [] r.trailers).2)else(preQ r++(qa9 r.body [] r.trailers).1,0))
 else(preQ r++r.body,0)
section
variable {lt lh lf lb:Int}
end
end Go.Proofs.YtnnhdehmlkkfjaaGreatDoor
namespace Go.Proofs.YtnnhdehmlkkfjaaGreatDoor
open Go Go.RowKit Go.Shelf
theorem dN_lo(n b0 b1 b2 b3:Nat)(h:b0<128):Lib.decodeN n b0 b1 b2 b3=(b0,1):=by unfold Lib.decodeN;rw[if_pos h]
theorem dN_hi(n b0 b1 b2 b3:Nat)(h:128<=b0):126<(Lib.decodeN n b0 b1 b2 b3).1:=by
 unfold Lib.decodeN;rw[if_neg (by omega)]
 repeat' split
 all_goals (simp only;omega)
def notL(x:Nat):Bool:=decide (x<33)||decide (126<x)
theorem qj4(s:ByteArray):∀(f pos:Nat),s.size<=pos+f->(Lib.idxFuncFrom notL true s f pos<0↔∀b∈s.data.toList.drop pos,33<=b.toNat/\b.toNat<=126)
 |f,pos,hf=>by
  by_cases hp:pos<s.size
  ·obtain⟨g,rfl⟩:∃g,f=g+1:=⟨f-1,by omega⟩
   have hat:s.data.toList[pos]? =some (s.get! pos):=by
    have h1:pos<s.data.toList.length:=by rw[Array.length_toList];exact hp
    rw[zqD h1];simp[ByteArray.get!,getElem!_pos,hp]
   have hd:=qay _ _ _ hat;rw[Lib.idxFuncFrom,if_pos hp,Lib.decode_at,hd];by_cases hlo:(s.get! pos).toNat<128
   ·rw[dN_lo _ _ _ _ _ hlo];by_cases hn:notL (s.get! pos).toNat=true
    ·rw[if_pos hn];unfold notL at hn;simp only[Bool.or_eq_true,decide_eq_true_eq]at hn;refine⟨fun h=>by omega,fun h=>?_⟩;have:=h _ (.head _);omega
    ·rw[if_neg hn];have ih:=qj4 s g (pos+1) (by omega);unfold notL at hn;simp only[Bool.or_eq_true,decide_eq_true_eq]at hn;rw[ih];refine⟨fun h b hb=>?_,fun h b hb=>h b (.tail _ hb)⟩;rcases List.mem_cons.1 hb with rfl|hb
     ·omega
     ·exact h b hb
   ·have hh:=dN_hi (s.size-pos) (s.get! pos).toNat (s.get! (pos+1)).toNat (s.get! (pos+2)).toNat (s.get! (pos+3)).toNat (by omega);rw[if_pos (by unfold notL;simp;omega)];refine⟨fun h=>by omega,fun h=>?_⟩;have:=h _ (.head _);omega
  ·have h0:s.data.toList.drop pos=[]:=List.drop_eq_nil_of_le (by rw[Array.length_toList];show s.size<=pos;omega);rw[Lib.idxFuncFrom_end _ _ _ _ _ hp,h0];simp
theorem qhc(x:Nat)(hx:x<=1114111)(w:World):Calls Tryz.prog 72 #[encR x] w fun e w'=>e= .returned (.bool (notL x))/\Below w.heap.size w w':=by
 unfold encR notL;by_cases h1:x<33
 ·go_enter Tryz.func72,Tryz.ntmps72
  go_wp2
  go_ret
  exact⟨by simp[h1],Below.refl _ _⟩
 ·by_cases h2:126<x
  ·go_enter Tryz.func72,Tryz.ntmps72
   go_wp2
   go_ret
   exact⟨by simp[h2];omega,Below.refl _ _⟩
  ·go_enter Tryz.func72,Tryz.ntmps72
   go_wp2
   go_ret
   exact⟨by simp[h1,h2];omega,Below.refl _ _⟩
section
variable (E:Env){H:Hp}(Q:AV->Hp->Prop)
theorem qie(l:List UInt8)(hQ:∀z:Int,(z<0↔∀b∈l,33<=b.toNat/\b.toNat<=126)->Q (.int .i64 z) H):PC Tryz.prog E 71 [.str l,.fn 72 []] H Q:=by
 refine⟨by kernel_rfl,fun w β Rd Ow cargs hHR hOw hsz hargs=>?_⟩;obtain⟨u,v,rfl,hu,hv⟩:=args2 hsz (fun t x u hx hu=>(hargs t x u hx hu).1);obtain⟨s,rfl,rfl,hs⟩:=qaq hu
 have hv':v= .func (.func 72) #[] #[]:=by
  cases hv with
  |fn _ _ vs hl _ _ _=>
   have:vs= #[]:=Array.eq_empty_of_size_eq_zero (by simpa using hl);rw[this]
 subst hv';have eg:∀args w,(callFunc 72 args).run Tryz.prog w= .ok (.enter 72 args) w:=enters_of Tryz.func72 (by kernel_rfl) rfl;refine(Any.strings_IndexFunc_grows qmz 72 #[] eg notL s w (fun W x hx hb=>qhc x hx W)).mono ?_;rintro e w' ⟨rfl,hb⟩;have hi:=qj4 s s.size 0 (by omega);rw[List.drop_zero]at hi;exact⟨_,_,H,β,_,Ow,rfl,hQ _ hi,qb5 hHR (qbc hb) (fun _ _=>False) (fun _ _ h=>h.elim) (.int _ _) (.int _ _) rfl⟩
theorem qmE(l:List UInt8)(hQ:Q (.bool (qbO l)) H):PC Tryz.prog E 52 [.str l] H Q:=by
 refine qab Tryz.func52 rfl [] [] (by kernel_rfl) (fun hB=>?_);unfold qbO at hQ;by_cases h:l=[]
 ·subst h;simp[Tryz.ntmps52,Tryz.results52,List.replicate_succ];exact aQz hB (h6:=hQ)
 ·have h1:(l !=[])=true:=by simpa using h
  have h2:l.isEmpty=false:=by simpa using h
  rw[h2]at hQ;simp[Tryz.ntmps52,Tryz.results52,List.replicate_succ,h1];refine qie E _ l (fun z hz=>?_)
  have e:decide (z<0)=l.all fun c=>decide (33<=c.toNat)&&decide (c.toNat<=126):=by
   rw[Bool.eq_iff_iff,decide_eq_true_eq,hz,List.all_eq_true];simp
  simp;refine aQz hB (h6:=?_);rw[e];exact hQ
end
end Go.Proofs.YtnnhdehmlkkfjaaGreatDoor
namespace Go.Proofs.YtnnhdehmlkkfjaaGreatDoor
open Go Go.RowKit
section
variable (E:Env){H:Hp}(Q:AV->Hp->Prop)
def lfI(l:List Fld)(H:Hp)(fr:List AV)(K:Hp):Prop:=K=H/\∃i:Nat,i<=l.length/\∃x:Nat->AV,fr=[.sl false 2 (flds l),.sl false 2 (flds l),x 2,x 3,x 4,.int .i64 (i:Int),x 6,x 7,x 8,x 9,x 10,x 11,x 12,x 13,x 14,x 15,x 16,x 17,x 18,x 19,x 20,x 21,x 22,x 23,x 24,x 25,x 26,x 27,x 28,x 29,x 30,x 31,x 32,x 33,x 34,x 35,x 36,x 37,x 38,x 39,x 40]
theorem qgE(l:List Fld)(hl:l.length<=1073741824)(hQ:Q (.bool true) H):PC Tryz.prog E 38 [.sl false 2 (flds l),.sl false 2 (flds l)] H Q:=by
 refine qab Tryz.func38 rfl [] [] (by kernel_rfl) (fun hB=>?_);simp[Tryz.ntmps38,Tryz.results38,List.replicate_succ];refine qaG (lfI l H) (fun fr _=>l.length-(ai (aget fr 5)).toNat) ⟨rfl,0,by omega,friz⟩ ?_;rintro fr K ⟨rfl,i,hi,x,rfl⟩;by_cases h:i<l.length
 ·obtain⟨f,hf⟩:∃f,l[i]? =some f:=⟨_,zqD h⟩
  have hat:=qco hf;have w1:IntKind.i64.wrap ((i:Int)+1)=i+1:=wiz;simp[h,hat,w1];exact Klz ⟨rfl,i+1,by omega,friz⟩
 ·simp[h];exact aQz hB (h6:=hQ)
theorem qoT(r:Rq)(h1:r.fields.length<=1073741824)(h2:r.trailers.length<=1073741824)(hQ:Q (.bool true) H):PC Tryz.prog E 16 [r.av,r.av] H Q:=by
 refine qab Tryz.func16 rfl [] [] (by kernel_rfl) (fun hB=>?_);simp[Tryz.ntmps16,Tryz.results16,List.replicate_succ,Rq.av,Rq.avs];refine qgE E _ r.fields h1 ?_;simp;refine qgE E _ r.trailers h2 ?_;simp;exact aQy hB (h6:=hQ)
def lrI1(r:Rq)(H:Hp)(fr:List AV)(K:Hp):Prop:=∃i:Nat,i<=r.fields.length/\K=H++[r.avs,[.str [],.str [],.int .i64 0,.int .i64 0,.nil,.str [],.nil],[.str r.meth,.str r.targ,.int .i64 r.major,.int .i64 r.minor,.sl true 2 (flds (r.fields.take i)),.str r.body,.sl true 2 (flds [])]]/\
 ∃x:Nat->AV,fr=[x 0,.ptr (some (H.length,0)),.ptr (some (H.length+1,0)),.ptr (some (H.length+2,0)),.int .i64 (i:Int),x 5,x 6,x 7,x 8,x 9,x 10,x 11,x 12,x 13,x 14,x 15,x 16,x 17,x 18,x 19,x 20,x 21,x 22,x 23,x 24,x 25,x 26,x 27,x 28,x 29,x 30,x 31,x 32,x 33,x 34,x 35,x 36,x 37,x 38,x 39,x 40,x 41,x 42,x 43,x 44,x 45,x 46,x 47,x 48,x 49,x 50,x 51,x 52,x 53,x 54,x 55,x 56,x 57,x 58,x 59,x 60,x 61,x 62,x 63,x 64,x 65,x 66,x 67]
def lrI2(r:Rq)(H:Hp)(fr:List AV)(K:Hp):Prop:=∃i:Nat,i<=r.trailers.length/\K=H++[r.avs,[.str [],.str [],.int .i64 0,.int .i64 0,.nil,.str [],.nil],[.str r.meth,.str r.targ,.int .i64 r.major,.int .i64 r.minor,.sl true 2 (flds r.fields),.str r.body,.sl true 2 (flds (r.trailers.take i))]]/\
 ∃x:Nat->AV,fr=[x 0,.ptr (some (H.length,0)),.ptr (some (H.length+1,0)),.ptr (some (H.length+2,0)),x 4,.int .i64 (i:Int),x 6,x 7,x 8,x 9,x 10,x 11,x 12,x 13,x 14,x 15,x 16,x 17,x 18,x 19,x 20,x 21,x 22,x 23,x 24,x 25,x 26,x 27,x 28,x 29,x 30,x 31,x 32,x 33,x 34,x 35,x 36,x 37,x 38,x 39,x 40,x 41,x 42,x 43,x 44,x 45,x 46,x 47,x 48,x 49,x 50,x 51,x 52,x 53,x 54,x 55,x 56,x 57,x 58,x 59,x 60,x 61,x 62,x 63,x 64,x 65,x 66,x 67]
theorem qi9(r:Rq)(h1:r.fields.length<=16777216)(h2:r.trailers.length<=16777216)(hQ:Q r.av H):PC Tryz.prog E 30 [r.av] H Q:=by
 refine qab Tryz.func30 rfl [25,50] [] (by kernel_rfl) (fun hB=>?_);simp[Tryz.ntmps30,Tryz.results30,List.replicate_succ,Rq.av,Rq.avs];refine qnZ (H.length+2) _ 4 2 (by simp;rfl) (by rfl) ?_;refine qnZ (H.length+2) _ 6 2 (by simp;rfl) (by rfl) ?_;refine qaG (lrI1 r H) (fun fr _=>r.fields.length-(ai (aget fr 4)).toNat) ⟨0,by omega,by simp[Rq.avs,flds],friz⟩ ?_;rintro fr K ⟨i,hi,rfl,x,rfl⟩;by_cases h:i<r.fields.length
 ·obtain⟨f,hf⟩:∃f,r.fields[i]? =some f:=⟨_,zqD h⟩
  have hat:=qco hf;have w1:IntKind.i64.wrap ((i:Int)+1)=i+1:=wiz;have htk:flds (r.fields.take i)++[[AV.str f.name,AV.str f.value]]=flds (r.fields.take (i+1)):=by rw[qeh,List.take_add_one,hf];rfl
  have hlt:(r.fields.take i).length=i:=by rw[zqJ];omega
  have m1:i+1<=maxLen:=by unfold maxLen;omega
  have m2:(i+1)*32<=140737488355328:=by omega
  have m3:i<=maxLen:=by unfold maxLen;omega
  simp[Rq.avs,h,hat,w1,htk,hlt,m1,m2,m3,-List.length_take];exact Klz ⟨i+1,by omega,by simp[Rq.avs],friz⟩
 ·obtain rfl:i=r.fields.length:=by omega
  rw[List.take_length];simp[Rq.avs];refine qaG (lrI2 r H) (fun fr _=>r.trailers.length-(ai (aget fr 5)).toNat) ⟨0,by omega,by simp[Rq.avs,flds],friz⟩ ?_;rintro fr K ⟨i,hi,rfl,x,rfl⟩;by_cases h:i<r.trailers.length
  ·obtain⟨f,hf⟩:∃f,r.trailers[i]? =some f:=⟨_,zqD h⟩
   have hat:=qco hf;have w1:IntKind.i64.wrap ((i:Int)+1)=i+1:=wiz;have htk:flds (r.trailers.take i)++[[AV.str f.name,AV.str f.value]]=flds (r.trailers.take (i+1)):=by rw[qeh,List.take_add_one,hf];rfl
   have hlt:(r.trailers.take i).length=i:=by rw[zqJ];omega
   have m1:i+1<=maxLen:=by unfold maxLen;omega
   have m2:(i+1)*32<=140737488355328:=by omega
   have m3:i<=maxLen:=by unfold maxLen;omega
   simp[Rq.avs,h,hat,w1,htk,hlt,m1,m2,m3,-List.length_take];exact Klz ⟨i+1,by omega,by simp[Rq.avs],friz⟩
  ·obtain rfl:i=r.trailers.length:=by omega
   rw[List.take_length];simp[Rq.avs];exact qac hB (v0:=r.av) (by simp[Rq.av,Rq.avs]) (qaa _) (by simp[Rq.av,Rq.avs,qdx]) hQ
def awkT:List UInt8:=[71,69,84,32,47,97,32,72,84,84,80,47,49,46,48,13,10,13,10,120]
theorem qps:(qaI (newP 8000 16384 100 1048576) awkT).2=19/\(qaI (newP 8000 16384 100 1048576) awkT).1.state=4/\(qaI (newP 8000 16384 100 1048576) awkT).1.meth=[71,69,84]/\(qaI (newP 8000 16384 100 1048576) awkT).1.targ=[47,97]/\(qaI (newP 8000 16384 100 1048576) awkT).1.major=1:=by decide+kernel
theorem qmA(hE:PE E)(hQ:Q (.bool true) H):PC Tryz.prog E 15 [] H Q:=by
 refine qab Tryz.func15 rfl [] [] (by kernel_rfl) (fun hB=>?_);simp[Tryz.ntmps15,Tryz.results15,List.replicate_succ];refine ql5 E _ ?_;simp;refine ql2 E _ hE 8000 16384 100 1048576 awkT (by decide) ?_;obtain⟨g1,g2,g3,g4,g5⟩:=qps;have hch:chkE 8000 16384 100 1048576=0:=by decide
 have hk:qha (qaI (newP 8000 16384 100 1048576) awkT).1=1:=by unfold qha;rw[if_pos g2]
 have hf:fltV (qaI (newP 8000 16384 100 1048576) awkT).1= .agg [.int .i64 0,.int .i64 0,.int .i64 0]:=by unfold fltV;rw[if_neg (by omega)]
 unfold qqb;rw[if_pos hch,hk,hf,g1,g2];have hrq:Rq.if (decide ((4:Int)=4)) (qaI (newP 8000 16384 100 1048576) awkT).1.rq=(qaI (newP 8000 16384 100 1048576) awkT).1.rq:=rfl;rw[hrq];simp[Rq.av,Rq.avs,Prs.rq,g3,g4,g5];exact aQy hB (h6:=hQ)
end
theorem qi1(b:UInt8)(W:World):Calls Tryz.prog 64 #[.int .u8 b.toNat] W fun e w'=>e= .returned (.bool (qdg b))/\w'=W:=by
 go_enter Tryz.func64,Tryz.ntmps64
 have hb:=b.toNat_lt;by_cases h1:48<=b.toNat
 ·by_cases h2:b.toNat<=57
  ·have e1:qdg b=true:=decide_eq_true ⟨h1,h2⟩;rw[e1]
   go_wp2
   go_ret
   exact⟨by first|rfl|(simp<;>omega),rfl⟩
  ·have e1:qdg b=false:=decide_eq_false (fun h=>h2 h.2);rw[e1]
   go_wp2
   go_ret
   exact⟨by first|rfl|(simp<;>omega),rfl⟩
 ·have e1:qdg b=false:=decide_eq_false (fun h=>h1 h.1);rw[e1]
  go_wp2
  go_ret
  exact⟨by first|rfl|(simp<;>omega),rfl⟩
section
variable (E:Env)(H:Hp)(Q:AV->Hp->Prop)
theorem qi0(b:UInt8)(hQ:Q (.bool (qdg b)) H):PC Tryz.prog E 64 [.int .u8 (b.toNat:Int)] H Q:=by
 refine qao (v:= .bool (qdg b)) (by kernel_rfl) (fun _=>True) (fun w hw=>trivial) (fun w β Rd cargs hS hsz hargs=>?_) (.bool _) rfl hQ;obtain⟨u,rfl,hu⟩:=args1 hsz hargs;obtain rfl:=qas hu;refine(qi1 b w).mono ?_;rintro e w' ⟨rfl,rfl⟩;exact⟨_,rfl,Frm.refl _ _,.bool _⟩
theorem qhS(b:UInt8)(hQ:Q (.bool (qcE b)) H):PC Tryz.prog E 65 [.int .u8 (b.toNat:Int)] H Q:=by
 refine qab Tryz.func65 rfl [] [] (by kernel_rfl) (fun hB=>?_);have fin:∀c:Bool,qcE b=c->Q (.bool c) H:=fun c hc=>hc▸hQ;by_cases h1:65<=b.toNat
 ·have t1:(65:Int)<=b.toNat:=by omega
  by_cases h2:b.toNat<=90
  ·have t2:(b.toNat:Int)<=90:=by omega
   simp[Tryz.ntmps65,Tryz.results65,List.replicate_succ,t1,t2];exact aQz hB (h6:=(fin _ (by simp[qcE,h1,h2])))
  ·have t2:¬(b.toNat:Int)<=90:=by omega
   by_cases h3:97<=b.toNat
   ·have t3:(97:Int)<=b.toNat:=by omega
    by_cases h4:b.toNat<=122
    ·have t4:(b.toNat:Int)<=122:=by omega
     simp[Tryz.ntmps65,Tryz.results65,List.replicate_succ,t1,t2,t3,t4];exact aQz hB (h6:=(fin _ (by simp[qcE,h3,h4])))
    ·have t4:¬(b.toNat:Int)<=122:=by omega
     simp[Tryz.ntmps65,Tryz.results65,List.replicate_succ,t1,t2,t3,t4];exact aQz hB (h6:=(fin _ (by simp[qcE,h2,h4])))
   ·have t3:¬(97:Int)<=b.toNat:=by omega
    simp[Tryz.ntmps65,Tryz.results65,List.replicate_succ,t1,t2,t3];exact aQz hB (h6:=(fin _ (by simp[qcE,h2,h3])))
 ·have t1:¬(65:Int)<=b.toNat:=by omega
  have t3:¬(97:Int)<=b.toNat:=by omega
  simp[Tryz.ntmps65,Tryz.results65,List.replicate_succ,t1,t3];exact aQz hB (h6:=(fin _ (by simp[qcE,h1];omega)))
def ql0(b:UInt8)(H:Hp)(fr:List AV)(H':Hp):Prop:=H'=H/\∃i:Nat,i<=15/\(sgs.take i).contains b=false/\∃x:Nat->AV,fr=[.int .u8 (b.toNat:Int),x 1,x 2,.str sgs,.int .i64 i,x 5,x 6,x 7,x 8,x 9,x 10,x 11,x 12,x 13,x 14,x 15,x 16,x 17,x 18,x 19,x 20,x 21]
theorem qkJ(b:UInt8)(hQ:Q (.bool (qaj b)) H):PC Tryz.prog E 48 [.int .u8 (b.toNat:Int)] H Q:=by
 refine qab Tryz.func48 rfl [] [] (by kernel_rfl) (fun hB=>?_);have fin:∀c:Bool,qaj b=c->Q (.bool c) H:=fun c hc=>hc▸hQ;simp[Tryz.ntmps48,Tryz.results48,List.replicate_succ];refine qi0 E _ _ b ?_;cases hd:qdg b
 ·simp;refine qhS E _ _ b ?_;cases hl:qcE b
  ·simp;refine qaG (ql0 b H) (fun fr _=>15-(ai (aget fr 4)).toNat) ⟨rfl,0,by omega,rfl,qal (by simp[sgs])⟩ ?_;rintro fr H' ⟨rfl,i,hi,hall,x,rfl⟩;have hlen:sgs.length=15:=rfl;by_cases h:i<15
   ·obtain⟨c,hc⟩:∃c,sgs[i]? =some c:=⟨_,zqD (by rw[hlen];exact h)⟩
    have hat:=qaP hc;have h15:(i:Int)<15:=by omega
    have hw:IntKind.i64.wrap ((i:Int)+1)=i+1:=wiz;by_cases he:c=b
    ·have t1:((c.toNat:Int)==(b.toNat:Int))=true:=by simp[he]
     simp[hlen,h15,hat,t1];refine aQz hB (h6:=(fin _ ?_));rw[<-qaW,show sgs.contains b=true by rw[List.contains_iff_mem,<-he];exact zqH hc];simp
    ·have t1:((c.toNat:Int)==(b.toNat:Int))=false:=by
      rw[beq_eq_false_iff_ne];intro hh;exact he (UInt8.toNat_inj.1 (by omega))
     simp[hlen,h15,hat,t1,hw];refine Klz ⟨rfl,i+1,by omega,?_,friz⟩;rw[List.take_add_one,hc];simp at hall;simp[hall];exact fun e=>he e.symm
   ·obtain rfl:i=15:=by omega
    simp[hlen];refine aQz hB (h6:=(fin _ ?_));rw[<-qaW,hd,hl];exact hall
  ·simp;refine aQz hB (h6:=(fin _ ?_));rw[<-qaW,hl];simp
 ·simp;refine aQz hB (h6:=(fin _ ?_));rw[<-qaW,hd];simp
def qoy(l:List UInt8)(H:Hp)(fr:List AV)(H':Hp):Prop:=H'=H/\∃i:Nat,i<=l.length/\(l.take i).all qaj=true/\∃x:Nat->AV,fr=[.str l,x 1,x 2,.int .i64 i,x 4,x 5,x 6,x 7,x 8,x 9,x 10,x 11,x 12,x 13,x 14,x 15,x 16]
theorem qiZ(l:List UInt8)(hl:l.length<=cap)(hQ:Q (.bool (tokB l)) H):PC Tryz.prog E 42 [.str l] H Q:=by
 simp only[cap]at hl;refine qab Tryz.func42 rfl [] [] (by kernel_rfl) (fun hB=>?_);have fin:∀c:Bool,tokB l=c->Q (.bool c) H:=fun c hc=>hc▸hQ;simp[Tryz.ntmps42,Tryz.results42,List.replicate_succ];refine qaG (qoy l H) (fun fr _=>l.length-(ai (aget fr 3)).toNat) ⟨rfl,0,by omega,rfl,friz⟩ ?_;rintro fr H' ⟨rfl,i,hi,hall,x,rfl⟩;by_cases h:i<l.length
 ·obtain⟨b,hb⟩:∃b,l[i]? =some b:=⟨_,zqD h⟩
  have hat:=qaP hb;have hw:IntKind.i64.wrap ((i:Int)+1)=i+1:=wiz;simp[h,hat];refine qkJ E _ _ b ?_;cases hf:qaj b
  ·simp[hf];exact aQz hB (h6:=(fin _ (by rw[tokB,qdN qaj l i b hb hf];rfl)))
  ·simp[hf,hw];refine Klz ⟨rfl,i+1,by omega,?_,friz⟩;rw[qbJ qaj l i b hb,hall,hf];rfl
 ·have:l.take i=l:=zqE (by omega);rw[this]at hall;have ht:tokB l=(l !=[]):=by rw[tokB,hall,qfN l 0];simp
  simp[h];exact aQz hB (h6:=(fin _ ht))
end
section
variable (E:Env){H:Hp}(Q:AV->Hp->Prop)
end
section
variable (E:Env){H:Hp}(Q:AV->Hp->Prop)
theorem qpf(s:List UInt8)(hl:s.length<=cap)(hQ:Q (.bool (tokB s&&decide (s.length<=24))) H):PC Tryz.prog E 22 [.str s] H Q:=by
 refine qab Tryz.func22 rfl [] [] (by kernel_rfl) (fun hB=>?_);simp[Tryz.ntmps22,Tryz.results22,List.replicate_succ];refine qiZ E _ _ s hl ?_;cases ht:tokB s with
 |false=>
  rw[ht]at hQ;simp;exact aQz hB (h6:=hQ)
 |true=>
  rw[ht]at hQ;have e:decide ((s.length:Int)<=24)=decide (s.length<=24):=by rw[decide_eq_decide];omega
  rw[Bool.true_and,<-e]at hQ;simp;exact aQz hB (h6:=hQ)
end
end Go.Proofs.YtnnhdehmlkkfjaaGreatDoor
namespace Go.Proofs.YtnnhdehmlkkfjaaGreatDoor
open Go Go.RowKit Go.Proofs Go.Deep
def PZ(E:Env):Prop:=PE E/\SZ E
def qfi(W:World):Prop:=∃m:Int,W.cell? ⟨2,0,none⟩=some (.int .i64 m)
theorem qfJ{W:World}(h:W.ShapedOpen Tryz.prog):qfi W:=
 cell_of_shapedOpen_int (zero:= #[.int .i64 0]) (t:=3) h (of_decide_eq_true (by kernel_rfl)) (by kernel_rfl) rfl (by kernel_rfl) (by kernel_rfl) Tryz.underlying3
theorem qpm{f:FuncId}{args:List AV}{cargs:Array Value}{W:World}(hT:Tabs W)(hM:qfi W)(hsz:cargs.size=args.length)
  (hargs:∀(t:Nat) x u,args[t]? =some x->cargs[t]? =some u->Rel W (fun _=>0) (old W) x u/\Bnd 0 x/\x.free=true)
  (h:∀(E:Env) (Q:AV->Hp->Prop),PZ E->Q (.bool true) []->PC Tryz.prog E f args [] Q):Calls Tryz.prog f cargs W fun e w'=>e= .returned (.bool true)/\Frm (fun _=>False) W w':=by
 obtain⟨m,hm⟩:=hM
 refine qiv (fun b=>b=0\/b=4\/b=1\/b=2)
  (fun b hb=>?_) (old W) (fun _ _ h=>h) hsz hargs
  (fun E Q h0 hf hq=>h E Q ⟨⟨⟨⟨by rw[hf];exact .inl rfl,by rw[h0];exact hT.1⟩,by rw[hf];exact .inr (.inr (.inl rfl)),by rw[h0];exact hT.2.2⟩,⟨by rw[hf];exact .inr (.inr (.inr rfl)),m,by rw[h0];exact hm⟩⟩,⟨by rw[hf];exact .inl rfl,by rw[h0];exact hT.1⟩,by rw[hf];exact .inr (.inl rfl),by rw[h0];exact hT.2.1⟩ hq)
 rcases hb with hb|hb|hb|hb
 ·exact qqS W hT.1 b hb
 ·exact hb▸World.block_lt_of_cell? _ _ hT.2.1
 ·exact hb▸tab_lt hT.2.2
 ·exact hb▸World.block_lt_of_cell? _ _ hm
end Go.Proofs.YtnnhdehmlkkfjaaGreatDoor
namespace Go.Proofs.YtnnhdehmlkkfjaaGreatDoor
open Go Go.RowKit Go.Lib
section
open Go.Lib
variable (E:Env)(H:Hp)(Q:AV->Hp->Prop)
def qoz(n:Int)(H:Hp)(fr:List AV)(H':Hp):Prop:=H'=H/\∃(m:Int) (out:List UInt8),m.natAbs<=n.natAbs/\decD m.natAbs++out=decDigits n.natAbs/\∃x:Nat->AV,fr=[.int .i64 m,x 1,x 2,.bool (decide (n<0)),.str out,x 5,x 6,x 7,x 8,x 9,x 10,x 11,x 12,x 13,x 14,x 15,x 16,x 17,x 18,x 19,x 20,x 21,x 22,x 23,x 24,x 25,x 26,x 27,x 28,x 29,x 30]
theorem qcg(n:Int)(h0: -9223372036854775808<=n)(h1:n<=9223372036854775807)(hQ:Q (.str (itoa n)) H):PC Tryz.prog E 33 [.int .i64 n] H Q:=by
 have hlen:=(qcn n h0 h1).2;refine qab Tryz.func33 rfl [] [] (by kernel_rfl) (fun hB=>?_);by_cases hz:n=0
 ·have e:itoa n=[48]:=by rw[hz];decide+kernel
  rw[e]at hQ;simp[Tryz.ntmps33,Tryz.results33,List.replicate_succ,hz];exact aQz hB (h6:=hQ)
 ·have tz:(n==0)=false:=by simpa using hz
  simp[Tryz.ntmps33,Tryz.results33,List.replicate_succ,tz];refine qaG (qoz n H) (fun fr _=>(ai (aget fr 0)).natAbs) ⟨rfl,n,[],Nat.le_refl _,by unfold decD;rw[if_neg (by omega)];simp,friz⟩ ?_;rintro fr H' ⟨rfl,m,out,hm,hout,x,rfl⟩
  have hol:out.length<=21:=by
   have:=congrArg List.length hout;rw[zqK]at this;omega
  by_cases hmz:m=0
  ·have tm:(m !=0)=false:=by simp[hmz]
   have e:out=decDigits n.natAbs:=by rw[<-hout,hmz];rfl
   have hml:out.length+1<=maxLen/\1+out.length<=maxLen:=by unfold maxLen;omega
   by_cases hn:n<0
   ·have ei:itoa n=45::out:=by unfold itoa;rw[if_pos hn,e]
    rw[ei]at hQ;simp[tm,hn,hml];exact aQz hB (h6:=hQ)
   ·have ei:itoa n=out:=by
     unfold itoa;rw[if_neg hn,e,show n.toNat=n.natAbs by omega]
    rw[ei]at hQ;simp[tm,hn];exact aQz hB (h6:=hQ)
  ·have tm:(m !=0)=true:=by simpa using hmz
   obtain⟨d,hd⟩:=exz (m.tmod 10);obtain⟨q,hq⟩:=exz (m.tdiv 10);have hda:d.natAbs=m.natAbs%10:=by rw[<-hd,Int.natAbs_tmod];rfl
   have hqa:q.natAbs=m.natAbs/10:=by rw[<-hq,Int.natAbs_tdiv];rfl
   have hwq:IntKind.i64.wrap q=q:=wiz;obtain⟨k,hk⟩:=exz (m.natAbs%10);have hk10:k<10:=by rw[<-hk];exact Nat.mod_lt _ (by omega)
   have hw48:IntKind.i64.wrap (48+(k:Int))=48+k:=wiz;have hu8:=qog k hk10;have c1:(0:Int)<=48+k:=by omega
   have c2:(48:Int)+k<256:=by omega
   have htn:((48:Int)+k).toNat=48+k:=by omega
   have hml:out.length+1<=maxLen/\1+out.length<=maxLen:=by unfold maxLen;omega
   have hst:=qng m.natAbs (by omega);rw[hk,<-hqa]at hst;have hnext:decD q.natAbs++(dgB k::out)=decDigits n.natAbs:=by rw[<-hout,hst];simp
   by_cases hneg:d<0
   ·have hnd:IntKind.i64.wrap (-d)=k:=by rw[qax (by omega) (by omega)];omega
    have hnd2:IntKind.i64.wrap (0-d)=k:=by rw[qax (by omega) (by omega)];omega
    simp[tm,hd,hneg,hnd,hnd2,hw48,hu8,c1,c2,htn,hml,hq,hwq];exact Klz ⟨rfl,q,dgB k::out,by omega,hnext,qal (by simp[dgB])⟩
   ·have hdk:d=k:=by omega
    simp[tm,hd,hneg,hdk,hw48,hu8,c1,c2,htn,hml,hq,hwq];exact Klz ⟨rfl,q,dgB k::out,by omega,hnext,qal (by simp[dgB])⟩
end
end Go.Proofs.YtnnhdehmlkkfjaaGreatDoor
namespace Go.Proofs.YtnnhdehmlkkfjaaGreatDoor
open Go Go.RowKit Go.Proofs
theorem qmC(out:List (List UInt8))(x:List UInt8):qbA (out++[x])=qbA out++(if(qaL x).isEmpty then []else [qaL x]):=by
 cases h:(qaL x).isEmpty<;>simp[qbA,h]
section
variable (E:Env)(H:Hp)(Q:AV->Hp->Prop)
theorem qjl(l:List Fld)(n:List UInt8)(hl:fsz l+l.length<=16777216)(hn:n.length<=cap)(hQ:Q (.sl false 1 (strs (allB l n))) H):PC Tryz.prog E 95 [.sl false 2 (flds l),.str n] H Q:=by
 refine qab Tryz.func95 rfl [18] [] (by kernel_rfl) (fun hB=>?_);simp[Tryz.ntmps95,Tryz.results95,List.replicate_succ];refine qes 5 1 (by rfl) ?_;simp only[List.set_cons_succ,List.set_cons_zero];refine qaG (qp2 l n H) (fun fr _=>l.length-(ai (aget fr 10)).toNat) ⟨[],0,by simp,by omega,qal (by simp[allB,strs])⟩ ?_;rintro fr H' ⟨J,i,rfl,hi,x,rfl⟩;by_cases h:i<l.length
 ·obtain⟨f,hf⟩:∃f,l[i]? =some f:=⟨_,zqD h⟩
  have hat:=qco hf;have hfm:=qdh hf;have hw:IntKind.i64.wrap ((i:Int)+1)=i+1:=wiz;have hst:=qiB l n i f hf;have hal:=qkp (l.take i) n;rw[zqJ]at hal;simp[h,hat];refine qnj E _ _ f.name n (by simp only[cap];omega) hn ?_;cases he:qja f.name n with
  |false=>
   rw[if_neg (by rw[he];simp),List.append_nil]at hst;simp[hw];exact Klz ⟨_,i+1,rfl,by omega,qal (by simp[hst])⟩
  |true=>
   rw[if_pos he]at hst;have m1:(allB (l.take i) n).length+1<=maxLen:=by unfold maxLen;omega
   have m2:((allB (l.take i) n).length+1)*16<=140737488355328:=by omega
   have hsn:=qft (allB (l.take i) n) f.value;rw[<-hst]at hsn;simp[m1,m2,hsn,hw];exact Klz ⟨_,i+1,rfl,by omega,friz⟩
 ·obtain rfl:i=l.length:=by omega
  simp;exact qac hB (v0:= .sl false 1 (strs (allB l n))) (by simp) (qaa _) (by simp[qbZ]) hQ
def elInv(l:List UInt8)(H:Hp)(fr:List AV)(H':Hp):Prop:=H'=H/\∃(f i:Nat) (out:List (List UInt8)),((f<=i/\i<=l.length/\out.length<=i/\qeK l out f i)\/(i=l.length+1/\cut [] l=some out))/\
 ∃x:Nat->AV,fr=[.str l,x 1,x 2,x 3,.sl true 1 (strs (qbA out)),.int .i64 f,.int .i64 i,x 7,x 8,x 9,x 10,x 11,x 12,x 13,x 14,x 15,x 16,x 17,x 18,x 19,x 20,x 21,x 22,x 23,x 24,x 25,x 26,x 27,x 28,x 29,x 30,x 31,x 32,x 33,x 34,x 35,x 36,x 37,x 38,x 39,x 40,x 41,x 42,x 43,x 44,x 45,x 46,x 47,x 48,x 49,x 50,x 51,x 52,x 53,x 54,x 55,x 56,x 57,x 58]
theorem qnd(l:List UInt8)(hl:l.length<=16777216)(hQ1:qc8 l=none->Q (.tup [.sl false 1 [],.bool false]) H)(hQ2:∀y,qc8 l=some y->Q (.tup [.sl false 1 (strs y),.bool true]) H):PC Tryz.prog E 142 [.str l] H Q:=by
 refine qab Tryz.func142 rfl [52] [] (by kernel_rfl) (fun hB=>?_);simp[Tryz.ntmps142,Tryz.results142,List.replicate_succ];refine qes 4 1 (by rfl) ?_;simp only[List.set_cons_succ,List.set_cons_zero];refine qaG (elInv l H) (fun fr _=>l.length+1-(ai (aget fr 6)).toNat) ⟨rfl,0,0,[],.inl ⟨by omega,by omega,by simp,qf3 l⟩,qal (by simp[strs,qbA])⟩ ?_;rintro fr H' ⟨rfl,f,i,out,⟨hf,hi,hout,hc⟩|⟨rfl,hc⟩,x,rfl⟩
 ·have hkl:=qhb out;have hm:(qbA out).length+1<=maxLen/\((qbA out).length+1)*16<=140737488355328:=by unfold maxLen;omega
  have hle:(i:Int)<=l.length:=by omega
  have hw:IntKind.i64.wrap ((i:Int)+1)=i+1:=wiz;have pl:((l.drop f).take (i-f)).length<=cap:=by rw[zqJ,zqI];simp only[cap];omega
  have hst:=qmC out ((l.drop f).take (i-f));by_cases h:i<l.length;rotate_left
  ·obtain rfl:i=l.length:=by omega
   have hcut:=qis hc hf (Nat.le_refl _);have hsl:(l.drop f).take (l.length-f)=l.drop f:=zqE (by rw[zqI];omega);rw[hsl]at hcut pl hst;simp[hf,hsl];refine qdH E _ _ _ pl ?_;cases ht:(qaL (l.drop f)).isEmpty
   ·have hne:(qaL (l.drop f) !=[])=true:=by rw[qfN _ 0,ht];rfl
    rw[ht]at hst;have hsn:=qft (qbA out) (qaL (l.drop f));simp[hne,hm,hw];exact qaC ⟨rfl,l.length+1,l.length+1,_,.inr ⟨rfl,hcut⟩,qal (by rw[hst];simp[strs])⟩ (by simp)
   ·have hne:(qaL (l.drop f) !=[])=false:=by rw[qfN _ 0,ht];rfl
    rw[ht]at hst;simp[hne,hw];exact qaC ⟨rfl,l.length+1,l.length+1,_,.inr ⟨rfl,hcut⟩,qal (by rw[hst];simp[strs])⟩ (by simp)
  obtain⟨b,hb⟩:∃b,l[i]? =some b:=⟨_,zqD h⟩
  have hat:=qaP hb;have hbn:=b.toNat_lt;have t1:((i:Int)==(l.length:Int))=false:=by simp;omega
  by_cases b34:b.toNat=34
  ·have hx34:b=34:=UInt8.toNat_inj.1 b34;have hb':l[i]? =some 34:=by rw[hb,hx34]
   have t2:((b.toNat:Int)==34)=true:=by simp;omega
   have hd:(l.drop i).take (l.length-i)=l.drop i:=zqE (by rw[zqI];omega);simp[h,hat,t2,hd,hi];refine ql1 E _ _ (l.drop i) (by rw[zqI];omega) (by rw[zqN];exact hb') ?_;cases hu:unquote (l.drop i)with
   |none=>
    have ha:qaS (l.drop i)=([],0,13):=by unfold qaS;rw[hu]
    have hbad:=qit hc hf hb' hu;simp[ha];exact qap hB (v0:= .tup [.nil,.bool false]) (by simp) (qbu 1 _ rfl) (by simp) (hQ1 (by unfold qc8;rw[hbad];rfl))
   |some p=>
    obtain⟨y,k⟩:=p;have ha:qaS (l.drop i)=(y,(k:Int),0):=by unfold qaS;rw[hu]
    have hk:=qby hu;rw[zqI]at hk;have hk0:((k:Int)==0)=false:=by rw[beq_eq_false_iff_ne];omega
    have hw1:IntKind.i64.wrap ((k:Int)-1)=(k:Int)-1:=wiz;have hw2:IntKind.i64.wrap ((i:Int)+((k:Int)-1))=(i:Int)+((k:Int)-1):=wiz;have hw3:IntKind.i64.wrap ((i:Int)+((k:Int)-1)+1)=((i+k:Nat):Int):=by rw[qax (by omega) (by omega)];omega
    simp[ha,hk0,hw1,hw2,hw3];exact Klz ⟨rfl,f,i+k,out,.inl ⟨by omega,by omega,by omega,qf4 hc hf hb' hu⟩,friz⟩
  ·have t2:((b.toNat:Int)==34)=false:=by simp;omega
   have ne34:b≠34:=by rintro rfl;exact b34 rfl
   by_cases b44:b.toNat=44
   ·have hx44:b=44:=UInt8.toNat_inj.1 b44;have hb':l[i]? =some 44:=by rw[hb,hx44]
    have t3:((b.toNat:Int)==44)=true:=by simp;omega
    have hcm:=qf6 hc hf hb';simp[h,hat,t1,t2,t3,hf,hi];refine qdH E _ _ _ pl ?_;cases ht:(qaL ((l.drop f).take (i-f))).isEmpty
    ·have hne:(qaL ((l.drop f).take (i-f)) !=[])=true:=by rw[qfN _ 0,ht];rfl
     rw[ht]at hst;simp[hne,hm,hw];exact Klz ⟨rfl,i+1,i+1,_,.inl ⟨by omega,by omega,by simp;omega,hcm⟩,qal (by rw[hst];simp[strs])⟩
    ·have hne:(qaL ((l.drop f).take (i-f)) !=[])=false:=by rw[qfN _ 0,ht];rfl
     rw[ht]at hst;simp[hne,hw];exact Klz ⟨rfl,i+1,i+1,_,.inl ⟨by omega,by omega,by simp;omega,hcm⟩,qal (by rw[hst];simp[strs])⟩
   ·have t3:((b.toNat:Int)==44)=false:=by simp;omega
    have ne44:b≠44:=by rintro rfl;exact b44 rfl
    simp[h,hi,hat,t1,t2,t3,hw];exact Klz ⟨rfl,f,i+1,out,.inl ⟨by omega,by omega,by omega,qf5 hc hf hb ne44 ne34⟩,friz⟩
 ·have hgt:¬((l.length:Int)+1<=l.length):=by omega
  have hq:=hQ2 (qbA out) (by unfold qc8;rw[hc];rfl);simp[hgt];exact qap hB (v0:= .tup [.sl false 1 (strs (qbA out)),.bool true]) (by simp) (qaa _) (by simp[qbZ]) hq
def dlInv(vs:List (List UInt8))(H:Hp)(fr:List AV)(H':Hp):Prop:=H'=H/\∃(i:Nat) (acc:List (List UInt8)),i<=vs.length/\qaM (vs.take i)=some acc/\
 ∃x:Nat->AV,fr=[x 0,x 1,x 2,x 3,x 4,x 5,.sl true 1 (strs acc),x 7,x 8,x 9,x 10,x 11,x 12,.sl false 1 (strs vs),.int .i64 vs.length,.int .i64 i,x 16,x 17,x 18,x 19,x 20,x 21,x 22,x 23,x 24,x 25,x 26,x 27,x 28,x 29,x 30]
theorem qkc(l:List Fld)(n:List UInt8)(hl:fsz l+l.length<=4194304)(hn:n.length<=cap)(hQ:Q (.tup [.sl false 1 (strs (qci l n).1),.int .i64 (qci l n).2]) H):PC Tryz.prog E 115 [.sl false 2 (flds l),.str n] H Q:=by
 have hvz:=qcL l n
 have q1:qaM (allB l n)=none->Q (.tup [.sl false 1 [],.int .i64 14]) H:=fun h=>by
  have:qci l n=([],14):=by unfold qci;rw[h]
  rw[this]at hQ;exact hQ
 have q2:∀acc,qaM (allB l n)=some acc->Q (.tup [.sl false 1 (strs acc),.int .i64 0]) H:=fun acc h=>by
  have:qci l n=(acc,0):=by unfold qci;rw[h]
  rw[this]at hQ;exact hQ
 refine qab Tryz.func115 rfl [26] [] (by kernel_rfl) (fun hB=>?_);simp[Tryz.ntmps115,Tryz.results115,List.replicate_succ];refine qjl E _ _ l n (by omega) hn ?_
 generalize allB l n=vs at*
 have hvl:=qlC vs;simp;refine qes 6 1 (by rfl) ?_;simp only[List.set_cons_succ,List.set_cons_zero];refine qaG (dlInv vs H) (fun fr _=>vs.length-(ai (aget fr 15)).toNat) ⟨rfl,0,[],by omega,rfl,qal (by simp[strs])⟩ ?_;rintro fr H' ⟨rfl,i,acc,hi,hacc,x,rfl⟩;have hlen:=qbq _ _ hacc;have hvt:=qjE vs i;by_cases h:i<vs.length
 ·obtain⟨s,hs⟩:∃s,vs[i]? =some s:=⟨_,zqD h⟩
  have hat:=qcN hs;have hsz:=qlB hs;have hw:IntKind.i64.wrap ((i:Int)+1)=i+1:=wiz;simp[h,hat];refine qnd E _ _ s (by omega) (fun hb=>?_) (fun y hb=>?_)
  ·simp;exact qap hB (v0:= .tup [.nil,.int .i64 14]) (by simp) (qbu 1 _ rfl) (by simp) (q1 (qfK hs hb))
  ·have hyl:=qfM hb;have hst:=qfL hs hacc hb;have m1:acc.length+y.length<=maxLen:=by unfold maxLen;omega
   have m2:(acc.length+y.length)*16<=140737488355328:=by omega
   have hsa:strs acc++strs y=strs (acc++y):=by simp[strs]
   simp[m1,m2,hsa,hw];exact Klz ⟨rfl,i+1,acc++y,by omega,hst,friz⟩
 ·obtain rfl:i=vs.length:=by omega
  rw[zqE (Nat.le_refl _)]at hacc;simp;exact qap hB (v0:= .tup [.sl false 1 (strs acc),.int .i64 0]) (by simp) (qaa _) (by simp[qbZ]) (q2 acc hacc)
def dtInv(acc:List (List UInt8))(H:Hp)(fr:List AV)(H':Hp):Prop:=H'=H/\∃i:Nat,i<=acc.length/\(acc.take i).all tokB=true/\
 ∃x:Nat->AV,fr=[x 0,x 1,x 2,x 3,x 4,x 5,x 6,x 7,.sl true 1 (strs ((acc.take i).map low)),x 9,x 10,x 11,x 12,x 13,x 14,x 15,x 16,x 17,x 18,x 19,.sl false 1 (strs acc),.int .i64 acc.length,.int .i64 i,x 23,x 24,x 25,x 26,x 27,x 28,x 29,x 30,x 31,x 32,x 33,x 34,x 35]
theorem qk6(l:List Fld)(n:List UInt8)(hl:fsz l+l.length<=4194304)(hn:n.length<=cap)(hQ:Q (.tup [.sl false 1 (strs (qbw l n).1),.int .i64 (qbw l n).2]) H):PC Tryz.prog E 96 [.sl false 2 (flds l),.str n] H Q:=by
 have hvz:=qcL l n;refine qab Tryz.func96 rfl [29] [] (by kernel_rfl) (fun hB=>?_);simp[Tryz.ntmps96,Tryz.results96,List.replicate_succ];refine qkc E _ _ l n hl hn ?_;cases hacc:qaM (allB l n)with
 |none=>
  have e1:qci l n=([],14):=by unfold qci;rw[hacc]
  have e2:qbw l n=([],14):=by unfold qbw;rw[hacc]
  rw[e2]at hQ;rw[e1];simp;exact qap hB (v0:= .tup [.nil,.int .i64 14]) (by simp) (qbu 1 _ rfl) (by simp) hQ
 |some acc=>
  have e1:qci l n=(acc,0):=by unfold qci;rw[hacc]
  have e2:qbw l n=if acc.all tokB=true then(acc.map low,0)else([],10):=by unfold qbw;rw[hacc]
  have hmem:=qcB _ _ hacc;have hlen:=qbq _ _ hacc;rw[e2]at hQ;rw[e1];clear e1 e2 hacc;simp;refine qes 8 1 (by rfl) ?_;simp only[List.set_cons_succ,List.set_cons_zero];refine qaG (dtInv acc H) (fun fr _=>acc.length-(ai (aget fr 22)).toNat) ⟨rfl,0,by omega,by simp,qal (by simp[strs])⟩ ?_;rintro fr H' ⟨rfl,i,hi,hall,x,rfl⟩;by_cases h:i<acc.length
  ·obtain⟨u,hu⟩:∃u,acc[i]? =some u:=⟨_,zqD h⟩
   have hat:=qcN hu;have hw:IntKind.i64.wrap ((i:Int)+1)=i+1:=wiz;have hul:=hmem u (zqH hu);simp[h,hat];refine qeT E _ _ u (by simp only[cap];omega) ?_;cases ht:tokB u with
   |false=>
    have e:acc.all tokB=false:=qcl tokB acc i u hu ht;rw[if_neg (by rw[e];simp)]at hQ;simp;exact qap hB (v0:= .tup [.nil,.int .i64 10]) (by simp) (qbu 1 _ rfl) (by simp) hQ
   |true=>
    simp;refine qcf E _ _ u (by simp only[cap];omega) ?_;have m1:(List.take i acc).length+1<=maxLen:=by rw[zqJ];unfold maxLen;omega
    have m2:((List.take i acc).length+1)*16<=140737488355328:=by rw[zqJ];omega
    rw[zqJ,Nat.min_eq_left hi]at m1 m2
    have hst:strs ((acc.take i).map low)++[[.str (low u)]]=strs ((acc.take (i+1)).map low):=by
     rw[List.take_add_one,hu];simp[strs]
    have hmin:min i acc.length=i:=Nat.min_eq_left hi;simp[m1,m2,hmin,hw];exact Klz ⟨rfl,i+1,by omega,by rw[qbv tokB acc i u hu,hall,ht];rfl,qal (by rw[<-hst];simp)⟩
  ·obtain rfl:i=acc.length:=by omega
   rw[zqE (Nat.le_refl _)]at hall;rw[if_pos hall]at hQ;simp;exact qap hB (v0:= .tup [.sl false 1 (strs (acc.map low)),.int .i64 0]) (by simp) (qaa _) (by simp[qbZ]) hQ
end
theorem qkd:∀n,n<256->(let b:=UInt8.ofNat n;(48<=b.toNat/\b.toNat<=57->dig b=(b.toNat:Int)-48)/\(¬(48<=b.toNat/\b.toNat<=57)->¬(0<=dig b/\dig b<10))):=by decide
theorem qq7{b:UInt8}(h:48<=b.toNat/\b.toNat<=57):dig b=(b.toNat:Int)-48:=by
 have:=qkd b.toNat b.toNat_lt;simp at this;exact this.1 h.1 h.2
theorem dig_no{b:UInt8}(h:¬(48<=b.toNat/\b.toNat<=57)):¬(0<=dig b/\dig b<10):=by
 have:=(qkd b.toNat b.toNat_lt).2 (by simpa using h);simpa using this
def qpg(p:List UInt8)(n:Int):Prop:=qbR 10 p=true/\((n<=1099511627776/\n=qcy 10 p)\/(1099511627776<n/\1099511627776<qcy 10 p))/\0<=n/\n<=10995116277769
theorem qk9{l:List UInt8}{i:Nat}{b:UInt8}{n:Int}(h:qpg (l.take i) n)(hb:l[i]? =some b)(hd:48<=b.toNat/\b.toNat<=57):
  qpg (l.take (i+1)) (if n<=1099511627776 then 10*n+((b.toNat:Int)-48)else n):=by
 obtain⟨h1,h2,h3,h4⟩:=h;have hs:=qeE 10 l i b hb;have ho:=qdI 10 l i b hb;have hdg:=qq7 hd;have hn0:=qbp 10 (by omega) (l.take i) h1;rw[hdg]at hs ho;refine⟨?_,?_,?_,?_⟩
 ·rw[ho,h1,decide_eq_true (by omega)];rfl
 ·rcases h2 with⟨h5,h6⟩|⟨h5,h6⟩
  ·rw[if_pos h5];by_cases hm:10*n+((b.toNat:Int)-48)<=1099511627776
   ·exact .inl ⟨hm,by rw[hs,<-h6];omega⟩
   ·exact .inr ⟨by omega,by rw[hs,<-h6];omega⟩
  ·rw[if_neg (by omega)];exact .inr ⟨h5,by rw[hs];omega⟩
 ·split<;>omega
 ·split<;>omega
theorem qnf{l:List UInt8}{n:Int}(h:qpg l n):decA l=if l=[]\/1099511627776<n then-1 else n:=by
 obtain⟨h1,h2,h3,h4⟩:=h;by_cases hl:l=[]
 ·rw[if_pos (.inl hl),hl];decide
 rcases h2 with⟨h5,h6⟩|⟨h5,h6⟩
 ·have e:qah 10 1099511627776 l=(qcy 10 l,0):=by
   unfold qah;rw[if_neg hl,if_neg (by rw[h1];simp),if_neg (by omega)]
  rw[qnh (by rw[e]),e,if_neg (by rintro(h|h);exact hl h;omega),h6]
 ·have e:qah 10 1099511627776 l=(0,12):=by
   unfold qah;rw[if_neg hl,if_neg (by rw[h1];simp),if_pos (.inr h6)]
  rw[qho (by rw[e];decide),if_pos (.inr h5)]
theorem qke{l:List UInt8}{i:Nat}{b:UInt8}(hb:l[i]? =some b)(hd:¬(48<=b.toNat/\b.toNat<=57)):decA l= -1:=by
 apply qho;have hne:l≠[]:=fun e=>by rw[e]at hb;simp at hb
 unfold qah;rw[if_neg hne,if_pos (qeD 10 l i b hb (dig_no hd))];decide
section
variable (E:Env)(H:Hp)(Q:AV->Hp->Prop)
def ddcInv(l:List UInt8)(H:Hp)(fr:List AV)(H':Hp):Prop:=H'=H/\∃(i:Nat) (n:Int),i<=l.length/\qpg (l.take i) n/\∃x:Nat->AV,fr=[.str l,x 1,x 2,.int .i64 n,.int .i64 i,x 5,x 6,x 7,x 8,x 9,x 10,x 11,x 12,x 13,x 14,x 15,x 16,x 17,x 18,x 19,x 20,x 21,x 22,x 23,x 24,x 25,x 26,x 27,x 28,x 29,x 30,x 31,x 32,x 33,x 34,x 35,x 36,x 37]
theorem qcY(l:List UInt8)(hl:l.length<=cap)(hQ:Q (.int .i64 (decA l)) H):PC Tryz.prog E 116 [.str l] H Q:=by
 simp only[cap]at hl;have fin:∀a:Int,decA l=a->Q (.int .i64 a) H:=fun a ha=>ha▸hQ;refine qab Tryz.func116 rfl [] [] (by kernel_rfl) (fun hB=>?_);simp[Tryz.ntmps116,Tryz.results116,List.replicate_succ];refine qaG (ddcInv l H) (fun fr _=>l.length-(ai (aget fr 4)).toNat) ⟨rfl,0,0,by omega,⟨rfl,.inl ⟨by omega,rfl⟩,by omega,by omega⟩,friz⟩ ?_;rintro fr H' ⟨rfl,i,n,hi,hn,x,rfl⟩;obtain⟨_,_,n0,n1⟩:=id hn;by_cases h:i<l.length
 ·obtain⟨b,hb⟩:∃b,l[i]? =some b:=⟨_,zqD h⟩
  have hat:=qaP hb;have hbn:=b.toNat_lt;have hw:IntKind.i64.wrap ((i:Int)+1)=i+1:=wiz;by_cases h48:(b.toNat:Int)<48
  ·simp[h,hat,h48];exact aQz hB (h6:=(fin _ (qke hb (by omega))))
  by_cases h57:(57:Int)<b.toNat
  ·simp[h,hat,h48,h57];exact aQz hB (h6:=(fin _ (qke hb (by omega))))
  have hst:=qk9 hn hb (by omega)
  have w1:IntKind.u8.wrap ((b.toNat:Int)-48)=(b.toNat:Int)-48:=by
   unfold IntKind.wrap;simp[IntKind.signed,IntKind.bits,IntKind.min];omega
  by_cases hM:n<=1099511627776
  ·rw[if_pos hM]at hst;have w2:IntKind.i64.wrap (10*n)=10*n:=wiz;have w3:IntKind.i64.wrap ((b.toNat:Int)-48)=(b.toNat:Int)-48:=wiz;have w4:IntKind.i64.wrap (10*n+((b.toNat:Int)-48))=10*n+((b.toNat:Int)-48):=wiz;simp[h,hat,h48,h57,hM,w1,w2,w3,w4,hw];exact Klz ⟨rfl,i+1,_,by omega,hst,friz⟩
  ·rw[if_neg hM]at hst;simp[h,hat,h48,h57,hM,hw];exact Klz ⟨rfl,i+1,_,by omega,hst,friz⟩
 ·obtain rfl:i=l.length:=by omega
  rw[zqE (Nat.le_refl _)]at hn;have he:=qnf hn;by_cases h0:l=[]
  ·rw[if_pos (.inl h0)]at he;have h0':(l==[])=true:=by rw[h0];rfl
   simp[h0'];exact aQz hB (h6:=(fin _ he))
  have h0':(l==[])=false:=by simpa using h0
  by_cases hM:1099511627776<n
  ·rw[if_pos (.inr hM)]at he;simp[h0',hM];exact aQz hB (h6:=(fin _ he))
  ·rw[if_neg (by rintro(h|h);exact h0 h;exact hM h)]at he;simp[h0',hM];exact aQz hB (h6:=(fin _ he))
def dlnInv(acc:List (List UInt8))(m:Int)(H:Hp)(fr:List AV)(H':Hp):Prop:=H'=H/\∃i:Nat,i<=acc.length/\(∀y∈acc.take i,decA y=m)/\(0<i->0<=m)/\
 ∃x:Nat->AV,fr=[x 0,x 1,x 2,x 3,x 4,.sl false 1 (strs acc),x 6,x 7,x 8,x 9,x 10,x 11,x 12,x 13,x 14,x 15,x 16,x 17,x 18,x 19,x 20,x 21,x 22,x 23,x 24,.sl false 1 (strs acc),.int .i64 acc.length,.int .i64 i,x 28,x 29,x 30,x 31,x 32,x 33,x 34,x 35,x 36,x 37,x 38,x 39,x 40,x 41,x 42,x 43,x 44,x 45,x 46,x 47]
theorem qgK(l:List Fld)(hl:fsz l+l.length<=4194304)(hQ:Q (.tup [.int .i64 (qat l).1,.bool (qat l).2.1,.int .i64 (qat l).2.2]) H):PC Tryz.prog E 83 [.sl false 2 (flds l)] H Q:=by
 have fin:∀a:Int×Bool×Int,qat l=a->Q (.tup [.int .i64 a.1,.bool a.2.1,.int .i64 a.2.2]) H:=fun a ha=>ha▸hQ;have hcn:nCL.length<=cap:=by simp[nCL,cap]
 have hvz:=qcL l nCL;refine qab Tryz.func83 rfl [] [(9,[0,0,0,0,0,1])] (by kernel_rfl) (fun hB=>?_);simp[Tryz.ntmps83,Tryz.results83,List.replicate_succ];refine qjl E _ _ l nCL (by omega) hcn ?_;by_cases h0:allB l nCL=[]
 ·have hs0:strs ([]:List (List UInt8))=[]:=rfl;simp[h0,hs0];exact aQz hB (h6:=(fin _ (by unfold qat;rw[if_pos h0]:qat l=(0,false,0))))
 have h0':(((allB l nCL).length:Int)==0)=false:=by
  rw[beq_eq_false_iff_ne];intro e;exact h0 (List.length_eq_zero_iff.1 (by omega))
 simp[h0'];refine qkc E _ _ l nCL hl hcn ?_;cases hacc:qaM (allB l nCL)with
 |none=>
  have e1:qci l nCL=([],14):=by unfold qci;rw[hacc]
  have e2:qat l=(0,false,66):=by unfold qat;rw[if_neg h0,hacc]
  rw[e1];simp;exact aQz hB (h6:=(fin _ e2))
 |some acc=>
  have e1:qci l nCL=(acc,0):=by unfold qci;rw[hacc]
  have hmem:=qcB _ _ hacc;have hlen:=qbq _ _ hacc;rw[e1];cases acc with
  |nil=>
   have e2:qat l=(0,false,66):=by unfold qat;rw[if_neg h0,hacc]
   have hs0:strs ([]:List (List UInt8))=[]:=rfl;simp[hs0];exact aQz hB (h6:=(fin _ e2))
  |cons w r=>
   have e2:qat l=if decA w<0\/(r.all fun y=>decide (decA y=decA w))=false then(0,false,66)else(decA w,true,0):=by unfold qat;rw[if_neg h0,hacc]
   obtain⟨acc,ha⟩:=exz (w::r);have hw0:acc[0]? =some w:=by rw[<-ha];rfl
   have hat0:=qcN hw0;have hpos:0<acc.length:=by rw[<-ha];simp
   have hne:((acc.length:Int)==0)=false:=by rw[beq_eq_false_iff_ne];omega
   have hbad:∀y∈acc,(decA y<0\/decA y≠decA w)->qat l=(0,false,66):=fun y hy hb=>by
    rw[e2];apply if_pos;by_cases hlt:decA w<0
    ·exact .inl hlt
    right;rw[<-ha]at hy;rcases List.mem_cons.1 hy with rfl|hy
    ·rcases hb with hb|hb
     ·exact absurd hb hlt
     ·exact absurd rfl hb
    ·rw[List.all_eq_false];refine⟨y,hy,?_⟩;simp only[decide_eq_true_eq];rcases hb with hb|hb
     ·omega
     ·exact hb
   have hgood:(∀y∈acc,decA y=decA w)->0<=decA w->qat l=(decA w,true,0):=fun h1 h2=>by
    rw[e2];apply if_neg;rintro(h|h)
    ·omega
    ·rw[List.all_eq_false]at h;obtain⟨y,hy,hh⟩:=h;exact hh (by simpa using h1 y (by rw[<-ha];exact List.mem_cons_of_mem _ hy))
   rw[ha]at hmem hlen⊢;have hwl:=hmem w (zqH hw0);clear e2 hacc e1;simp[hne];refine qaG (dlnInv acc (decA w) H) (fun fr _=>acc.length-(ai (aget fr 27)).toNat) ⟨rfl,0,by omega,by simp,by omega,friz⟩ ?_;rintro fr H' ⟨rfl,i,hi,hall,hm0,x,rfl⟩;by_cases h:i<acc.length
   ·obtain⟨u,hu⟩:∃u,acc[i]? =some u:=⟨_,zqD h⟩
    have hat:=qcN hu;have hum:=zqH hu;have hul:=hmem u hum;have hw:IntKind.i64.wrap ((i:Int)+1)=i+1:=wiz;simp[h,hat,hat0,hpos];refine qcY E _ _ u (by simp only[cap];omega) ?_;by_cases hneg:decA u<0
    ·simp[hneg];exact aQz hB (h6:=(fin _ (hbad u hum (.inl hneg))))
    simp[hneg,hat0,hpos];refine qcY E _ _ u (by simp only[cap];omega) ?_;simp[hat0,hpos];refine qcY E _ _ w (by simp only[cap];omega) ?_;by_cases heq:decA u=decA w
    ·simp[heq,hw];refine Klz ⟨rfl,i+1,by omega,fun y hy=>?_,fun _=>by omega,friz⟩;rw[List.take_add_one,hu]at hy;rcases List.mem_append.1 hy with hy|hy
     ·exact hall y hy
     ·simp at hy;subst hy;exact heq
    ·have heq':(decA u !=decA w)=true:=by simpa using heq
     simp[heq'];exact aQz hB (h6:=(fin _ (hbad u hum (.inr heq))))
   ·obtain rfl:i=acc.length:=by omega
    rw[zqE (Nat.le_refl _)]at hall;have hres:=hgood hall (hm0 hpos);simp[hat0,hpos];refine qcY E _ _ w (by simp only[cap];omega) ?_;simp;exact aQz hB (h6:=(fin _ hres))
theorem qjk(l:List Fld)(hl:fsz l+l.length<=4194304)(hQ:Q (.tup [.sl false 1 (strs (qau l).1),.bool (qau l).2.1,.int .i64 (qau l).2.2]) H):PC Tryz.prog E 82 [.sl false 2 (flds l)] H Q:=by
 refine qab Tryz.func82 rfl [] [] (by kernel_rfl) (fun hB=>?_);have fin:∀a:List (List UInt8)×Bool×Int,qau l=a->Q (.tup [.sl false 1 (strs a.1),.bool a.2.1,.int .i64 a.2.2]) H:=fun a ha=>ha▸hQ;have hcn:nTE.length<=cap:=by simp[nTE,cap]
 simp[Tryz.ntmps82,Tryz.results82,List.replicate_succ];refine qjl E _ _ l nTE (by omega) hcn ?_;by_cases h0:allB l nTE=[]
 ·have e:qau l=([],false,0):=by unfold qau;rw[if_pos h0]
  have hs0:strs ([]:List (List UInt8))=[]:=rfl;simp[h0,hs0];exact qap hB (v0:= .tup [.nil,.bool false,.int .i64 0]) (by simp) (qde 1 _ _ rfl rfl) (by simp) (fin _ e)
 have h0':(((allB l nTE).length:Int)==0)=false:=by
  rw[beq_eq_false_iff_ne];intro e;exact h0 (List.length_eq_zero_iff.1 (by omega))
 simp[h0'];refine qk6 E _ _ l nTE hl hcn ?_;by_cases he:(qbw l nTE).2=0
 ·have e:qau l=((qbw l nTE).1,true,0):=by unfold qau;rw[if_neg h0,if_pos he]
  simp[he];exact qap hB (v0:= .tup [.sl false 1 (strs (qbw l nTE).1),.bool true,.int .i64 0]) (by simp) (qaa _) (by simp[qbZ]) (fin _ e)
 ·have e:qau l=([],false,67):=by unfold qau;rw[if_neg h0,if_neg he]
  have he2:((qbw l nTE).2 !=0)=true:=by simpa using he
  simp[he2];exact qap hB (v0:= .tup [.nil,.bool false,.int .i64 67]) (by simp) (qde 1 _ _ rfl rfl) (by simp) (fin _ e)
theorem qfY(l:List Fld)(old:Bool)(hl:fsz l+l.length<=4194304)(hQ:Q (.tup [.int .i64 (qaJ l old).1,.int .i64 (qaJ l old).2.1,.int .i64 (qaJ l old).2.2]) H):PC Tryz.prog E 58 [.sl false 2 (flds l),.bool old] H Q:=by
 have fin:∀a:Int×Int×Int,qaJ l old=a->Q (.tup [.int .i64 a.1,.int .i64 a.2.1,.int .i64 a.2.2]) H:=fun a ha=>ha▸hQ;have hcl:=qkh l hl;refine qab Tryz.func58 rfl [] [] (by kernel_rfl) (fun hB=>?_);simp[Tryz.ntmps58,Tryz.results58,List.replicate_succ];refine qjk E _ _ l hl ?_;obtain⟨⟨cs,cd,ce⟩,hC⟩:=exz (qau l);obtain⟨⟨n,tl,f⟩,hL⟩:=exz (qat l);have hF:=qgI (old:=old) hC hL;rw[hC]at hcl;rw[hC];simp only at hcl⊢;by_cases h1:ce=0;rotate_left
 ·rw[if_pos (.inl h1)]at hF;have h1':(ce !=0)=true:=by simpa using h1
  simp[h1'];exact aQz hB (h6:=(fin _ hF))
 subst h1;cases cd with
 |true=>
  cases old with
  |true=>
   rw[if_pos (.inr ⟨rfl,.inl rfl⟩)]at hF;simp;exact aQz hB (h6:=(fin _ hF))
  |false=>
   by_cases h2:cs=[qbm]
   ·subst h2;rw[if_neg (by simp)]at hF;have hat:lat (strs [qbm]) 0=some [.str qbm]:=rfl;have hv:(qbm !=[99,104,117,110,107,101,100])=false:=by decide
    simp[hat,hv];refine qgK E _ _ l hl ?_;rw[hL];simp only;by_cases h3:f=0
    ·subst h3;rw[if_neg (by simp)]at hF;cases tl with
     |true=>
      rw[if_pos ⟨rfl,rfl⟩]at hF;simp;exact aQz hB (h6:=(fin _ hF))
     |false=>
      rw[if_neg (by simp),if_pos rfl]at hF;simp;exact aQz hB (h6:=(fin _ hF))
    ·rw[if_pos h3]at hF;have h3':(f !=0)=true:=by simpa using h3
     simp[h3'];exact aQz hB (h6:=(fin _ hF))
   ·rw[if_pos (.inr ⟨rfl,.inr h2⟩)]at hF
    match cs,h2 with
    |[],_=>
     simp;exact aQz hB (h6:=(fin _ hF))
    |[c],h2=>
     have hat:lat (strs [c]) 0=some [.str c]:=rfl;have hv:(c !=[99,104,117,110,107,101,100])=true:=by simpa[qbm]using h2
     simp[hat,hv];exact aQz hB (h6:=(fin _ hF))
    |c::d::r,_=>
     have hl:((r.length:Int)+1+1 !=1)=true:=by rw[bne_iff_ne];omega
     simp[hl];exact aQz hB (h6:=(fin _ hF))
 |false=>
  simp;refine qgK E _ _ l hl ?_;rw[hL];simp only;by_cases h3:f=0
  ·subst h3;cases tl with
   |true=>
    rw[if_neg (by simp),if_neg (by simp),if_neg (by simp),if_neg (by simp),if_pos rfl]at hF;simp;exact aQz hB (h6:=(fin _ hF))
   |false=>
    rw[if_neg (by simp),if_neg (by simp),if_neg (by simp),if_neg (by simp),if_neg (by simp)]at hF;simp;exact aQz hB (h6:=(fin _ hF))
  ·rw[if_neg (by simp),if_pos h3]at hF;have h3':(f !=0)=true:=by simpa using h3
   simp[h3'];exact aQz hB (h6:=(fin _ hF))
end
end Go.Proofs.YtnnhdehmlkkfjaaGreatDoor
namespace Go.Proofs.YtnnhdehmlkkfjaaGreatDoor
open Go Go.RowKit
structure szQ (r:Rq):Prop where
 m:r.meth.length<=1073741824
 t:r.targ.length<=1073741824
 f:fsz r.fields+r.fields.length<=4194304
 b:r.body.length<=1048576
 tr:fsz r.trailers+r.trailers.length<=1048577
theorem qdq(l:List Fld):(qbk l).1.length<=fsz l+4*l.length:=by
 unfold qbk
 repeat' split
 all_goals first
  |(simp only[List.length_nil];omega)
  |exact qcC l
theorem qdu(b:List UInt8)(ts:List Fld)(hb:b.length<=1048576)(ht:fsz ts+ts.length<=1048577):(qa9 b [] ts).1.length<=1073741824:=by
 unfold qa9
 repeat' split
 ·simp
 ·simp
 ·have hp:(qam b []).flatten=b:=qcR _ b;have h1:=qdv (qam b []) (qd6 [] b (by simp)) (by rw[hp];omega);rw[hp]at h1;have h2:=qcC ts;unfold encT;simp only[zqK,zqL,List.length_nil];omega
section
variable (E:Env){H:Hp}(Q:AV->Hp->Prop)
theorem ql8(hE:PZ E)(r:Rq)(hz:szQ r)(hQ:Q (.tup [.str (qeU r).1,.int .i64 (qeU r).2]) H):PC Tryz.prog E 35 [r.av] H Q:=by
 refine qab Tryz.func35 rfl [] [(22,[0,0,0,0,0,0,0,0,0,0,0,1])] (by kernel_rfl) (fun hB=>?_);have fin:∀t e,qeU r=(t,e)->Q (.tup [.str t,.int .i64 e]) H:=fun t e h=>by rw[h]at hQ;exact hQ
 obtain⟨z1,z2,z3,z4,z5⟩:=hz;have hme:qmh r.meth=(tokB r.meth&&decide (r.meth.length<=24)):=rfl;unfold qeU at fin;clear hQ;simp[Tryz.ntmps35,Tryz.results35,List.replicate_succ,Rq.av,Rq.avs];refine qoI E _ hE.1.1.1 r.meth (by simp only[cap];omega) ?_;rw[<-hme];cases h1:qmh r.meth with
 |false=>
  rw[h1,if_pos rfl]at fin;simp;exact aQy hB (h6:=(fin [] 110 rfl))
 |true=>
 rw[h1,if_neg (by simp)]at fin;simp;refine qmE E _ r.targ ?_;cases h2:qbO r.targ with
 |false=>
  rw[h2,if_pos rfl]at fin;simp;exact aQy hB (h6:=(fin [] 111 rfl))
 |true=>
 rw[h2,if_neg (by simp)]at fin;by_cases h3:r.major=1;rotate_left
 ·have h3':(r.major==1)=false:=by simpa using h3
  have h3'':(r.major !=1)=true:=by simpa using h3
  rw[if_pos (.inl h3)]at fin;simp[h3',h3''];exact aQy hB (h6:=(fin [] 117 rfl))
 by_cases h4:r.minor=0\/r.minor=1;rotate_left
 ·have h40:(r.minor==0)=false:=by simpa using fun e=>h4 (.inl e)
  have h41:(r.minor==1)=false:=by simpa using fun e=>h4 (.inr e)
  have h40':(r.minor !=0)=true:=by simpa using h40
  have h41':(r.minor !=1)=true:=by simpa using h41
  rw[if_pos (.inr ⟨fun e=>h4 (.inl e),fun e=>h4 (.inr e)⟩)]at fin;simp[h3,h40,h41,h40',h41'];exact aQy hB (h6:=(fin [] 117 rfl))
 rw[if_neg (fun h=>h.elim (fun h=>h h3) (fun h=>h4.elim h.1 h.2))]at fin
 have hmin:r.minor=0\/((r.minor==0)=false/\(r.minor !=0)=true/\r.minor=1):=by
  rcases h4 with h|h
  ·exact .inl h
  ·exact .inr ⟨by rw[h];decide,by rw[h];decide,h⟩
 rcases hmin with hmi|⟨hm0,hm1,hmi⟩
 ·simp[h3,hmi];rw[show decide (r.minor=0)=true from by rw[hmi];rfl]at fin;refine qii E _ _ hE.1.1.1 r.fields (by omega) ?_;have hfl:=qdq r.fields;obtain⟨ft,fe,hfp⟩:∃ft fe,qbk r.fields=(ft,fe):=⟨_,_,rfl⟩
  have hpq:preQ r=r.meth++([32]++(r.targ++([32]++([72,84,84,80,47]++([49,46]++(Go.Lib.itoa 0++([13,10]++(ft++[13,10])))))))):=by unfold preQ;rw[hfp,hmi]
  rw[hfp]at fin hfl⊢;simp only at fin hfl;by_cases h5:fe=0;rotate_left
  ·have h5':(fe==0)=false:=by simpa using h5
   have h5'':(fe !=0)=true:=by simpa using h5
   rw[if_pos h5]at fin;simp[h5',h5''];exact aQy hB (h6:=(fin [] fe rfl))
  subst h5;rw[if_neg (by simp)]at fin;simp[hmi];refine qeH E _ _ hE.1.1.1 r.fields _ (by omega) ?_;obtain⟨kd,ln,e0,hFr⟩:∃kd ln e0,qaJ r.fields true=(kd,ln,e0):=⟨_,_,_,rfl⟩
  rw[hFr]at fin⊢;simp only at fin;by_cases h6:e0=0;rotate_left
  ·have h6':(e0==0)=false:=by simpa using h6
   have h6'':(e0 !=0)=true:=by simpa using h6
   rw[if_pos h6]at fin;simp[h6',h6''];exact aQy hB (h6:=(fin [] e0 rfl))
  subst h6;rw[if_neg (by simp)]at fin;by_cases h7:kd=2
  ·subst h7;rw[if_neg (fun h=>h.1 rfl),if_neg (fun h=>h.1 rfl),if_pos rfl]at fin;simp[];refine PC.argsNil (args':=[.str r.body,.sl false 1 (ints []),.sl false 2 (flds r.trailers)]) ⟨.inl rfl,.inr ⟨rfl,false,1,rfl⟩,.inl rfl,trivial⟩ (by simp) (qiq E _ _ hE.2 r.body [] r.trailers z4 (by simp) z5 (by simp) ?_);have hel:=qdu r.body r.trailers z4 z5;obtain⟨et,ee,hen⟩:∃et ee,qa9 r.body [] r.trailers=(et,ee):=⟨_,_,rfl⟩
   rw[hen]at fin hel⊢;simp only at fin hel;by_cases h8:ee=0;rotate_left
   ·have h8':(ee==0)=false:=by simpa using h8
    have h8'':(ee !=0)=true:=by simpa using h8
    rw[if_pos h8]at fin;simp[h8',h8''];exact aQy hB (h6:=(fin [] ee rfl))
   subst h8;rw[if_neg (by simp)]at fin;have hil:=(qcn 0 (by decide) (by decide)).1;simp[]
   iterate 5 (rw[if_pos (by unfold maxLen;(try simp only[zqK,zqL,List.length_nil]);omega)];simp[])
   refine qcx E _ hE.1.1 0 (by omega) (by omega) ?_;simp[KP,qai,qae]
   iterate 5 (rw[if_pos (by unfold maxLen;(try simp only[zqK,zqL,List.length_nil]);omega)];simp[])
   exact qac hB (v0:= .tup [.str (preQ r++et),.int .i64 0]) (v:= .tup [.str (preQ r++et),.int .i64 0]) (by simp[hpq]) (qaa _) (by simp) (fin _ 0 rfl)
  ·rw[if_neg h7]at fin;have h7':(kd==2)=false:=by simpa using h7
   have h7'':(kd !=2)=true:=by simpa using h7
   by_cases h8:(r.body.length:Int)=ln;rotate_left
   ·have h8':((r.body.length:Int)==ln)=false:=by simpa using h8
    have h8'':((r.body.length:Int) !=ln)=true:=by simpa using h8
    rw[if_pos ⟨h7,h8⟩]at fin;simp[h7',h7'',h8',h8''];exact aQy hB (h6:=(fin [] 114 rfl))
   rw[if_neg (fun h=>h.2 h8)]at fin;by_cases h9:r.trailers=[]
   rotate_left
   ·have h9':0<r.trailers.length:=List.length_pos_iff.2 h9;have h9'':(0:Int)<r.trailers.length:=by omega
    rw[if_pos ⟨h7,h9⟩]at fin;simp[h7',h7'',h8,h9',h9''];exact aQy hB (h6:=(fin [] 113 rfl))
   rw[if_neg (fun h=>h.2 h9)]at fin;have h9':r.trailers.length=0:=by rw[h9];rfl
   have hel:r.body.length<=1073741824:=by omega
   simp[h7',h7'',h8,h9,h9'];have hil:=(qcn 0 (by decide) (by decide)).1
   iterate 5 (rw[if_pos (by unfold maxLen;(try simp only[zqK,zqL,List.length_nil]);omega)];simp[])
   refine qcx E _ hE.1.1 0 (by omega) (by omega) ?_;simp[KP,qai,qae]
   iterate 5 (rw[if_pos (by unfold maxLen;(try simp only[zqK,zqL,List.length_nil]);omega)];simp[])
   exact qac hB (v0:= .tup [.str (preQ r++r.body),.int .i64 0]) (v:= .tup [.str (preQ r++r.body),.int .i64 0]) (by simp[hpq]) (qaa _) (by simp) (fin _ 0 rfl)
 ·simp[h3,hm0,hm1,hmi];rw[show decide (r.minor=0)=false from by rw[hmi];rfl]at fin;refine qii E _ _ hE.1.1.1 r.fields (by omega) ?_;have hfl:=qdq r.fields;obtain⟨ft,fe,hfp⟩:∃ft fe,qbk r.fields=(ft,fe):=⟨_,_,rfl⟩
  have hpq:preQ r=r.meth++([32]++(r.targ++([32]++([72,84,84,80,47]++([49,46]++(Go.Lib.itoa 1++([13,10]++(ft++[13,10])))))))):=by unfold preQ;rw[hfp,hmi]
  rw[hfp]at fin hfl⊢;simp only at fin hfl;by_cases h5:fe=0;rotate_left
  ·have h5':(fe==0)=false:=by simpa using h5
   have h5'':(fe !=0)=true:=by simpa using h5
   rw[if_pos h5]at fin;simp[h5',h5''];exact aQy hB (h6:=(fin [] fe rfl))
  subst h5;rw[if_neg (by simp)]at fin;simp[hmi];refine qeH E _ _ hE.1.1.1 r.fields _ (by omega) ?_;obtain⟨kd,ln,e0,hFr⟩:∃kd ln e0,qaJ r.fields false=(kd,ln,e0):=⟨_,_,_,rfl⟩
  rw[hFr]at fin⊢;simp only at fin;by_cases h6:e0=0;rotate_left
  ·have h6':(e0==0)=false:=by simpa using h6
   have h6'':(e0 !=0)=true:=by simpa using h6
   rw[if_pos h6]at fin;simp[h6',h6''];exact aQy hB (h6:=(fin [] e0 rfl))
  subst h6;rw[if_neg (by simp)]at fin;by_cases h7:kd=2
  ·subst h7;rw[if_neg (fun h=>h.1 rfl),if_neg (fun h=>h.1 rfl),if_pos rfl]at fin;simp[];refine PC.argsNil (args':=[.str r.body,.sl false 1 (ints []),.sl false 2 (flds r.trailers)]) ⟨.inl rfl,.inr ⟨rfl,false,1,rfl⟩,.inl rfl,trivial⟩ (by simp) (qiq E _ _ hE.2 r.body [] r.trailers z4 (by simp) z5 (by simp) ?_);have hel:=qdu r.body r.trailers z4 z5;obtain⟨et,ee,hen⟩:∃et ee,qa9 r.body [] r.trailers=(et,ee):=⟨_,_,rfl⟩
   rw[hen]at fin hel⊢;simp only at fin hel;by_cases h8:ee=0;rotate_left
   ·have h8':(ee==0)=false:=by simpa using h8
    have h8'':(ee !=0)=true:=by simpa using h8
    rw[if_pos h8]at fin;simp[h8',h8''];exact aQy hB (h6:=(fin [] ee rfl))
   subst h8;rw[if_neg (by simp)]at fin;have hil:=(qcn 1 (by decide) (by decide)).1;simp[]
   iterate 5 (rw[if_pos (by unfold maxLen;(try simp only[zqK,zqL,List.length_nil]);omega)];simp[])
   refine qcx E _ hE.1.1 1 (by omega) (by omega) ?_;simp[KP,qai,qae]
   iterate 5 (rw[if_pos (by unfold maxLen;(try simp only[zqK,zqL,List.length_nil]);omega)];simp[])
   exact qac hB (v0:= .tup [.str (preQ r++et),.int .i64 0]) (v:= .tup [.str (preQ r++et),.int .i64 0]) (by simp[hpq]) (qaa _) (by simp) (fin _ 0 rfl)
  ·rw[if_neg h7]at fin;have h7':(kd==2)=false:=by simpa using h7
   have h7'':(kd !=2)=true:=by simpa using h7
   by_cases h8:(r.body.length:Int)=ln;rotate_left
   ·have h8':((r.body.length:Int)==ln)=false:=by simpa using h8
    have h8'':((r.body.length:Int) !=ln)=true:=by simpa using h8
    rw[if_pos ⟨h7,h8⟩]at fin;simp[h7',h7'',h8',h8''];exact aQy hB (h6:=(fin [] 114 rfl))
   rw[if_neg (fun h=>h.2 h8)]at fin;by_cases h9:r.trailers=[]
   rotate_left
   ·have h9':0<r.trailers.length:=List.length_pos_iff.2 h9;have h9'':(0:Int)<r.trailers.length:=by omega
    rw[if_pos ⟨h7,h9⟩]at fin;simp[h7',h7'',h8,h9',h9''];exact aQy hB (h6:=(fin [] 113 rfl))
   rw[if_neg (fun h=>h.2 h9)]at fin;have h9':r.trailers.length=0:=by rw[h9];rfl
   have hel:r.body.length<=1073741824:=by omega
   simp[h7',h7'',h8,h9,h9'];have hil:=(qcn 1 (by decide) (by decide)).1
   iterate 5 (rw[if_pos (by unfold maxLen;(try simp only[zqK,zqL,List.length_nil]);omega)];simp[])
   refine qcx E _ hE.1.1 1 (by omega) (by omega) ?_;simp[KP,qai,qae]
   iterate 5 (rw[if_pos (by unfold maxLen;(try simp only[zqK,zqL,List.length_nil]);omega)];simp[])
   exact qac hB (v0:= .tup [.str (preQ r++r.body),.int .i64 0]) (v:= .tup [.str (preQ r++r.body),.int .i64 0]) (by simp[hpq]) (qaa _) (by simp) (fin _ 0 rfl)
end
def dpI(r:Rq)(H:Hp)(fr:List AV)(K:Hp):Prop:=K=H++[r.avs]/\∃i:Nat,i<=r.targ.length/\(r.targ.take i).all (fun c:UInt8=>decide (33<=c.toNat)&&decide (c.toNat<=126))=true/\
 ∃x:Nat->AV,fr=[x 0,.ptr (some (H.length,0)),x 2,x 3,.int .i64 (i:Int),x 5,x 6,x 7,x 8,x 9,x 10,x 11,x 12,x 13,x 14,x 15,x 16,x 17,x 18,x 19,x 20,x 21,x 22,x 23,x 24,x 25,x 26,x 27,x 28,x 29,x 30,x 31,x 32,x 33,x 34,x 35,x 36,x 37,x 38,x 39,x 40,x 41,x 42,x 43,x 44,x 45,x 46,x 47,x 48,x 49,x 50,x 51,x 52,x 53,x 54,x 55,x 56,x 57,x 58,x 59,x 60,x 61,x 62,x 63,x 64,x 65,x 66,x 67,x 68,x 69,x 70,x 71,x 72,x 73,x 74,x 75,x 76,x 77,x 78,x 79,x 80,x 81,x 82,x 83,x 84,x 85,x 86,x 87,x 88,x 89,x 90,x 91,x 92,x 93,x 94,x 95,x 96,x 97,x 98,x 99,x 100,x 101,x 102,x 103,x 104,x 105,x 106,x 107,x 108,x 109,x 110,x 111,x 112,x 113,x 114,x 115,x 116,x 117,x 118,x 119,x 120]
section
variable (E:Env){H:Hp}(Q:AV->Hp->Prop)
theorem qna(r:Rq)(hz:szQ r)(hQ:Q (.tup [.str (qeU r).1,.int .i64 (qeU r).2]) H):PC Tryz.prog E 36 [r.av] H Q:=by
 refine qab Tryz.func36 rfl [] [(27,[0,0,0,0,0,0,0,0,0,1])] (by kernel_rfl) (fun hB=>?_);have fin:∀t e,qeU r=(t,e)->Q (.tup [.str t,.int .i64 e]) H:=fun t e h=>by rw[h]at hQ;exact hQ
 obtain⟨z1,z2,z3,z4,z5⟩:=hz;have hme:qmh r.meth=(tokB r.meth&&decide (r.meth.length<=24)):=rfl;unfold qeU at fin;clear hQ;simp[Tryz.ntmps36,Tryz.results36,List.replicate_succ,Rq.av,Rq.avs];refine qpf E _ r.meth (by simp only[cap];omega) ?_;rw[<-hme];cases h1:qmh r.meth with
 |false=>
  rw[h1,if_pos rfl]at fin;simp;exact aQy hB (h6:=(fin [] 110 rfl))
 |true=>
 rw[h1,if_neg (by simp)]at fin;simp;refine qaG (dpI r H) (fun fr _=>r.targ.length-(ai (aget fr 4)).toNat) ⟨rfl,0,by omega,by simp,friz⟩ ?_;rintro fr K ⟨rfl,i,hi,hall,x,rfl⟩;by_cases h:i<r.targ.length
 ·obtain⟨c,hc⟩:∃c,r.targ[i]? =some c:=⟨_,zqD h⟩
  have la:=qaP hc;have w1:IntKind.i64.wrap ((i:Int)+1)=i+1:=wiz;have hst:=qbv (fun c:UInt8=>decide (33<=c.toNat)&&decide (c.toNat<=126)) r.targ i c hc;have hsp:=qcl (fun c:UInt8=>decide (33<=c.toNat)&&decide (c.toNat<=126)) r.targ i c hc;by_cases g1:c.toNat<33
  ·have g1':(c.toNat:Int)<33:=by omega
   have h2:qbO r.targ=false:=by unfold qbO;rw[hsp (by simp;omega)];simp
   rw[h2,if_pos rfl]at fin;simp[h,la,g1',Rq.avs];exact aQy hB (h6:=(fin [] 111 rfl))
  ·have g1':¬(c.toNat:Int)<33:=by omega
   by_cases g2:126<c.toNat
   ·have g2':(126:Int)<c.toNat:=by omega
    have h2:qbO r.targ=false:=by unfold qbO;rw[hsp (by simp;omega)];simp
    rw[h2,if_pos rfl]at fin;simp[h,la,g1',g2',Rq.avs];exact aQy hB (h6:=(fin [] 111 rfl))
   ·have g2':¬(126:Int)<c.toNat:=by omega
    simp[h,la,g1',g2',w1,Rq.avs];exact Klz ⟨rfl,i+1,by omega,by rw[hst,hall];simp;omega,friz⟩
 have hi2:i=r.targ.length:=by omega
 subst hi2;rw[List.take_length]at hall;by_cases ht:r.targ=[]
 ·have h2:qbO r.targ=false:=by unfold qbO;rw[ht];rfl
  rw[h2,if_pos rfl]at fin;simp[Rq.avs,ht];exact aQy hB (h6:=(fin [] 111 rfl))
 have h2:qbO r.targ=true:=by unfold qbO;rw[hall];simpa using ht
 have ht':(r.targ==[])=false:=by simpa using ht
 rw[h2,if_neg (by simp)]at fin;by_cases h3:r.major=1;rotate_left
 ·have h3':(r.major==1)=false:=by simpa using h3
  have h3'':(r.major !=1)=true:=by simpa using h3
  rw[if_pos (.inl h3)]at fin;simp[Rq.avs,ht',h3',h3''];exact aQy hB (h6:=(fin [] 117 rfl))
 by_cases h4:r.minor=0\/r.minor=1;rotate_left
 ·have h40:(r.minor==0)=false:=by simpa using fun e=>h4 (.inl e)
  have h41:(r.minor==1)=false:=by simpa using fun e=>h4 (.inr e)
  have h40':(r.minor !=0)=true:=by simpa using h40
  have h41':(r.minor !=1)=true:=by simpa using h41
  rw[if_pos (.inr ⟨fun e=>h4 (.inl e),fun e=>h4 (.inr e)⟩)]at fin;simp[Rq.avs,ht',h3,h40,h41,h40',h41'];exact aQy hB (h6:=(fin [] 117 rfl))
 rw[if_neg (fun h=>h.elim (fun h=>h h3) (fun h=>h4.elim h.1 h.2))]at fin
 have hmin:r.minor=0\/((r.minor==0)=false/\(r.minor !=0)=true/\r.minor=1):=by
  rcases h4 with h|h
  ·exact .inl h
  ·exact .inr ⟨by rw[h];decide,by rw[h];decide,h⟩
 rcases hmin with hmi|⟨hm0,hm1,hmi⟩
 ·simp[Rq.avs,ht',h3,hmi];rw[show decide (r.minor=0)=true from by rw[hmi];rfl]at fin;refine qgL E _ _ r.fields (by omega) ?_;have hfl:=qdq r.fields;obtain⟨ft,fe,hfp⟩:∃ft fe,qbk r.fields=(ft,fe):=⟨_,_,rfl⟩
  have hpq:preQ r=r.meth++([32]++(r.targ++([32]++([72,84,84,80,47]++([49,46]++(Go.Lib.itoa 0++([13,10]++(ft++[13,10])))))))):=by unfold preQ;rw[hfp,hmi]
  rw[hfp]at fin hfl⊢;simp only at fin hfl;by_cases h5:fe=0;rotate_left
  ·have h5':(fe==0)=false:=by simpa using h5
   have h5'':(fe !=0)=true:=by simpa using h5
   rw[if_pos h5]at fin;simp[Rq.avs,ht',h5',h5''];exact aQy hB (h6:=(fin [] fe rfl))
  subst h5;rw[if_neg (by simp)]at fin;simp[Rq.avs,ht',hmi];refine qfY E _ _ r.fields _ (by omega) ?_;obtain⟨kd,ln,e0,hFr⟩:∃kd ln e0,qaJ r.fields true=(kd,ln,e0):=⟨_,_,_,rfl⟩
  rw[hFr]at fin⊢;simp only at fin;by_cases h6:e0=0;rotate_left
  ·have h6':(e0==0)=false:=by simpa using h6
   have h6'':(e0 !=0)=true:=by simpa using h6
   rw[if_pos h6]at fin;simp[Rq.avs,ht',h6',h6''];exact aQy hB (h6:=(fin [] e0 rfl))
  subst h6;rw[if_neg (by simp)]at fin;by_cases h7:kd=2
  ·subst h7;rw[if_neg (fun h=>h.1 rfl),if_neg (fun h=>h.1 rfl),if_pos rfl]at fin;simp[Rq.avs,ht',];refine PC.argsNil (args':=[.str r.body,.sl false 1 (ints []),.sl false 2 (flds r.trailers)]) ⟨.inl rfl,.inl rfl,.inl rfl,trivial⟩ (by simp) (qgM E _ _ r.body [] r.trailers z4 (by simp) z5 (by simp) ?_);have hel:=qdu r.body r.trailers z4 z5;obtain⟨et,ee,hen⟩:∃et ee,qa9 r.body [] r.trailers=(et,ee):=⟨_,_,rfl⟩
   rw[hen]at fin hel⊢;simp only at fin hel;by_cases h8:ee=0;rotate_left
   ·have h8':(ee==0)=false:=by simpa using h8
    have h8'':(ee !=0)=true:=by simpa using h8
    rw[if_pos h8]at fin;simp[Rq.avs,ht',h8',h8''];exact aQy hB (h6:=(fin [] ee rfl))
   subst h8;rw[if_neg (by simp)]at fin;have hil:=(qcn 0 (by decide) (by decide)).1;simp[Rq.avs,ht']
   iterate 3 (rw[if_pos (by unfold maxLen;(try simp only[zqK,zqL,List.length_nil]);omega)];simp[Rq.avs,ht'])
   refine qcg E _ _ 0 (by omega) (by omega) ?_;simp[Rq.avs,ht',KP,qai,qae]
   iterate 5 (rw[if_pos (by unfold maxLen;(try simp only[zqK,zqL,List.length_nil]);omega)];simp[Rq.avs,ht'])
   exact qac hB (v0:= .tup [.str (preQ r++et),.int .i64 0]) (v:= .tup [.str (preQ r++et),.int .i64 0]) (by simp[hpq]) (qaa _) (by simp) (fin _ 0 rfl)
  ·rw[if_neg h7]at fin;have h7':(kd==2)=false:=by simpa using h7
   have h7'':(kd !=2)=true:=by simpa using h7
   by_cases h8:(r.body.length:Int)=ln;rotate_left
   ·have h8':((r.body.length:Int)==ln)=false:=by simpa using h8
    have h8'':((r.body.length:Int) !=ln)=true:=by simpa using h8
    rw[if_pos ⟨h7,h8⟩]at fin;simp[Rq.avs,ht',h7',h7'',h8',h8''];exact aQy hB (h6:=(fin [] 114 rfl))
   rw[if_neg (fun h=>h.2 h8)]at fin;by_cases h9:r.trailers=[]
   rotate_left
   ·have h9':0<r.trailers.length:=List.length_pos_iff.2 h9;have h9'':(0:Int)<r.trailers.length:=by omega
    rw[if_pos ⟨h7,h9⟩]at fin;simp[Rq.avs,ht',h7',h7'',h8,h9',h9''];exact aQy hB (h6:=(fin [] 113 rfl))
   rw[if_neg (fun h=>h.2 h9)]at fin;have h9':r.trailers.length=0:=by rw[h9];rfl
   have hel:r.body.length<=1073741824:=by omega
   simp[Rq.avs,ht',h7',h7'',h8,h9,h9'];have hil:=(qcn 0 (by decide) (by decide)).1
   iterate 3 (rw[if_pos (by unfold maxLen;(try simp only[zqK,zqL,List.length_nil]);omega)];simp[Rq.avs,ht'])
   refine qcg E _ _ 0 (by omega) (by omega) ?_;simp[Rq.avs,ht',KP,qai,qae]
   iterate 5 (rw[if_pos (by unfold maxLen;(try simp only[zqK,zqL,List.length_nil]);omega)];simp[Rq.avs,ht'])
   exact qac hB (v0:= .tup [.str (preQ r++r.body),.int .i64 0]) (v:= .tup [.str (preQ r++r.body),.int .i64 0]) (by simp[hpq]) (qaa _) (by simp) (fin _ 0 rfl)
 ·simp[Rq.avs,ht',h3,hm0,hm1,hmi];rw[show decide (r.minor=0)=false from by rw[hmi];rfl]at fin;refine qgL E _ _ r.fields (by omega) ?_;have hfl:=qdq r.fields;obtain⟨ft,fe,hfp⟩:∃ft fe,qbk r.fields=(ft,fe):=⟨_,_,rfl⟩
  have hpq:preQ r=r.meth++([32]++(r.targ++([32]++([72,84,84,80,47]++([49,46]++(Go.Lib.itoa 1++([13,10]++(ft++[13,10])))))))):=by unfold preQ;rw[hfp,hmi]
  rw[hfp]at fin hfl⊢;simp only at fin hfl;by_cases h5:fe=0;rotate_left
  ·have h5':(fe==0)=false:=by simpa using h5
   have h5'':(fe !=0)=true:=by simpa using h5
   rw[if_pos h5]at fin;simp[Rq.avs,ht',h5',h5''];exact aQy hB (h6:=(fin [] fe rfl))
  subst h5;rw[if_neg (by simp)]at fin;simp[Rq.avs,ht',hmi];refine qfY E _ _ r.fields _ (by omega) ?_;obtain⟨kd,ln,e0,hFr⟩:∃kd ln e0,qaJ r.fields false=(kd,ln,e0):=⟨_,_,_,rfl⟩
  rw[hFr]at fin⊢;simp only at fin;by_cases h6:e0=0;rotate_left
  ·have h6':(e0==0)=false:=by simpa using h6
   have h6'':(e0 !=0)=true:=by simpa using h6
   rw[if_pos h6]at fin;simp[Rq.avs,ht',h6',h6''];exact aQy hB (h6:=(fin [] e0 rfl))
  subst h6;rw[if_neg (by simp)]at fin;by_cases h7:kd=2
  ·subst h7;rw[if_neg (fun h=>h.1 rfl),if_neg (fun h=>h.1 rfl),if_pos rfl]at fin;simp[Rq.avs,ht',];refine PC.argsNil (args':=[.str r.body,.sl false 1 (ints []),.sl false 2 (flds r.trailers)]) ⟨.inl rfl,.inl rfl,.inl rfl,trivial⟩ (by simp) (qgM E _ _ r.body [] r.trailers z4 (by simp) z5 (by simp) ?_);have hel:=qdu r.body r.trailers z4 z5;obtain⟨et,ee,hen⟩:∃et ee,qa9 r.body [] r.trailers=(et,ee):=⟨_,_,rfl⟩
   rw[hen]at fin hel⊢;simp only at fin hel;by_cases h8:ee=0;rotate_left
   ·have h8':(ee==0)=false:=by simpa using h8
    have h8'':(ee !=0)=true:=by simpa using h8
    rw[if_pos h8]at fin;simp[Rq.avs,ht',h8',h8''];exact aQy hB (h6:=(fin [] ee rfl))
   subst h8;rw[if_neg (by simp)]at fin;have hil:=(qcn 1 (by decide) (by decide)).1;simp[Rq.avs,ht']
   iterate 3 (rw[if_pos (by unfold maxLen;(try simp only[zqK,zqL,List.length_nil]);omega)];simp[Rq.avs,ht'])
   refine qcg E _ _ 1 (by omega) (by omega) ?_;simp[Rq.avs,ht',KP,qai,qae]
   iterate 5 (rw[if_pos (by unfold maxLen;(try simp only[zqK,zqL,List.length_nil]);omega)];simp[Rq.avs,ht'])
   exact qac hB (v0:= .tup [.str (preQ r++et),.int .i64 0]) (v:= .tup [.str (preQ r++et),.int .i64 0]) (by simp[hpq]) (qaa _) (by simp) (fin _ 0 rfl)
  ·rw[if_neg h7]at fin;have h7':(kd==2)=false:=by simpa using h7
   have h7'':(kd !=2)=true:=by simpa using h7
   by_cases h8:(r.body.length:Int)=ln;rotate_left
   ·have h8':((r.body.length:Int)==ln)=false:=by simpa using h8
    have h8'':((r.body.length:Int) !=ln)=true:=by simpa using h8
    rw[if_pos ⟨h7,h8⟩]at fin;simp[Rq.avs,ht',h7',h7'',h8',h8''];exact aQy hB (h6:=(fin [] 114 rfl))
   rw[if_neg (fun h=>h.2 h8)]at fin;by_cases h9:r.trailers=[]
   rotate_left
   ·have h9':0<r.trailers.length:=List.length_pos_iff.2 h9;have h9'':(0:Int)<r.trailers.length:=by omega
    rw[if_pos ⟨h7,h9⟩]at fin;simp[Rq.avs,ht',h7',h7'',h8,h9',h9''];exact aQy hB (h6:=(fin [] 113 rfl))
   rw[if_neg (fun h=>h.2 h9)]at fin;have h9':r.trailers.length=0:=by rw[h9];rfl
   have hel:r.body.length<=1073741824:=by omega
   simp[Rq.avs,ht',h7',h7'',h8,h9,h9'];have hil:=(qcn 1 (by decide) (by decide)).1
   iterate 3 (rw[if_pos (by unfold maxLen;(try simp only[zqK,zqL,List.length_nil]);omega)];simp[Rq.avs,ht'])
   refine qcg E _ _ 1 (by omega) (by omega) ?_;simp[Rq.avs,ht',KP,qai,qae]
   iterate 5 (rw[if_pos (by unfold maxLen;(try simp only[zqK,zqL,List.length_nil]);omega)];simp[Rq.avs,ht'])
   exact qac hB (v0:= .tup [.str (preQ r++r.body),.int .i64 0]) (v:= .tup [.str (preQ r++r.body),.int .i64 0]) (by simp[hpq]) (qaa _) (by simp) (fin _ 0 rfl)
end
end Go.Proofs.YtnnhdehmlkkfjaaGreatDoor
