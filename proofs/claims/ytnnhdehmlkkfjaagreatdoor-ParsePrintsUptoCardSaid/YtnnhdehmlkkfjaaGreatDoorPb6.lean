/- Part 6 of the texts below the law. -/
import Derived.Test.YtnnhdehmlkkfjaaGreatDoorPb5
import Derived.Lib.SliceRun
import Derived.Lib.IndexLaws
set_option maxRecDepth 100000
set_option maxHeartbeats 16000000
set_option linter.unusedVariables false
set_option linter.unusedSimpArgs false
set_option linter.unusedSectionVars false
namespace Go.Proofs.YtnnhdehmlkkfjaaGreatDoor
open Go Go.RowKit Go.Proofs
@[simp] theorem qol {α:Type} (l:List α) (n:Nat):(l.drop n).take (l.length-n)=l.drop n:=zqE (by rw[zqI];omega)
section
variable (E:Env)(H:Hp)(Q:AV->Hp->Prop)
theorem qmH(l:List UInt8)(most:Int)(hl:l.length<=cap)(hm1: -9223372036854775808<=most)(hm2:most<=9223372036854775807)(hQ:Q (.tup [.int .i64 (qah 16 most l).1,.int .i64 (qah 16 most l).2]) H):
  PC Tryz.prog E 237 [.str l,.int .i64 most] H Q:=by
 refine qao (v:= .tup [.int .i64 (qah 16 most l).1,.int .i64 (qah 16 most l).2]) (by kernel_rfl) (fun _=>True) (fun w hw=>trivial) (fun w β Rd cargs hS hsz hargs=>?_) (by simp) rfl hQ;obtain⟨u,v,rfl,hu,hv⟩:=args2 hsz hargs;obtain⟨s,rfl,rfl,hs⟩:=qaq hu;obtain rfl:=qas hv;refine(hex_ok s most (by rw[<-qad];exact hl) hm1 hm2 w).mono ?_;rintro e w' ⟨rfl,hF⟩;exact⟨_,rfl,hF,qjQ⟩
theorem qar(l:List UInt8)(c:UInt8)(hQ:Q (.int .i64 (Lib.indexByte l c)) H):PC Tryz.prog E 156 [.str l,.int .u8 (c.toNat:Int)] H Q:=by
 refine qao (v:= .int .i64 (Lib.indexByte l c)) (by kernel_rfl) (fun _=>True) (fun w hw=>trivial) (fun w β Rd cargs hS hsz hargs=>?_) (by simp) rfl hQ;obtain⟨u,v,rfl,hu,hv⟩:=args2 hsz hargs;obtain⟨s,rfl,rfl,hs⟩:=qaq hu;obtain rfl:=qas hv;refine(qbz s c.toNat w).mono ?_;rintro e w' ⟨rfl,rfl⟩;have:(c.toNat:Int).toNat.toUInt8=c:=by simp
 rw[this];exact⟨_,rfl,Frm.refl _ _,.int _ _⟩
theorem qiK(l:List UInt8)(hl:l.length<=cap)(hQ:∀x,x.length<=l.length->Q (.str x) H):PC Tryz.prog E 200 [.str l,.str [32,9]] H Q:=by
 have hle:(Lib.trimLeftS l [32,9]).length<=l.length:=by
  unfold Lib.trimLeftS;exact(List.dropWhile_sublist _).length_le
 refine qao (v:= .str (Lib.trimLeftS l [32,9])) (by kernel_rfl) (fun _=>True) (fun w hw=>trivial) (fun w β Rd cargs hS hsz hargs=>?_) (.str _) rfl (hQ _ hle);obtain⟨u,v,rfl,hu,hv⟩:=args2 hsz hargs;obtain⟨s,rfl,rfl,hs⟩:=qaq hu;obtain⟨t,rfl,ht,_⟩:=qaq hv;have h116:(Tryz.prog.info? (lren.t 116)).map (fun i=>(i.zero,i.size))=some (some (.agg (Array.replicate 256 (.bool false))),256):=by kernel_rfl
 have htl:t.size=2:=by rw[<-qad,ht];rfl
 refine(Any.strings_TrimLeft_ascii lays161 (zero_of_info h116).1 (zero_of_info h116).2 s t w (by rw[htl];omega) (fun j b hb=>by
  rw[ht]at hb
  match j with
  |0=>simp at hb;subst hb;decide
  |1=>simp at hb;subst hb;decide
  |j+2=>simp at hb)).mono ?_
 rintro e w' ⟨rfl,hb⟩;rw[ht];exact⟨_,rfl,qbc hb,qc5 _ (qga (Nat.le_trans hle hl))⟩
end
theorem qqI:∀(n:Nat) (s:List UInt8) (l:List Par) (k:Nat),s.length<=n->pars qaj s=some (l,k)->l.length<=s.length/\k<=s.length:=by
 intro n
 induction n with
 |zero=>
  intro s l k hn h;have:s=[]:=List.length_eq_zero_iff.1 (by omega);subst this;rw[qe8 qaj [] (by simp)]at h;cases h;simp
 |succ n ih=>
  intro s l k hn h;by_cases h0:s[run qag s]? =some 59
  ·have hlt:=(zqC.1 h0).1;obtain⟨m,hm⟩:=exz (run qag (s.drop (run qag s+1)));obtain⟨j,hj⟩:=exz (run qaj (s.drop (run qag s+1+m)));have hml:=qbQ qag (s.drop (run qag s+1));rw[hm,zqI]at hml;have hjl:=qbQ qaj (s.drop (run qag s+1+m));rw[hj,zqI]at hjl;by_cases hz:j=0
   ·rw[qhX qaj s _ m j rfl h0 hm hj hz]at h;cases hp:pars qaj (s.drop (run qag s+1))with
    |none=>rw[hp]at h;cases h
    |some p=>
     rw[hp]at h;simp at h;obtain⟨rfl,rfl⟩:=h;have:=ih _ p.1 p.2 (by rw[zqI];omega) hp;rw[zqI]at this;omega
   ·by_cases h1:s[run qag s+1+m+j]? =some 61
    ·have h1l:=(zqC.1 h1).1;cases hv:pval qaj (s.drop (run qag s+1+m+j+1))with
     |none=>rw[qjU qaj s _ m j rfl h0 hm hj hz h1 hv]at h;cases h
     |some q=>
      have hq:=ql3 (l:=s.drop (run qag s+1+m+j+1)) (x:=q.1) (k:=q.2) hv;rw[zqI]at hq;rw[qgu qaj s _ m j rfl h0 hm hj hz h1 (x:=q.1) (k:=q.2) hv]at h;cases hp:pars qaj (s.drop (run qag s+1+m+j+1+q.2))with
      |none=>rw[hp]at h;cases h
      |some p=>
       rw[hp]at h;simp at h;obtain⟨rfl,rfl⟩:=h;have:=ih _ p.1 p.2 (by rw[zqI];omega) hp;rw[zqI]at this;simp;omega
    ·rw[qgv qaj s _ m j rfl h0 hm hj hz h1]at h;cases hp:pars qaj (s.drop (run qag s+1+m+j))with
     |none=>rw[hp]at h;cases h
     |some p=>
      rw[hp]at h;simp at h;obtain⟨rfl,rfl⟩:=h;have:=ih _ p.1 p.2 (by rw[zqI];omega) hp;rw[zqI]at this;simp;omega
  ·rw[qe8 qaj s h0]at h;cases h;simp
theorem qmc(l:List UInt8):(qbt l).1.length<=l.length/\∃m:Nat,(qbt l).2.1=m/\m<=l.length:=by
 unfold qbt;cases h:pars qaj l with
 |none=>exact⟨by simp,0,rfl,by omega⟩
 |some p=>
  have:=qqI _ l p.1 p.2 (Nat.le_refl _) h;exact⟨this.1,p.2,rfl,this.2⟩
theorem qoN(k:Nat)(x z:AV)(h:x.free=true)(h2:z.free=true):nilV (.tup [x,.nil,z]) (.tup [x,.sl false k [],z]):=
 .inr ⟨_,_,rfl,rfl,⟨.inl rfl,.inr ⟨rfl,false,k,rfl⟩,.inl rfl,trivial⟩,by simp[h,h2]⟩
def qav(l:List UInt8):Int×List Par×Int:=
 if run qcF l=0\/254<l.length then(0,[],100)
 else if(qbt (l.drop (run qcF l))).2.2≠0\/qaL (l.drop (run qcF l+(qbt (l.drop (run qcF l))).2.1.toNat))≠[]then(0,[],100)
 else if(qah 16 1099511627776 (l.take (run qcF l))).2≠0 then(0,[],102)
 else((qah 16 1099511627776 (l.take (run qcF l))).1,(qbt (l.drop (run qcF l))).1,0)
theorem hex1(b:UInt8):(qah 16 15 [b]).2=if qcF b=true then 0 else 11:=by
 have h:=qmF b;have hlt:=qnb b;unfold qah;simp only[List.cons_ne_nil,if_false];have e1:qbR 16 [b]=decide (0<=dig b/\dig b<16):=by simp[qbR]
 have e2:qcy 16 [b]=dig b:=by simp[qcy]
 rw[e1,<-h,e2];cases hb:qcF b
 ·simp
 ·rw[hb]at h;have:=of_decide_eq_true h.symm;have h15:¬15<dig b:=by omega
  simp[h15]
section
variable (E:Env)(H:Hp)(Q:AV->Hp->Prop)
def szInv(l:List UInt8)(H:Hp)(fr:List AV)(H':Hp):Prop:=H'=H/\∃n:Nat,n<=l.length/\(l.take n).all qcF=true/\∃x:Nat->AV,fr=[.str l,x 1,x 2,x 3,x 4,.int .i64 n,x 6,x 7,x 8,x 9,x 10,x 11,x 12,x 13,x 14,x 15,x 16,x 17,x 18,x 19,x 20,x 21,x 22,x 23,x 24,x 25,x 26,x 27,x 28,x 29,x 30,x 31,x 32,x 33,x 34,x 35,x 36,x 37,x 38,x 39,x 40,x 41,x 42,x 43,x 44,x 45,x 46,x 47,x 48,x 49,x 50,x 51,x 52,x 53,x 54,x 55,x 56,x 57,x 58,x 59,x 60,x 61,x 62,x 63,x 64,x 65]
theorem qhV(hE:SE E)(l:List UInt8)(hl:l.length<=cap)(hQ:Q (.tup [.int .i64 (qav l).1,.sl false 3 (prs (qav l).2.1),.int .i64 (qav l).2.2]) H):PC Tryz.prog E 229 [.str l] H Q:=by
 refine qab Tryz.func229 rfl [] [] (by kernel_rfl) (fun hB=>?_);have hl':=hl;simp only[cap]at hl';simp[Tryz.ntmps229,Tryz.results229,List.replicate_succ];refine qaG (szInv l H) (fun fr _=>l.length-(ai (aget fr 5)).toNat) ⟨rfl,0,by omega,by simp,friz⟩ ?_;rintro fr H' ⟨rfl,n,hn,hall,x,rfl⟩;have hw:IntKind.i64.wrap ((n:Int)+1)=n+1:=wiz
 have hcase:(∃b,l[n]? =some b/\qcF b=true)\/(∃b,l[n]? =some b/\qcF b=false)\/l.length<=n:=by
  cases hb:l[n]? with
  |none=>exact .inr (.inr (List.getElem?_eq_none_iff.1 hb))
  |some b=>
   cases hx:qcF b
   ·exact .inr (.inl ⟨b,rfl,hx⟩)
   ·exact .inl ⟨b,rfl,hx⟩
 rcases hcase with⟨b,hb,hx⟩|⟨b,hb,hx⟩|h
 ·have h:n<l.length:=(zqC.1 hb).1;have t1:((n:Int)+1).toNat=n+1:=by omega
  have t2:(0:Int)<=n+1:=by omega
  have t3:(l.drop n).take 1=[b]:=by rw[qay l n b hb];rfl
  have t4:n+1<=l.length:=by omega
  simp[h,hw,t1,t2,t3,t4];refine qmH E _ _ [b] 15 (by simp[cap]) (by omega) (by omega) ?_;rw[hex1,hx];simp[hw];refine qaC ?_ ?_;rotate_left
  ·simp;omega
  refine⟨rfl,n+1,by omega,?_,friz⟩;rw[qbJ qcF l n b hb,hall,hx];rfl
 case' inr.inl=>
  have h:n<l.length:=(zqC.1 hb).1;have t1:((n:Int)+1).toNat=n+1:=by omega
  have t2:(0:Int)<=n+1:=by omega
  have t3:(l.drop n).take 1=[b]:=by rw[qay l n b hb];rfl
  have t4:n+1<=l.length:=by omega
  simp[h,hw,t1,t2,t3,t4];refine qmH E _ _ [b] 15 (by simp[cap]) (by omega) (by omega) ?_;rw[hex1,hx];have hr:run qcF l=n:=qdp qcF l n hall hn (fun c hc=>by rw[hb]at hc;cases hc;exact hx);clear hb hx t1 t2 t3 t4 h hw;simp
 case' inr.inr=>
  have h':¬n<l.length:=by omega
  have hr:run qcF l=n:=qdp qcF l n hall hn (fun c hc=>by have:=(zqC.1 hc).1;omega);simp[h'];clear h h' hw
 all_goals
  clear hall
  have bad:∀(fr:List AV) (e:Int),qav l=(0,[],e)->aget fr 2= .int .i64 0->aget fr 3= .nil->aget fr 4= .int .i64 e->qcc Tryz.prog [ResultVar.tmp 2,ResultVar.tmp 3,ResultVar.tmp 4] H'.length Q .ret fr H':=fun fr e h0 h1 h2 h3=>by
   rw[h0]at hQ;exact qap hB (v0:= .tup [.int .i64 0,.nil,.int .i64 e]) (by simp[h1,h2,h3]) (qoN 3 _ _ rfl rfl) (by simp) hQ
  by_cases hn0:n=0
  ·have ha:qav l=(0,[],100):=by unfold qav;rw[if_pos (.inl (by rw[hr];exact hn0))]
   subst hn0;simp;exact bad _ 100 ha rfl rfl rfl
  ·have e0:((n:Int)==0)=false:=by simp;omega
   by_cases hbig:254<l.length
   ·have ha:qav l=(0,[],100):=by unfold qav;rw[if_pos (.inr hbig)]
    have hbig':(254:Int)<l.length:=by omega
    simp[e0,hbig'];exact bad _ 100 ha rfl rfl rfl
   ·have hbig':¬(254:Int)<l.length:=by omega
    obtain⟨hpl,m,hm,hml⟩:=qmc (l.drop n);rw[zqI]at hml hpl;simp[e0,hbig',hn];refine qmb E _ _ hE (l.drop n) (by rw[zqI];omega) ?_
    have ha0:qav l=if(qbt (l.drop n)).2.2≠0\/qaL (l.drop (n+m))≠[]then(0,[],100)else if(qah 16 1099511627776 (l.take n)).2≠0 then(0,[],102)else((qah 16 1099511627776 (l.take n)).1,(qbt (l.drop n)).1,0):=by
     unfold qav;rw[hr,if_neg (by omega),hm,Int.toNat_natCast]
    rw[hm];have hw2:IntKind.i64.wrap ((n:Int)+m)=((n+m:Nat):Int):=by rw[qax (by omega) (by omega)];omega
    by_cases he:(qbt (l.drop n)).2.2=0
    ·have hnm:n+m<=l.length:=by omega
     simp[he,hw2,hnm,-Int.natCast_add];refine qfp E _ _ (l.drop (n+m)) (by rw[zqI];simp only[cap];omega) ?_;by_cases ht:qaL (l.drop (n+m))=[]
     ·rw[ht];simp[hn];refine qmH E _ _ (l.take n) 1099511627776 (by rw[zqJ];simp only[cap];omega) (by omega) (by omega) ?_;by_cases hx:(qah 16 1099511627776 (l.take n)).2=0
      ·have ha:qav l=((qah 16 1099511627776 (l.take n)).1,(qbt (l.drop n)).1,0):=by rw[ha0,if_neg (by simp[he,ht]),if_neg (by simp[hx])]
       rw[ha]at hQ;simp[hx];exact qap hB (v0:= .tup [.int .i64 (qah 16 1099511627776 (l.take n)).1,.sl false 3 (prs (qbt (l.drop n)).1),.int .i64 0]) (by simp) (qaa _) (by simp[qnv,-qrh]) hQ
      ·have hx2:((qah 16 1099511627776 (l.take n)).2 !=0)=true:=by simpa using hx
       have ha:qav l=(0,[],102):=by rw[ha0,if_neg (by simp[he,ht]),if_pos hx]
       simp[hx2];exact bad _ 102 ha rfl rfl rfl
     ·have ht2:(qaL (l.drop (n+m)) !=[])=true:=by simpa using ht
      have ha:qav l=(0,[],100):=by rw[ha0,if_pos (.inr ht)]
      simp[ht2];exact bad _ 100 ha rfl rfl rfl
    ·have he2:((qbt (l.drop n)).2.2 !=0)=true:=by simpa using he
     have ha:qav l=(0,[],100):=by rw[ha0,if_pos (.inl he)]
     simp[he2];exact bad _ 100 ha rfl rfl rfl
end
def qbh(l:List UInt8):Bool:=decide (l.length<=128)&&tokB l
def never:List (List UInt8):=[[99,111,110,110,101,99,116,105,111,110],[99,111,110,116,101,110,116,45,101,110,99,111,100,105,110,103],[99,111,110,116,101,110,116,45,108,101,110,103,116,104],[99,111,110,116,101,110,116,45,114,97,110,103,101],[99,111,110,116,101,110,116,45,116,121,112,101],[101,120,112,101,99,116],[104,111,115,116],[107,101,101,112,45,97,108,105,118,101],[116,101],[116,114,97,105,108,101,114],[116,114,97,110,115,102,101,114,45,101,110,99,111,100,105,110,103],[117,112,103,114,97,100,101]]
def mayB(l:List UInt8):Bool:=qbh l&&!never.contains (low l)
section
variable (E:Env)(H:Hp)(Q:AV->Hp->Prop)
theorem qic(hE:SE E)(l:List UInt8)(hl:l.length<=cap)(hQ:Q (.bool (qbh l)) H):PC Tryz.prog E 104 [.str l] H Q:=by
 refine qab Tryz.func104 rfl [] [] (by kernel_rfl) (fun hB=>?_);by_cases h:l.length<=128
 ·have h':(l.length:Int)<=128:=by omega
  have e:qbh l=tokB l:=by simp[qbh,h]
  rw[e]at hQ;simp[Tryz.ntmps104,Tryz.results104,List.replicate_succ,h'];refine qbr E _ _ hE l hl ?_;simp;exact aQz hB (h6:=hQ)
 ·have h':¬(l.length:Int)<=128:=by omega
  have e:qbh l=false:=by simp[qbh,h]
  rw[e]at hQ;simp[Tryz.ntmps104,Tryz.results104,List.replicate_succ,h'];exact aQz hB (h6:=hQ)
theorem qfI(hE:SE E)(l:List UInt8)(hl:l.length<=cap)(hQ:Q (.bool (mayB l)) H):PC Tryz.prog E 78 [.str l] H Q:=by
 refine qab Tryz.func78 rfl [] [] (by kernel_rfl) (fun hB=>?_);simp[Tryz.ntmps78,Tryz.results78,List.replicate_succ];refine qbn E _ _ l hl ?_;by_cases h:low l∈never
 ·have e:mayB l=false:=by unfold mayB;rw[List.contains_iff_mem.2 h];simp
  rw[e]at hQ;simp only[never,List.mem_cons,List.not_mem_nil,or_false]at h;rcases h with h|h|h|h|h|h|h|h|h|h|h|h
  all_goals
   rw[h];simp;exact aQz hB (h6:=hQ)
 ·have e:mayB l=qbh l:=by
   unfold mayB;have:never.contains (low l)=false:=Bool.eq_false_iff.2 (fun hh=>h (List.contains_iff_mem.1 hh));rw[this];simp
  rw[e]at hQ;have hb:∀x∈never,(low l==x)=false:=fun x hx=>beq_eq_false_iff_ne.2 (fun e=>h (e▸hx));have b0:=hb [99,111,110,110,101,99,116,105,111,110] (by simp[never]);have b1:=hb [99,111,110,116,101,110,116,45,101,110,99,111,100,105,110,103] (by simp[never]);have b2:=hb [99,111,110,116,101,110,116,45,108,101,110,103,116,104] (by simp[never]);have b3:=hb [99,111,110,116,101,110,116,45,114,97,110,103,101] (by simp[never]);have b4:=hb [99,111,110,116,101,110,116,45,116,121,112,101] (by simp[never]);have b5:=hb [101,120,112,101,99,116] (by simp[never]);have b6:=hb [104,111,115,116] (by simp[never]);have b7:=hb [107,101,101,112,45,97,108,105,118,101] (by simp[never]);have b8:=hb [116,101] (by simp[never]);have b9:=hb [116,114,97,105,108,101,114] (by simp[never]);have b10:=hb [116,114,97,110,115,102,101,114,45,101,110,99,111,100,105,110,103] (by simp[never]);have b11:=hb [117,112,103,114,97,100,101] (by simp[never]);clear hb h e;simp[b0,b1,b2,b3,b4,b5,b6,b7,b8,b9,b10,b11];refine qic E _ _ hE l hl ?_;simp;exact aQz hB (h6:=hQ)
end
structure Fld where
 name:List UInt8
 value:List UInt8
deriving DecidableEq
def ncol(b:UInt8):Bool:=b !=58
def qcD(l:List UInt8):Option Fld:=
 if run ncol l<l.length/\qbh (l.take (run ncol l))=true/\fldB (l.drop (run ncol l+1))=true/\(qaL (l.drop (run ncol l+1))).length<=8192 then some ⟨l.take (run ncol l),qaL (l.drop (run ncol l+1))⟩else none
theorem qee(l:List UInt8):Lib.indexByte l 58=if run ncol l<l.length then(run ncol l:Int)else-1:=by
 unfold run
 induction l with
 |nil=>rfl
 |cons a r ih=>
  unfold Lib.indexByte;rw[List.takeWhile_cons];by_cases h:a=58
  ·subst h;rfl
  ·have h1:(a==58)=false:=by simpa using h
   have h2:ncol a=true:=by simp[ncol,h]
   rw[h1,if_pos h2,ih];have hle:(r.takeWhile ncol).length<=r.length:=qbQ ncol r;by_cases hh:(r.takeWhile ncol).length<r.length
   ·rw[if_pos hh];have h3:(((r.takeWhile ncol).length:Int)== -1)=false:=by rw[beq_eq_false_iff_ne];omega
    simp[h3,hh]
   ·rw[if_neg hh];simp[hh]
theorem qfb(a:UInt8):(0<=Lib.indexByte [32,9] a)=(qag a=true):=by
 unfold Lib.indexByte qag;by_cases h1:a=32
 ·subst h1;decide
 ·by_cases h2:a=9
  ·subst h2;decide
  ·have e1:((32:UInt8)==a)=false:=by rw[beq_eq_false_iff_ne];exact fun e=>h1 e.symm
   have e2:((9:UInt8)==a)=false:=by rw[beq_eq_false_iff_ne];exact fun e=>h2 e.symm
   simp[e1,e2,h1,h2,Lib.indexByte]
theorem qkA(a:UInt8)(h:qag a=true):qaj a=false:=by
 unfold qag at h;simp at h;rcases h with rfl|rfl<;>decide
theorem qg8{l:List UInt8}(h:qbh (l.take (run ncol l))=false):qcD l=none:=by unfold qcD;rw[if_neg (by rw[h];simp)]
theorem qjd{l:List UInt8}(h:l.length<=run ncol l):qcD l=none:=by unfold qcD;rw[if_neg (by omega)]
theorem qh3:qbh []=false:=by decide
theorem qgD{l:List UInt8}(h:run ncol l=0):qcD l=none:=qg8 (by rw[h,List.take_zero];exact qh3)
theorem qh7{l:List UInt8}{i:Nat}{b:UInt8}(hi:i<run ncol l)(hb:l[i]? =some b)(hs:qaj b=false):qcD l=none:=by
 apply qg8;unfold qbh tokB;rw[qdN qaj (l.take (run ncol l)) i b (by rw[zqG hi];exact hb) hs];simp
theorem qkU{l:List UInt8}(hi:128<run ncol l):qcD l=none:=by
 apply qg8;have:=qbQ ncol l;unfold qbh;rw[decide_eq_false (by rw[zqJ];omega)];rfl
theorem qmw{l:List UInt8}(h:fldB (l.drop (run ncol l+1))=false):qcD l=none:=by unfold qcD;rw[if_neg (by rw[h];simp)]
theorem qmx{l:List UInt8}(h:8192<(qaL (l.drop (run ncol l+1))).length):qcD l=none:=by unfold qcD;rw[if_neg (by omega)]
section
variable (E:Env)(H:Hp)(Q:AV->Hp->Prop)
def qpR(l:List UInt8)(H:Hp)(fr:List AV)(H':Hp):Prop:=H'=H++[[.str [],.str []]]/\∃i:Nat,i<=run ncol l/\i<=128/\(l.take i).all qaj=true/\∃x:Nat->AV,fr=[.str l,x 1,.ptr (some (H.length,0)),x 3,x 4,.int .i64 (run ncol l:Nat),x 6,x 7,x 8,x 9,x 10,x 11,x 12,x 13,x 14,x 15,x 16,x 17,x 18,x 19,x 20,x 21,x 22,x 23,x 24,x 25,x 26,x 27,x 28,x 29,x 30,x 31,.int .i64 (run ncol l:Nat),.int .i64 i,x 34,x 35,x 36,x 37,x 38,x 39,x 40,x 41,x 42,x 43,x 44,x 45,x 46,x 47,x 48,x 49,x 50,x 51,x 52,x 53,x 54,x 55,x 56,x 57,x 58,x 59,x 60,x 61,x 62,x 63,x 64,x 65,x 66,x 67,x 68,x 69,x 70,x 71,x 72,x 73,x 74,x 75,x 76,x 77,x 78,x 79,x 80,x 81,x 82,x 83,x 84,x 85,x 86,x 87,x 88,x 89,x 90,x 91,x 92]
def qpQ(l:List UInt8)(H:Hp)(fr:List AV)(H':Hp):Prop:=H'=H++[[.str [],.str []]]/\∃i:Nat,run ncol l+1<=i/\i<=l.length/\fldB ((l.drop (run ncol l+1)).take (i-(run ncol l+1)))=true/\∃x:Nat->AV,fr=[.str l,x 1,.ptr (some (H.length,0)),x 3,x 4,.int .i64 (run ncol l:Nat),x 6,.int .i64 i,x 8,x 9,x 10,x 11,x 12,x 13,x 14,x 15,x 16,x 17,x 18,x 19,x 20,x 21,x 22,x 23,x 24,x 25,x 26,x 27,x 28,x 29,x 30,x 31,x 32,x 33,x 34,x 35,x 36,x 37,x 38,x 39,x 40,x 41,x 42,x 43,x 44,x 45,x 46,x 47,x 48,x 49,x 50,x 51,x 52,x 53,x 54,x 55,x 56,x 57,x 58,x 59,x 60,x 61,x 62,x 63,x 64,x 65,x 66,x 67,x 68,x 69,x 70,x 71,x 72,x 73,x 74,x 75,x 76,x 77,x 78,x 79,x 80,x 81,x 82,x 83,x 84,x 85,x 86,x 87,x 88,x 89,x 90,x 91,x 92]
theorem qhW(hE:SE E)(l:List UInt8)(hl:l.length<=cap)(hQ1:∀f,qcD l=some f->Q (.tup [.agg [.str f.name,.str f.value],.int .i64 0,.int .i64 0]) H)(hQ2:qcD l=none->∀pl e,e≠0->Q (.tup [.agg [.str [],.str []],.int .i64 pl,.int .i64 e]) H):
  PC Tryz.prog E 167 [.str l] H Q:=by
 refine qab Tryz.func167 rfl [] [] (by kernel_rfl) (fun hB=>?_);have hl':=hl;simp only[cap]at hl';obtain⟨c,hc⟩:=exz (run ncol l);have hcl:=qbQ ncol l;rw[hc]at hcl;have hib:=qee l;rw[hc]at hib
 have bad:∀(fr:List AV) (pl e:Int),qcD l=none->e≠0->aget fr 2= .ptr (some (H.length,0))->aget fr 3= .int .i64 pl->aget fr 4= .int .i64 e->qcc Tryz.prog [ResultVar.cell 2 65,ResultVar.tmp 3,ResultVar.tmp 4] H.length Q .ret fr (H++[[.str [],.str []]]):=fun fr pl e h0 he h2 h3 h4=>
  qac hB (v0:= .tup [.agg [.str [],.str []],.int .i64 pl,.int .i64 e]) (by simp[h2,h3,h4]) (qaa _) (by simp) (hQ2 h0 pl e he)
 have hcase:l=[]\/(∃a r,l=a::r/\qag a=true)\/(∃a r,l=a::r/\qag a=false):=by
  cases l with
  |nil=>exact .inl rfl
  |cons a r=>
   cases hb:qag a
   ·exact .inr (.inr ⟨a,r,rfl,hb⟩)
   ·exact .inr (.inl ⟨a,r,rfl,hb⟩)
 rcases hcase with rfl|⟨a,r,rfl,hb⟩|⟨a,r,hl0,hb⟩
 ·simp[Tryz.ntmps167,Tryz.results167,List.replicate_succ];refine qar E _ _ [] 58 ?_;have e0:Lib.indexByte [] 58= -1:=rfl;rw[e0];simp;exact bad _ 0 62 (by decide) (by decide) rfl rfl rfl
 ·have hc0:qcD (a::r)=none:=by
   by_cases hz:c=0
   ·exact qgD (by rw[hc];exact hz)
   ·exact qh7 (i:=0) (b:=a) (by omega) rfl (qkA a hb)
  have hib2:0<=Lib.indexByte [32,9] a:=by rw[qfb];exact hb
  have hne:(a::r !=[])=true:=rfl;simp[Tryz.ntmps167,Tryz.results167,List.replicate_succ,hne];refine qar E _ _ [32,9] a ?_;simp[hib2];exact bad _ 0 63 hc0 (by decide) rfl rfl rfl
 ·have hib2:¬0<=Lib.indexByte [32,9] a:=by rw[qfb,hb];simp
  have hne:(l !=[])=true:=by rw[hl0];rfl
  have hl1:0<l.length:=by rw[hl0];simp
  have hla:lat l 0=some a:=by rw[hl0];rfl
  simp[Tryz.ntmps167,Tryz.results167,List.replicate_succ,hne,hl1,hla];refine qar E _ _ [32,9] a ?_;simp[hib2];refine qar E _ _ l 58 ?_;rw[hib];clear hib2 hne hla hl0 hib;by_cases hcc:c<l.length;rotate_left
  ·have hno:=qjd (l:=l) (by omega);simp[hcc];exact bad _ l.length 62 hno (by decide) rfl rfl rfl
  ·by_cases hz:c=0
   ·have hno:=qgD (l:=l) (by omega);subst hz;simp[hcc];exact bad _ 0 60 hno (by decide) rfl rfl rfl
   ·have hz2:((c:Int)==0)=false:=by simp;omega
    simp[hcc,hz,hz2];subst hc;refine qaG (qpR l H) (fun fr _=>run ncol l-(ai (aget fr 33)).toNat) ⟨rfl,0,by omega,by omega,by simp,friz⟩ ?_;rintro fr H' ⟨rfl,i,hi,hi2,hall,x,rfl⟩;by_cases h:i<run ncol l
    ·obtain⟨b,hbi⟩:∃b,l[i]? =some b:=⟨_,zqD (by omega)⟩
     by_cases h128:128<=i
     ·have hno:=qkU (l:=l) (by omega);have h128':(128:Int)<=i:=by omega
      simp[h,h128'];exact bad _ i 60 hno (by decide) rfl rfl rfl
     ·have h128':¬(128:Int)<=i:=by omega
      have hw:IntKind.i64.wrap ((i:Int)+1)=i+1:=wiz;have t1:((i:Int)+1).toNat=i+1:=by omega
      have t2:(0:Int)<=i+1:=by omega
      have t3:(l.drop i).take 1=[b]:=by rw[qay l i b hbi];rfl
      have t4:i+1<=l.length:=by omega
      have ht:tokB [b]=qaj b:=by simp[tokB]
      simp[h,h128',hw,t1,t2,t3,t4];refine qbr E _ _ hE [b] (by simp[cap]) ?_;rw[ht];cases hs:qaj b with
      |false=>
       have hno:=qh7 h hbi hs;simp;exact bad _ i 60 hno (by decide) rfl rfl rfl
      |true=>
       simp[hw];refine qaC ?_ ?_;rotate_left
       ·simp;omega
       refine⟨rfl,i+1,by omega,by omega,?_,friz⟩;rw[qbJ qaj l i b hbi,hall,hs];rfl
    ·obtain rfl:i=run ncol l:=by omega
     have hnm:qbh (l.take (run ncol l))=true:=by
      unfold qbh tokB;rw[hall,decide_eq_true (by rw[zqJ];omega)];have:l.take (run ncol l)≠[]:=by intro e;have h2:=congrArg List.length e;rw[zqJ]at h2;have h3:min (run ncol l) l.length=0:=h2;omega
      cases he:l.take (run ncol l)with
      |nil=>exact absurd he this
      |cons _ _=>rfl
     have hw1:IntKind.i64.wrap (((run ncol l:Nat):Int)+1)=((run ncol l+1:Nat):Int):=by rw[qax (by omega) (by omega)];omega
     clear hall;simp[h,hw1,-Int.natCast_add];refine qaG (qpQ l H) (fun fr _=>l.length-(ai (aget fr 7)).toNat) ⟨rfl,run ncol l+1,by omega,by omega,by rw[Nat.sub_self,List.take_zero];rfl,friz⟩ ?_;clear hw1;rintro fr H' ⟨rfl,i,hi1,hi2,hall,x,rfl⟩;by_cases h:i<l.length
     ·obtain⟨b,hbi⟩:∃b,l[i]? =some b:=⟨_,zqD h⟩
      have hbd:(l.drop (run ncol l+1))[i-(run ncol l+1)]? =some b:=by rw[zqN,show run ncol l+1+(i-(run ncol l+1))=i by omega];exact hbi
      have hw:IntKind.i64.wrap ((i:Int)+1)=i+1:=wiz;have t1:((i:Int)+1).toNat=i+1:=by omega
      have t2:(0:Int)<=i+1:=by omega
      have t3:(l.drop i).take 1=[b]:=by rw[qay l i b hbi];rfl
      have t4:i+1<=l.length:=by omega
      have ht:fldB [b]=fcB b:=by simp[fldB]
      simp[h,hw,t1,t2,t3,t4];refine qdt E _ _ [b] (by simp[cap]) ?_;rw[ht];cases hs:fcB b with
      |false=>
       have hno:=qmw (l:=l) (qdN fcB _ _ b hbd hs);simp;exact bad _ i 61 hno (by decide) rfl rfl rfl
      |true=>
       simp[hw];refine qaC ?_ ?_;rotate_left
       ·simp;omega
       refine⟨rfl,i+1,by omega,by omega,?_,friz⟩;rw[show i+1-(run ncol l+1)=(i-(run ncol l+1))+1 by omega];unfold fldB at hall⊢;rw[qbJ fcB _ _ b hbd,hall,hs];rfl
     ·obtain rfl:i=l.length:=by omega
      have hfl:fldB (l.drop (run ncol l+1))=true:=by rw[zqE (by rw[zqI];omega)]at hall;exact hall
      clear hall h;obtain⟨c,hc⟩:=exz (run ncol l);rw[hc]at hcl hcc hz hz2 hnm hfl hi1;have hw1:IntKind.i64.wrap ((c:Int)+1)=((c+1:Nat):Int):=by rw[qax (by omega) (by omega)];omega
      have t4:c+1<=l.length:=by omega
      simp[hc,hw1,t4,-Int.natCast_add];refine qfp E _ _ (l.drop (c+1)) (by rw[zqI];simp only[cap];omega) ?_;by_cases hbig:8192<(qaL (l.drop (c+1))).length
      ·have hbig':(8192:Int)<(qaL (l.drop (c+1))).length:=by omega
       have hno:=qmx (l:=l) (by rw[hc];exact hbig);simp[hbig'];refine qiK E _ _ (l.drop (c+1)) (by rw[zqI];simp only[cap];omega) (fun y hy=>?_);simp;exact bad _ _ 61 hno (by decide) rfl rfl rfl
      ·have hbig':¬(8192:Int)<(qaL (l.drop (c+1))).length:=by omega
       have hyes:qcD l=some ⟨l.take c,qaL (l.drop (c+1))⟩:=by
        unfold qcD;rw[hc,if_pos ⟨hcc,hnm,hfl,by omega⟩]
       simp[hbig',hcl];exact qac hB (v0:= .tup [.agg [.str (l.take c),.str (qaL (l.drop (c+1)))],.int .i64 0,.int .i64 0]) (by simp) (qaa _) (by simp) (hQ1 _ hyes)
end
theorem qaZ{H:Hp}(hB:BndH H.length H)(c:Nat){l:List AV}(hl:∀x∈l,Bnd H.length x):BndH (H.set c l).length (H.set c l):=by
 intro m hm x hx;rw[List.length_set];rcases List.mem_or_eq_of_mem_set hm with h|h
 ·exact hB m h x hx
 ·rw[h]at hx;exact hl x hx
theorem qer{P:Program}{rs:List ResultVar}{Q:AV->Hp->Prop}{fr:List AV}{H J:Hp}{v0 v:AV}{c:Nat}{l:List AV}(hB:BndH H.length H)(h1:ares P fr (H.set c l++J) rs=some v0)(h2:nilV v0 v)(hl:∀x∈l,Bnd H.length x)(h5:Bnd H.length v)(h6:Q v (H.set c l)):
  qcc P rs H.length Q .ret fr (H.set c l++J):=qnQ h1 h2 (by simp) (qaZ hB c hl) (by simpa using h5) h6
theorem qaE{P:Program}{rs:List ResultVar}{Q:AV->Hp->Prop}{fr:List AV}{H:Hp}{v0 v:AV}{c:Nat}{l:List AV}(hB:BndH H.length H)(h1:ares P fr (H.set c l) rs=some v0)(h2:nilV v0 v)(hl:∀x∈l,Bnd H.length x)(h5:Bnd H.length v)(h6:Q v (H.set c l)):
  qcc P rs H.length Q .ret fr (H.set c l):=by
 have:=qer (J:=[]) (P:=P) (rs:=rs) (Q:=Q) (fr:=fr) hB (by rw[List.append_nil];exact h1) h2 hl h5 h6;rwa[List.append_nil]at this
section
variable {H:Hp}{c:Nat}(h:c<H.length)
include h
theorem hs0(J:Hp):(H++J)[c]? =H[c]? :=zqA h
theorem hs1(x:List AV)(J:Hp):(H.set c x++J)[c]? =some x:=by rw[zqA (by simpa using h),zqO h]
theorem hs2(x y:List AV)(J:Hp):(H.set c x++J).set c y=H.set c y++J:=by rw[List.set_append_left _ _ (by simpa using h),List.set_set]
theorem hs3(y:List AV)(J:Hp):(H++J).set c y=H.set c y++J:=List.set_append_left _ _ h
theorem hs4(x:List AV):(H.set c x)[c]? =some x:=zqO h
theorem hs5(x y:List AV):(H.set c x).set c y=H.set c y:=List.set_set ..
end
theorem qdO{P:Program}{rs:List ResultVar}{Q:AV->Hp->Prop}{fr:List AV}{H J:Hp}{v:AV}{c:Nat}{l l':List AV}(hB:BndH H.length H)(hc:c<H.length)(hn:nilL l l')(h1:ares P fr (H.set c l++J) rs=some v)(hl:∀x∈l',Bnd H.length x)(h5:Bnd H.length v)(h6:Q v (H.set c l')):
  qcc P rs H.length Q .ret fr (H.set c l++J):=by
 refine⟨v,v,H.set c l'++J,H.set c l',J,h1,qaa _,?_,rfl,by simp,qaZ hB c hl,by simpa using h5,h6⟩;have:=qch (H.set c l++J) c l l' (hs1 hc _ _) hn;rw[hs2 hc]at this;exact this
theorem qaD{P:Program}{rs:List ResultVar}{Q:AV->Hp->Prop}{fr:List AV}{H:Hp}{v:AV}{c:Nat}{l l':List AV}(hB:BndH H.length H)(hc:c<H.length)(hn:nilL l l')(h1:ares P fr (H.set c l) rs=some v)(hl:∀x∈l',Bnd H.length x)(h5:Bnd H.length v)(h6:Q v (H.set c l')):
  qcc P rs H.length Q .ret fr (H.set c l):=by
 have:=qdO (J:=[]) (P:=P) (rs:=rs) (Q:=Q) (fr:=fr) hB hc hn (by rw[List.append_nil];exact h1) hl h5 h6;rwa[List.append_nil]at this
def flds(l:List Fld):List (List AV):=l.map fun f=>[.str f.name,.str f.value]
@[simp] theorem qcX (l:List Fld):(flds l).length=l.length:=by simp[flds]
theorem qeh(l:List Fld)(f:Fld):flds l++[[.str f.name,.str f.value]]=flds (l++[f]):=by simp[flds]
theorem qco{l:List Fld}{i:Nat}{f:Fld}(h:l[i]? =some f):lat (flds l) i=some [.str f.name,.str f.value]:=by simp[lat,flds,h]
theorem qdx{N:Nat}(o k)(l:List Fld):Bnd N (.sl o k (flds l)):= .sl _ _ _ fun r hr x hx=>by
 obtain⟨c,_,rfl⟩:=List.mem_map.1 hr;simp at hx;rcases hx with rfl|rfl<;>exact .str _
@[simp] theorem bnd_flds' {N:Nat} (l:List Fld):(∀r∈flds l,∀x∈r,Bnd N x)=True:=eq_true fun r hr x hx=>by
 obtain⟨c,_,rfl⟩:=List.mem_map.1 hr;simp at hx;rcases hx with rfl|rfl<;>exact .str _
@[simp] theorem bnd_bts' {N:Nat} (l:List UInt8):(∀r∈bts l,∀x∈r,Bnd N x)=True:=eq_true (qjq l)
theorem qd2{H:Hp}{i:Nat}{l:List AV}(h:H[i]? =some l):H.set i l=H:=by
 apply List.ext_getElem?;intro j;by_cases hj:i=j
 ·subst hj;rw[zqO (zqC.1 h).1,h]
 ·rw[zqF hj]
theorem qgc(b:UInt8)(n:Nat)(hn:n<256)(h:b≠UInt8.ofNat n):((b.toNat:Int)==n)=false:=by
 rw[beq_eq_false_iff_ne];exact fun e=>h (UInt8.toNat_inj.1 (by rw[UInt8.toNat_ofNat',Nat.mod_eq_of_lt hn];omega))
inductive Stg where
 |size|data|first|second|trailer
deriving DecidableEq
def Stg.fid:Stg->FuncId
 | .size=>217
 | .data=>231
 | .first=>239
 | .second=>246
 | .trailer=>230
structure Dec where
 most:Int
 room:Int
 fields:Int
 st:Stg
 line:List UInt8
 left:Int
 body:List UInt8
 trailers:List Fld
 section_:Nat
 total:Nat
 done:Bool
 err:Int
deriving DecidableEq
def Dec.av(d:Dec):List AV:=[.int .i64 d.most,.int .i64 d.room,.int .i64 d.fields,.fn d.st.fid [],.sl true 1 (bts d.line),.int .i64 d.left,.sl true 1 (bts d.body),.sl true 2 (flds d.trailers),.int .i64 d.section_,.int .i64 d.total,.bool d.done,.int .i64 d.err]
theorem Dec.bnd(d:Dec)(N:Nat):∀x∈d.av,Bnd N x:=by
 intro x hx;simp[Dec.av]at hx;rcases hx with rfl|rfl|rfl|rfl|rfl|rfl|rfl|rfl|rfl|rfl|rfl|rfl<;>simp
def endL(l:List UInt8):Option (List UInt8):=if 2<=l.length/\l.drop (l.length-2)=[13,10]then some (l.take (l.length-2))else none
def qiQ(d:Dec)(b:UInt8):Dec×Int:=
 if b≠10 then({d with line:=d.line++[b]},if 256<=(d.line++[b]).length then 100 else 0)
 else match endL (d.line++[b])with
  |none=>({d with line:=[]},100)
  |some s=>if(qav s).2.2≠0 then({d with line:=[]},(qav s).2.2)
   else if d.most-d.body.length<(qav s).1 then({d with line:=[]},102)
   else if(qav s).1=0 then({d with line:=[],st:= .trailer},0)
   else({d with line:=[],left:=(qav s).1,st:= .data},0)
def qhp(d:Dec)(b:UInt8):Dec×Int:=(if d.left=1 then{d with body:=d.body++[b],left:=0,st:= .first}else{d with body:=d.body++[b],left:=d.left-1},0)
def qfV(d:Dec)(b:UInt8):Dec×Int:=if b≠13 then(d,100)else({d with st:= .second},0)
def qdF(d:Dec)(b:UInt8):Dec×Int:=if b≠10 then(d,100)else({d with st:= .size},0)
def qbG(d:Dec)(b:UInt8):Dec×Int:=
 if d.room<=d.section_ then(d,104)
 else if b≠10 then({d with section_:=d.section_+1,line:=d.line++[b]},0)
 else match endL (d.line++[b])with
  |none=>({d with section_:=d.section_+1,line:=[]},101)
  |some s=>if s=[]then({d with section_:=d.section_+1,line:=[],done:=true},0)
   else if d.fields<=d.trailers.length then({d with section_:=d.section_+1,line:=[]},104)
   else match qcD s with
    |none=>({d with section_:=d.section_+1,line:=[]},101)
    |some f=>if mayB f.name=true then({d with section_:=d.section_+1,line:=[],trailers:=d.trailers++[f]},0)else({d with section_:=d.section_+1,line:=[]},101)
section
variable (E:Env)(H:Hp)(Q:AV->Hp->Prop)(i:Nat)(d:Dec)(hd:H[i]? =some d.av)
include hd
theorem qe2:i<H.length:=(zqC.1 hd).1
theorem qka(hl:d.line.length<=1073741824)(hQ:Q (match endL d.line with|some s=> .tup [.str s,.bool true]|none=> .tup [.str [],.bool false]) (H.set i ({d with line:=[]}:Dec).av)):
  PC Tryz.prog E 228 [.ptr (some (i,0))] H Q:=by
 have hlt:=qe2 H i d hd;refine qab Tryz.func228 rfl [] [] (by kernel_rfl) (fun hB=>?_);have hw:IntKind.i64.wrap ((d.line.length:Int)-2)=d.line.length-2:=wiz;have hm:d.line.length<=maxLen:=by unfold maxLen;omega
 simp[Dec.av]at hd;simp[Tryz.ntmps228,Tryz.results228,List.replicate_succ,hd,hs0 hlt,hs1 hlt,hs2 hlt,hs3 hlt,hs4 hlt,hs5 hlt,hm,hw]
 have hn:nilL [AV.int .i64 d.most,.int .i64 d.room,.int .i64 d.fields,.fn d.st.fid [],.nil,.int .i64 d.left,.sl true 1 (bts d.body),.sl true 2 (flds d.trailers),.int .i64 d.section_,.int .i64 d.total,.bool d.done,.int .i64 d.err] ({d with line:=[]}:Dec).av:=
  ⟨.inl rfl,.inl rfl,.inl rfl,.inl rfl,.inr ⟨rfl,true,1,rfl⟩,.inl rfl,.inl rfl,.inl rfl,.inl rfl,.inl rfl,.inl rfl,.inl rfl,trivial⟩
 by_cases h2:2<=d.line.length
 ·have h2':(2:Int)<=d.line.length:=by omega
  have t1:(0:Int)<=d.line.length-2:=by omega
  have t2:((d.line.length:Int)-2).toNat=d.line.length-2:=by omega
  have t3:d.line.length-2<=d.line.length:=by omega
  by_cases he:d.line.drop (d.line.length-2)=[13,10]
  ·have hE:endL d.line=some (d.line.take (d.line.length-2)):=if_pos ⟨h2,he⟩;rw[hE]at hQ;have he1:(d.line.drop (d.line.length-2)==[13,10])=true:=beq_iff_eq.2 he;simp[h2',t1,t2,t3,he1,h2];exact qaD hB hlt hn (by simp) (({d with line:=[]}:Dec).bnd _) (by simp) hQ
  ·have hE:endL d.line=none:=if_neg (fun h=>he h.2);have he2:(d.line.drop (d.line.length-2)==[13,10])=false:=beq_eq_false_iff_ne.2 he;rw[hE]at hQ;simp[h2',t1,t2,t3,he2,h2];exact qaD hB hlt hn (by simp) (({d with line:=[]}:Dec).bnd _) (by simp) hQ
 ·have h2':¬(2:Int)<=d.line.length:=by omega
  have hE:endL d.line=none:=if_neg (fun h=>h2 h.1);rw[hE]at hQ;simp[h2'];exact qaD hB hlt hn (by simp) (({d with line:=[]}:Dec).bnd _) (by simp) hQ
variable (b:UInt8)
theorem qo7(hQ:Q (.int .i64 (qfV d b).2) (H.set i (qfV d b).1.av)):PC Tryz.prog E 239 [.ptr (some (i,0)),.int .u8 (b.toNat:Int)] H Q:=by
 have hlt:=qe2 H i d hd;have hself:H.set i d.av=H:=qd2 hd;refine qab Tryz.func239 rfl [] [] (by kernel_rfl) (fun hB=>?_);by_cases hb:b=13
 ·subst hb;have e:qfV d 13=({d with st:= .second},0):=rfl;rw[e]at hQ;simp[Dec.av]at hd;simp[Tryz.ntmps239,Tryz.results239,List.replicate_succ,hd,hs0 hlt,hs1 hlt,hs2 hlt,hs3 hlt,hs4 hlt,hs5 hlt];exact qaE hB rfl (qaa _) (({d with st:= .second}:Dec).bnd _) (by simp) hQ
 ·have e:qfV d b=(d,100):=if_pos hb;have hb2:((b.toNat:Int)==13)=false:=qgc b 13 (by decide) hb;rw[e]at hQ;simp only[hself]at hQ;simp[Tryz.ntmps239,Tryz.results239,List.replicate_succ,bne,hb2];exact aQz hB (h6:=hQ)
theorem qlU(hQ:Q (.int .i64 (qdF d b).2) (H.set i (qdF d b).1.av)):PC Tryz.prog E 246 [.ptr (some (i,0)),.int .u8 (b.toNat:Int)] H Q:=by
 have hlt:=qe2 H i d hd;have hself:H.set i d.av=H:=qd2 hd;refine qab Tryz.func246 rfl [] [] (by kernel_rfl) (fun hB=>?_);by_cases hb:b=10
 ·subst hb;have e:qdF d 10=({d with st:= .size},0):=rfl;rw[e]at hQ;simp[Dec.av]at hd;simp[Tryz.ntmps246,Tryz.results246,List.replicate_succ,hd,hs0 hlt,hs1 hlt,hs2 hlt,hs3 hlt,hs4 hlt,hs5 hlt];exact qaE hB rfl (qaa _) (({d with st:= .size}:Dec).bnd _) (by simp) hQ
 ·have e:qdF d b=(d,100):=if_pos hb;have hb2:((b.toNat:Int)==10)=false:=qgc b 10 (by decide) hb;rw[e]at hQ;simp only[hself]at hQ;simp[Tryz.ntmps246,Tryz.results246,List.replicate_succ,bne,hb2];exact aQz hB (h6:=hQ)
theorem qrc(hl:d.body.length<=1073741824)(hlf:1<=d.left/\d.left<=1099511627776)(hQ:Q (.int .i64 (qhp d b).2) (H.set i (qhp d b).1.av)):PC Tryz.prog E 231 [.ptr (some (i,0)),.int .u8 (b.toNat:Int)] H Q:=by
 have hlt:=qe2 H i d hd;refine qab Tryz.func231 rfl [9] [] (by kernel_rfl) (fun hB=>?_);have hw:IntKind.i64.wrap (d.left-1)=d.left-1:=wiz;have m1:d.body.length+1<=maxLen:=by unfold maxLen;omega
 have m2:d.body.length+1<=140737488355328:=by omega
 simp[Dec.av]at hd;by_cases h1:d.left=1
 ·have e:qhp d b=({d with body:=d.body++[b],left:=0,st:= .first},0):=by unfold qhp;rw[if_pos h1]
  rw[e]at hQ;have hw1:IntKind.i64.wrap 0=0:=rfl;simp[Tryz.ntmps231,Tryz.results231,List.replicate_succ,hd,hs0 hlt,hs1 hlt,hs2 hlt,hs3 hlt,hs4 hlt,hs5 hlt,m1,m2,h1,hw1,qc1];exact qaE hB rfl (qaa _) (({d with body:=d.body++[b],left:=0,st:= .first}:Dec).bnd _) (by simp) hQ
 ·have e:qhp d b=({d with body:=d.body++[b],left:=d.left-1},0):=by unfold qhp;rw[if_neg h1]
  rw[e]at hQ;have h0:(d.left-1==0)=false:=by rw[beq_eq_false_iff_ne];omega
  simp[Tryz.ntmps231,Tryz.results231,List.replicate_succ,hd,hs0 hlt,hs1 hlt,hs2 hlt,hs3 hlt,hs4 hlt,hs5 hlt,m1,m2,hw,h0,qc1];exact qaE hB rfl (qaa _) (({d with body:=d.body++[b],left:=d.left-1}:Dec).bnd _) (by simp) hQ
end
theorem qfy(l:List UInt8)(h:(qav l).2.2=0):0<=(qav l).1/\(qav l).1<=1099511627776:=by
 unfold qav at h⊢;split at h
 ·simp at h
 ·rename_i h1;rw[if_neg h1];split at h
  ·simp at h
  ·rename_i h2;rw[if_neg h2];split at h
   ·simp at h
   ·rename_i h3;rw[if_neg h3];simp only[ne_eq,Decidable.not_not]at h3;simp only;unfold qah at h3⊢;split at h3
    ·simp at h3
    ·rename_i g1;rw[if_neg g1];split at h3
     ·simp at h3
     ·rename_i g2;rw[if_neg g2];split at h3
      ·simp at h3
      ·rename_i g3;rw[if_neg g3];have:=qbp 16 (by omega) _ (by simpa using g2);simp only;omega
section
variable (E:Env)(H:Hp)(Q:AV->Hp->Prop)(i:Nat)(d:Dec)(hd:H[i]? =some d.av)(b:UInt8)
include hd
theorem qqu(hE:SE E)(hl:d.line.length<=1000000000)(hbl:d.body.length<=1073741824)(hm:0<=d.most/\d.most<=9223372036854775807)(hQ:Q (.int .i64 (qiQ d b).2) (H.set i (qiQ d b).1.av)):PC Tryz.prog E 217 [.ptr (some (i,0)),.int .u8 (b.toNat:Int)] H Q:=by
 have hlt:=qe2 H i d hd;refine qab Tryz.func217 rfl [14] [] (by kernel_rfl) (fun hB=>?_);have m1:d.line.length+1<=maxLen:=by unfold maxLen;omega
 have m2:d.line.length+1<=140737488355328:=by omega
 simp[Dec.av]at hd;by_cases hb:b=10
 ·subst hb
  have e0:qiQ d 10=(match endL (d.line++[10])with
   |none=>({d with line:=[]},100)
   |some s=>if(qav s).2.2≠0 then({d with line:=[]},(qav s).2.2)
    else if d.most-d.body.length<(qav s).1 then({d with line:=[]},102)
    else if(qav s).1=0 then({d with line:=[],st:= .trailer},0)
    else({d with line:=[],left:=(qav s).1,st:= .data},0)):=rfl
  rw[e0]at hQ;clear e0;have hb10:[AV.int .u8 10]=[AV.int .u8 ((10:UInt8).toNat:Int)]:=rfl;have hsn:bts d.line++[[AV.int .u8 10]]=bts (d.line++[10]):=qc1 d.line 10;simp[Tryz.ntmps217,Tryz.results217,List.replicate_succ,hd,hs0 hlt,hs1 hlt,hs2 hlt,hs3 hlt,hs4 hlt,hs5 hlt,m1,m2,hsn];refine qka E _ _ i {d with line:=d.line++[10]} (by rw[zqO hlt];rfl) (by simp;omega) ?_;cases hend:endL (d.line++[10])with
  |none=>
   rw[hend]at hQ;simp;exact qaE hB rfl (qaa _) (({d with line:=[]}:Dec).bnd _) (by simp) hQ
  |some s=>
   rw[hend]at hQ;simp only at hQ
   have hsl:s.length<=cap:=by
    unfold endL at hend;split at hend
    ·cases hend;rw[zqJ,zqK];simp only[cap];simp;omega
    ·cases hend
   simp;refine qhV E _ _ hE s hsl ?_;by_cases he:(qav s).2.2=0
   ·rw[if_neg (by simpa using he)]at hQ;have hrg:=qfy s he;have hw:IntKind.i64.wrap (d.most-d.body.length)=d.most-d.body.length:=wiz;by_cases hmu:d.most-d.body.length<(qav s).1
    ·rw[if_pos hmu]at hQ;simp[he,Dec.av,hs0 hlt,hs1 hlt,hs2 hlt,hs3 hlt,hs4 hlt,hs5 hlt,hw,hmu];exact qaE hB rfl (qaa _) (({d with line:=[]}:Dec).bnd _) (by simp) hQ
    ·rw[if_neg hmu]at hQ;by_cases hz:(qav s).1=0
     ·rw[if_pos hz]at hQ;rw[hz]at hmu;simp[he,Dec.av,hs0 hlt,hs1 hlt,hs2 hlt,hs3 hlt,hs4 hlt,hs5 hlt,hw,hmu,hz];exact qaE hB rfl (qaa _) (({d with line:=[],st:= .trailer}:Dec).bnd _) (by simp) hQ
     ·rw[if_neg hz]at hQ;have hz2:((qav s).1==0)=false:=beq_eq_false_iff_ne.2 hz;simp[he,Dec.av,hs0 hlt,hs1 hlt,hs2 hlt,hs3 hlt,hs4 hlt,hs5 hlt,hw,hmu,hz2];exact qaE hB rfl (qaa _) (({d with line:=[],left:=(qav s).1,st:= .data}:Dec).bnd _) (by simp) hQ
   ·rw[if_pos (by simpa using he)]at hQ;have he2:((qav s).2.2 !=0)=true:=by simpa using he
    simp[he2];exact qaE hB rfl (qaa _) (({d with line:=[]}:Dec).bnd _) (by simp) hQ
 ·have e0:qiQ d b=({d with line:=d.line++[b]},if 256<=(d.line++[b]).length then 100 else 0):=if_pos hb;rw[e0]at hQ;have hb2:((b.toNat:Int)==10)=false:=qgc b 10 (by decide) hb;by_cases h256:256<=(d.line++[b]).length
  ·rw[if_pos h256]at hQ;have h256':(256:Int)<=d.line.length+1:=by simp at h256;omega
   simp[Tryz.ntmps217,Tryz.results217,List.replicate_succ,hd,hs0 hlt,hs1 hlt,hs2 hlt,hs3 hlt,hs4 hlt,hs5 hlt,m1,m2,qc1,bne,hb2,h256'];exact qaE hB rfl (qaa _) (({d with line:=d.line++[b]}:Dec).bnd _) (by simp) hQ
  ·rw[if_neg h256]at hQ;have h256':¬(256:Int)<=d.line.length+1:=by simp at h256;omega
   simp[Tryz.ntmps217,Tryz.results217,List.replicate_succ,hd,hs0 hlt,hs1 hlt,hs2 hlt,hs3 hlt,hs4 hlt,hs5 hlt,m1,m2,qc1,bne,hb2,h256'];exact qaE hB rfl (qaa _) (({d with line:=d.line++[b]}:Dec).bnd _) (by simp) hQ
theorem qkw(hE:SE E)(hl:d.line.length<=1000000000)(htl:d.trailers.length<=1073741824)(hsl:d.section_<=1073741824)(hQ:Q (.int .i64 (qbG d b).2) (H.set i (qbG d b).1.av)):PC Tryz.prog E 230 [.ptr (some (i,0)),.int .u8 (b.toNat:Int)] H Q:=by
 have hlt:=qe2 H i d hd;have hself:H.set i d.av=H:=qd2 hd;refine qab Tryz.func230 rfl [30,78] [] (by kernel_rfl) (fun hB=>?_);have m1:d.line.length+1<=maxLen:=by unfold maxLen;omega
 have m2:d.line.length+1<=140737488355328:=by omega
 have m3:d.trailers.length+1<=maxLen:=by unfold maxLen;omega
 have m4:(d.trailers.length+1)*32<=140737488355328:=by omega
 have hw:IntKind.i64.wrap ((d.section_:Int)+1)=((d.section_+1:Nat):Int):=by rw[qax (by omega) (by omega)];omega
 simp[Dec.av]at hd;by_cases hr:d.room<=d.section_
 ·have e0:qbG d b=(d,104):=if_pos hr;rw[e0]at hQ;simp only[hself]at hQ;simp[Tryz.ntmps230,Tryz.results230,List.replicate_succ,hd,hs0 hlt,hs1 hlt,hs2 hlt,hs3 hlt,hs4 hlt,hs5 hlt,hr];exact aQz hB (h6:=hQ)
 ·by_cases hb:b=10
  ·subst hb
   have e0:qbG d 10=(match endL (d.line++[10])with
    |none=>({d with section_:=d.section_+1,line:=[]},101)
    |some s=>if s=[]then({d with section_:=d.section_+1,line:=[],done:=true},0)
     else if d.fields<=d.trailers.length then({d with section_:=d.section_+1,line:=[]},104)
     else match qcD s with
      |none=>({d with section_:=d.section_+1,line:=[]},101)
      |some f=>if mayB f.name=true then({d with section_:=d.section_+1,line:=[],trailers:=d.trailers++[f]},0)else({d with section_:=d.section_+1,line:=[]},101)):=by
    unfold qbG;rw[if_neg hr];rfl
   rw[e0]at hQ;clear e0;have hsn:bts d.line++[[AV.int .u8 10]]=bts (d.line++[10]):=qc1 d.line 10;simp[Tryz.ntmps230,Tryz.results230,List.replicate_succ,hd,hs0 hlt,hs1 hlt,hs2 hlt,hs3 hlt,hs4 hlt,hs5 hlt,hr,m1,m2,hsn,hw,-Int.natCast_add];refine qka E _ _ i {d with line:=d.line++[10],section_:=d.section_+1} (by rw[zqO hlt];rfl) (by simp;omega) ?_;cases hend:endL (d.line++[10])with
   |none=>
    rw[hend]at hQ;simp;exact qaE hB rfl (qaa _) (({d with section_:=d.section_+1,line:=[]}:Dec).bnd _) (by simp) hQ
   |some s=>
    rw[hend]at hQ;simp only at hQ
    have hsl:s.length<=cap:=by
     unfold endL at hend;split at hend
     ·cases hend;rw[zqJ,zqK];simp only[cap];simp;omega
     ·cases hend
    by_cases hse:s=[]
    ·rw[if_pos hse]at hQ;subst hse;simp[Dec.av,hs0 hlt,hs1 hlt,hs2 hlt,hs3 hlt,hs4 hlt,hs5 hlt];exact qaE hB rfl (qaa _) (({d with section_:=d.section_+1,line:=[],done:=true}:Dec).bnd _) (by simp) hQ
    ·rw[if_neg hse]at hQ;have hs02:(s==[])=false:=beq_eq_false_iff_ne.2 hse;by_cases hf:d.fields<=d.trailers.length
     ·rw[if_pos hf]at hQ;simp[Dec.av,hs0 hlt,hs1 hlt,hs2 hlt,hs3 hlt,hs4 hlt,hs5 hlt,hs02,hf];exact qaE hB rfl (qaa _) (({d with section_:=d.section_+1,line:=[]}:Dec).bnd _) (by simp) hQ
     ·rw[if_neg hf]at hQ;simp[Dec.av,hs0 hlt,hs1 hlt,hs2 hlt,hs3 hlt,hs4 hlt,hs5 hlt,hs02,hf];refine qhW E _ _ hE s hsl (fun f hlf=>?_) (fun hlf pl e he=>?_)
      ·rw[hlf]at hQ;simp only at hQ
       have hfn:f.name.length<=cap:=by
        unfold qcD at hlf;split at hlf
        ·cases hlf;simp only[zqJ];omega
        ·cases hlf
       simp;refine qfI E _ _ hE f.name hfn ?_;cases hmt:mayB f.name with
       |true=>
        rw[if_pos hmt]at hQ;simp[hs0 hlt,hs1 hlt,hs2 hlt,hs3 hlt,hs4 hlt,hs5 hlt,m3,m4,qeh];exact qer hB rfl (qaa _) (({d with section_:=d.section_+1,line:=[],trailers:=d.trailers++[f]}:Dec).bnd _) (by simp) hQ
       |false=>
        rw[if_neg (by rw[hmt];simp)]at hQ;simp;exact qer hB rfl (qaa _) (({d with section_:=d.section_+1,line:=[]}:Dec).bnd _) (by simp) hQ
      ·rw[hlf]at hQ;have he2:(e !=0)=true:=by simpa using he
       simp[he2];exact qer hB rfl (qaa _) (({d with section_:=d.section_+1,line:=[]}:Dec).bnd _) (by simp) hQ
  ·have e0:qbG d b=({d with section_:=d.section_+1,line:=d.line++[b]},0):=by unfold qbG;rw[if_neg hr,if_pos hb]
   rw[e0]at hQ;have hb2:((b.toNat:Int)==10)=false:=qgc b 10 (by decide) hb;simp[Tryz.ntmps230,Tryz.results230,List.replicate_succ,hd,hs0 hlt,hs1 hlt,hs2 hlt,hs3 hlt,hs4 hlt,hs5 hlt,hr,m1,m2,qc1,bne,hb2,hw,-Int.natCast_add];exact qaE hB rfl (qaa _) (({d with section_:=d.section_+1,line:=d.line++[b]}:Dec).bnd _) (by simp) hQ
end
def lnb(l:List UInt8):Bool:=match l with
 |[]=>false
 |a::_=>qag a
def qa4(l:List UInt8):Fld×Int×Int:=
 if lnb l=true then((⟨[],[]⟩:Fld),0,63)else if l.length<=run ncol l then((⟨[],[]⟩:Fld),l.length,62)else if run ncol l=0 then((⟨[],[]⟩:Fld),0,60)
 else if min (run qaj l) 128<run ncol l then((⟨[],[]⟩:Fld),(min (run qaj l) 128:Nat),60)
 else if run fcB (l.drop (run ncol l+1))<(l.drop (run ncol l+1)).length then((⟨[],[]⟩:Fld),(run ncol l+1+run fcB (l.drop (run ncol l+1)):Nat),61)
 else if 8192<(qaL (l.drop (run ncol l+1))).length then((⟨[],[]⟩:Fld),(run ncol l+1+run qag (l.drop (run ncol l+1))+8192:Nat),61)
 else(⟨l.take (run ncol l),qaL (l.drop (run ncol l+1))⟩,0,0)
theorem rb_le(l:List UInt8):run qag l<=l.length:=qbQ qag l
theorem qoW(l:List UInt8):((l.length:Int)-(Lib.trimLeftS l [32,9]).length)=run qag l:=by
 have e:Lib.trimLeftS l [32,9]=l.dropWhile qag:=by unfold Lib.trimLeftS;rw[qjL]
 rw[e];have h:=congrArg List.length (List.takeWhile_append_dropWhile (p:=qag) (l:=l));rw[zqK]at h;unfold run;omega
theorem qjO(p:UInt8->Bool):∀(n:Nat) (l:List UInt8),(l.take n).all p=true->n<=l.length->n<=run p l
 |0,_,_,_=>Nat.zero_le _
 |n+1,[],_,h=>by simp at h
 |n+1,a::l,h,hn=>by
  simp only[List.take_succ_cons,List.all_cons,Bool.and_eq_true]at h;have:=qjO p n l h.2 (by simpa using hn);unfold run at this⊢;rw[List.takeWhile_cons,if_pos h.1];simpa using this
theorem qhP{p:UInt8->Bool}{l:List UInt8}(h:l.all p=true):run p l=l.length:=by
 have:=qjO p l.length l (by rw[List.take_length];exact h) (Nat.le_refl _);have:=qbQ p l;omega
section
variable {l:List UInt8}(hf:lnb l=false)
theorem qmt:qa4 []=((⟨[],[]⟩:Fld),0,62):=rfl
theorem qkT(a:UInt8)(r:List UInt8)(h:qag a=true):qa4 (a::r)=((⟨[],[]⟩:Fld),0,63):=by unfold qa4;rw[if_pos (show lnb (a::r)=true from h)]
include hf
theorem qjc(h:l.length<=run ncol l):qa4 l=((⟨[],[]⟩:Fld),(l.length:Int),62):=by unfold qa4;rw[if_neg (by rw[hf];simp),if_pos h]
theorem qkR(h1:run ncol l<l.length)(h:run ncol l=0):qa4 l=((⟨[],[]⟩:Fld),0,60):=by unfold qa4;rw[if_neg (by rw[hf];simp),if_neg (by omega),if_pos h]
theorem qgC(h1:run ncol l<l.length)(h2:run ncol l≠0)(h:min (run qaj l) 128<run ncol l):qa4 l=((⟨[],[]⟩:Fld),((min (run qaj l) 128:Nat):Int),60):=by unfold qa4;rw[if_neg (by rw[hf];simp),if_neg (by omega),if_neg h2,if_pos h]
theorem qkS(h1:run ncol l<l.length)(h2:run ncol l≠0){i:Nat}(hall:(l.take i).all qaj=true)(hi:128<=i)(hi2:i<=128)(h:i<run ncol l):qa4 l=((⟨[],[]⟩:Fld),(i:Int),60):=by
 have:=qjO qaj i l hall (by omega);have e:min (run qaj l) 128=i:=by omega
 rw[qgC hf h1 h2 (by omega),e]
theorem qmv(h1:run ncol l<l.length)(h2:run ncol l≠0){i:Nat}{b:UInt8}(hall:(l.take i).all qaj=true)(hi:i<=128)(h:i<run ncol l)(hb:l[i]? =some b)(hs:qaj b=false):qa4 l=((⟨[],[]⟩:Fld),(i:Int),60):=by
 have:=qdp qaj l i hall (by omega) (fun c hc=>by rw[hb]at hc;cases hc;exact hs);have e:min (run qaj l) 128=i:=by omega
 rw[qgC hf h1 h2 (by omega),e]
omit hf in
theorem qg3(h1:run ncol l<l.length)(hn:qbh (l.take (run ncol l))=true):¬min (run qaj l) 128<run ncol l:=by
 unfold qbh tokB at hn;simp only[Bool.and_eq_true,decide_eq_true_eq]at hn;rw[zqJ]at hn;have:=qjO qaj (run ncol l) l hn.2.1 (by omega);omega
omit hf in
theorem qi8(hn:qbh (l.take (run ncol l))=true):run ncol l≠0:=fun e=>by rw[e,List.take_zero]at hn;rw[qh3]at hn;cases hn
theorem qms(h1:run ncol l<l.length)(hn:qbh (l.take (run ncol l))=true){i:Nat}{b:UInt8}(hi:run ncol l+1<=i)(hall:fldB ((l.drop (run ncol l+1)).take (i-(run ncol l+1)))=true)(hb:(l.drop (run ncol l+1))[i-(run ncol l+1)]? =some b)(hs:fcB b=false):
  qa4 l=((⟨[],[]⟩:Fld),((run ncol l+1+(i-(run ncol l+1)):Nat):Int),61):=by
 have hlt:=(zqC.1 hb).1;have:=qdp fcB (l.drop (run ncol l+1)) _ hall (by omega) (fun c hc=>by rw[hb]at hc;cases hc;exact hs);unfold qa4;rw[if_neg (by rw[hf];simp),if_neg (by omega),if_neg (qi8 hn),if_neg (qg3 h1 hn),this,if_pos hlt]
theorem qmu(h1:run ncol l<l.length)(hn:qbh (l.take (run ncol l))=true)(hv:fldB (l.drop (run ncol l+1))=true)(h:8192<(qaL (l.drop (run ncol l+1))).length):
  qa4 l=((⟨[],[]⟩:Fld),((run ncol l+1+run qag (l.drop (run ncol l+1))+8192:Nat):Int),61):=by
 have:=qhP hv;unfold qa4;rw[if_neg (by rw[hf];simp),if_neg (by omega),if_neg (qi8 hn),if_neg (qg3 h1 hn),if_neg (by omega),if_pos h]
theorem qmr(h1:run ncol l<l.length)(hn:qbh (l.take (run ncol l))=true)(hv:fldB (l.drop (run ncol l+1))=true)(h:¬8192<(qaL (l.drop (run ncol l+1))).length):
  qa4 l=(⟨l.take (run ncol l),qaL (l.drop (run ncol l+1))⟩,0,0):=by
 have:=qhP hv;unfold qa4;rw[if_neg (by rw[hf];simp),if_neg (by omega),if_neg (qi8 hn),if_neg (qg3 h1 hn),if_neg (by omega),if_neg h]
end
section
variable (E:Env)(H:Hp)(Q:AV->Hp->Prop)
theorem qhG(l:List UInt8)(hl:l.length<=cap)(hQ:Q (.str (Lib.trimLeftS l [32,9])) H):PC Tryz.prog E 200 [.str l,.str [32,9]] H Q:=by
 have hle:(Lib.trimLeftS l [32,9]).length<=l.length:=by
  unfold Lib.trimLeftS;exact(List.dropWhile_sublist _).length_le
 refine qao (v:= .str (Lib.trimLeftS l [32,9])) (by kernel_rfl) (fun _=>True) (fun w hw=>trivial) (fun w β Rd cargs hS hsz hargs=>?_) (.str _) rfl hQ;obtain⟨u,v,rfl,hu,hv⟩:=args2 hsz hargs;obtain⟨s,rfl,rfl,hs⟩:=qaq hu;obtain⟨t,rfl,ht,_⟩:=qaq hv;have h116:(Tryz.prog.info? (lren.t 116)).map (fun i=>(i.zero,i.size))=some (some (.agg (Array.replicate 256 (.bool false))),256):=by kernel_rfl
 have htl:t.size=2:=by rw[<-qad,ht];rfl
 refine(Any.strings_TrimLeft_ascii lays161 (zero_of_info h116).1 (zero_of_info h116).2 s t w (by rw[htl];omega) (fun j b hb=>by
  rw[ht]at hb
  match j with
  |0=>simp at hb;subst hb;decide
  |1=>simp at hb;subst hb;decide
  |j+2=>simp at hb)).mono ?_
 rintro e w' ⟨rfl,hb⟩;rw[ht];exact⟨_,rfl,qbc hb,qc5 _ (qga (Nat.le_trans hle hl))⟩
theorem qgZ(hE:SE E)(l:List UInt8)(hl:l.length<=cap)(hQ:Q (.tup [.agg [.str (qa4 l).1.name,.str (qa4 l).1.value],.int .i64 (qa4 l).2.1,.int .i64 (qa4 l).2.2]) H):
  PC Tryz.prog E 167 [.str l] H Q:=by
 refine qab Tryz.func167 rfl [] [] (by kernel_rfl) (fun hB=>?_);have hl':=hl;simp only[cap]at hl';obtain⟨c,hc⟩:=exz (run ncol l);have hcl:=qbQ ncol l;rw[hc]at hcl;have hib:=qee l;rw[hc]at hib
 have bad:∀(fr:List AV) (pl e:Int),qa4 l=((⟨[],[]⟩:Fld),pl,e)->aget fr 2= .ptr (some (H.length,0))->aget fr 3= .int .i64 pl->aget fr 4= .int .i64 e->qcc Tryz.prog [ResultVar.cell 2 65,ResultVar.tmp 3,ResultVar.tmp 4] H.length Q .ret fr (H++[[.str [],.str []]]):=fun fr pl e h0 h2 h3 h4=>
  qac hB (v0:= .tup [.agg [.str [],.str []],.int .i64 pl,.int .i64 e]) (by simp[h2,h3,h4]) (qaa _) (by simp) (by rw[h0]at hQ;exact hQ)
 have hcase:l=[]\/(∃a r,l=a::r/\qag a=true)\/(∃a r,l=a::r/\qag a=false):=by
  cases l with
  |nil=>exact .inl rfl
  |cons a r=>
   cases hb:qag a
   ·exact .inr (.inr ⟨a,r,rfl,hb⟩)
   ·exact .inr (.inl ⟨a,r,rfl,hb⟩)
 rcases hcase with rfl|⟨a,r,rfl,hb⟩|⟨a,r,hl0,hb⟩
 ·simp[Tryz.ntmps167,Tryz.results167,List.replicate_succ];refine qar E _ _ [] 58 ?_;have e0:Lib.indexByte [] 58= -1:=rfl;rw[e0];simp;exact bad _ 0 62 qmt rfl rfl rfl
 ·have hc0:=qkT a r hb;have hib2:0<=Lib.indexByte [32,9] a:=by rw[qfb];exact hb
  have hne:(a::r !=[])=true:=rfl;simp[Tryz.ntmps167,Tryz.results167,List.replicate_succ,hne];refine qar E _ _ [32,9] a ?_;simp[hib2];exact bad _ 0 63 hc0 rfl rfl rfl
 ·have hib2:¬0<=Lib.indexByte [32,9] a:=by rw[qfb,hb];simp
  have hne:(l !=[])=true:=by rw[hl0];rfl
  have hl1:0<l.length:=by rw[hl0];simp
  have hla:lat l 0=some a:=by rw[hl0];rfl
  simp[Tryz.ntmps167,Tryz.results167,List.replicate_succ,hne,hl1,hla];refine qar E _ _ [32,9] a ?_;simp[hib2];refine qar E _ _ l 58 ?_;rw[hib];have hnf:lnb l=false:=by rw[hl0];exact hb
  clear hib2 hne hla hl0 hib;by_cases hcc:c<l.length;rotate_left
  ·have hno:=qjc hnf (by omega);simp[hcc];exact bad _ l.length 62 hno rfl rfl rfl
  ·by_cases hz:c=0
   ·have hno:=qkR hnf (by omega) (by omega);subst hz;simp[hcc];exact bad _ 0 60 hno rfl rfl rfl
   ·have hz2:((c:Int)==0)=false:=by simp;omega
    simp[hcc,hz,hz2];subst hc;refine qaG (qpR l H) (fun fr _=>run ncol l-(ai (aget fr 33)).toNat) ⟨rfl,0,by omega,by omega,by simp,friz⟩ ?_;rintro fr H' ⟨rfl,i,hi,hi2,hall,x,rfl⟩;by_cases h:i<run ncol l
    ·obtain⟨b,hbi⟩:∃b,l[i]? =some b:=⟨_,zqD (by omega)⟩
     by_cases h128:128<=i
     ·have hno:=qkS hnf (by omega) (by omega) hall (by omega) (by omega) h;have h128':(128:Int)<=i:=by omega
      simp[h,h128'];exact bad _ i 60 hno rfl rfl rfl
     ·have h128':¬(128:Int)<=i:=by omega
      have hw:IntKind.i64.wrap ((i:Int)+1)=i+1:=wiz;have t1:((i:Int)+1).toNat=i+1:=by omega
      have t2:(0:Int)<=i+1:=by omega
      have t3:(l.drop i).take 1=[b]:=by rw[qay l i b hbi];rfl
      have t4:i+1<=l.length:=by omega
      have ht:tokB [b]=qaj b:=by simp[tokB]
      simp[h,h128',hw,t1,t2,t3,t4];refine qbr E _ _ hE [b] (by simp[cap]) ?_;rw[ht];cases hs:qaj b with
      |false=>
       have hno:=qmv hnf (by omega) (by omega) hall (by omega) h hbi hs;simp;exact bad _ i 60 hno rfl rfl rfl
      |true=>
       simp[hw];refine qaC ?_ ?_;rotate_left
       ·simp;omega
       refine⟨rfl,i+1,by omega,by omega,?_,friz⟩;rw[qbJ qaj l i b hbi,hall,hs];rfl
    ·obtain rfl:i=run ncol l:=by omega
     have hnm:qbh (l.take (run ncol l))=true:=by
      unfold qbh tokB;rw[hall,decide_eq_true (by rw[zqJ];omega)];have:l.take (run ncol l)≠[]:=by intro e;have h2:=congrArg List.length e;rw[zqJ]at h2;have h3:min (run ncol l) l.length=0:=h2;omega
      cases he:l.take (run ncol l)with
      |nil=>exact absurd he this
      |cons _ _=>rfl
     have hw1:IntKind.i64.wrap (((run ncol l:Nat):Int)+1)=((run ncol l+1:Nat):Int):=by rw[qax (by omega) (by omega)];omega
     clear hall;simp[h,hw1,-Int.natCast_add];refine qaG (qpQ l H) (fun fr _=>l.length-(ai (aget fr 7)).toNat) ⟨rfl,run ncol l+1,by omega,by omega,by rw[Nat.sub_self,List.take_zero];rfl,friz⟩ ?_;clear hw1;rintro fr H' ⟨rfl,i,hi1,hi2,hall,x,rfl⟩;by_cases h:i<l.length
     ·obtain⟨b,hbi⟩:∃b,l[i]? =some b:=⟨_,zqD h⟩
      have hbd:(l.drop (run ncol l+1))[i-(run ncol l+1)]? =some b:=by rw[zqN,show run ncol l+1+(i-(run ncol l+1))=i by omega];exact hbi
      have hw:IntKind.i64.wrap ((i:Int)+1)=i+1:=wiz;have t1:((i:Int)+1).toNat=i+1:=by omega
      have t2:(0:Int)<=i+1:=by omega
      have t3:(l.drop i).take 1=[b]:=by rw[qay l i b hbi];rfl
      have t4:i+1<=l.length:=by omega
      have ht:fldB [b]=fcB b:=by simp[fldB]
      simp[h,hw,t1,t2,t3,t4];refine qdt E _ _ [b] (by simp[cap]) ?_;rw[ht];cases hs:fcB b with
      |false=>
       have hno:=qms hnf (by omega) hnm (by omega) hall hbd hs;simp;exact bad _ i 61 (by rw[hno];congr 2;omega) rfl rfl rfl
      |true=>
       simp[hw];refine qaC ?_ ?_;rotate_left
       ·simp;omega
       refine⟨rfl,i+1,by omega,by omega,?_,friz⟩;rw[show i+1-(run ncol l+1)=(i-(run ncol l+1))+1 by omega];unfold fldB at hall⊢;rw[qbJ fcB _ _ b hbd,hall,hs];rfl
     ·obtain rfl:i=l.length:=by omega
      have hfl:fldB (l.drop (run ncol l+1))=true:=by rw[zqE (by rw[zqI];omega)]at hall;exact hall
      clear hall h;obtain⟨c,hc⟩:=exz (run ncol l);rw[hc]at hcl hcc hz hz2 hnm hfl hi1;have hw1:IntKind.i64.wrap ((c:Int)+1)=((c+1:Nat):Int):=by rw[qax (by omega) (by omega)];omega
      have t4:c+1<=l.length:=by omega
      simp[hc,hw1,t4,-Int.natCast_add];refine qfp E _ _ (l.drop (c+1)) (by rw[zqI];simp only[cap];omega) ?_;by_cases hbig:8192<(qaL (l.drop (c+1))).length
      ·have hbig':(8192:Int)<(qaL (l.drop (c+1))).length:=by omega
       have hno:=qmu hnf (by omega) (by rw[hc];exact hnm) (by rw[hc];exact hfl) (by rw[hc];exact hbig);simp[hbig'];refine qhG E _ _ (l.drop (c+1)) (by rw[zqI];simp only[cap];omega) ?_;have hle:=rb_le (l.drop (c+1));rw[zqI]at hle;have hdl:(l.drop (c+1)).length=l.length-(c+1):=zqI;obtain⟨rb,hrb⟩:=exz (run qag (l.drop (c+1)));have hld:=qoW (l.drop (c+1));rw[hc,hrb]at hno;rw[hrb]at hle hld;rw[hdl]at hld;have hwA:IntKind.i64.wrap ((c:Int)+1)=c+1:=wiz;have hwB:IntKind.i64.wrap (((l.length-(c+1):Nat):Int)-(Lib.trimLeftS (l.drop (c+1)) [32,9]).length)=rb:=by rw[hld,qax (by omega) (by omega)]
       have hwC:IntKind.i64.wrap ((c:Int)+1+rb)=c+1+rb:=wiz;have hwD:IntKind.i64.wrap ((c:Int)+1+rb+8192)=c+1+rb+8192:=wiz;simp[hwA,hwB,hwC,hwD];exact bad _ ((c:Int)+1+rb+8192) 61 (by rw[hno];simp) rfl rfl rfl
      ·have hbig':¬(8192:Int)<(qaL (l.drop (c+1))).length:=by omega
       have hyes:=qmr hnf (by omega) (by rw[hc];exact hnm) (by rw[hc];exact hfl) (by rw[hc];exact hbig);rw[hc]at hyes;rw[hyes]at hQ;simp[hbig',hcl];exact qac hB (v0:= .tup [.agg [.str (l.take c),.str (qaL (l.drop (c+1)))],.int .i64 0,.int .i64 0]) (by simp) (qaa _) (by simp) hQ
end
set_option linter.unnecessarySimpa false
def qdE(d:Dec)(b:UInt8):Dec×Int:=match d.st with
 | .size=>qiQ d b
 | .data=>qhp d b
 | .first=>qfV d b
 | .second=>qdF d b
 | .trailer=>qbG d b
def feed1(d:Dec)(b:UInt8):Dec:={(qdE {d with total:=d.total+1} b).1 with err:=(qdE {d with total:=d.total+1} b).2}
def qa6(d:Dec):List UInt8->Dec×Nat
 |[]=>(d,0)
 |b::s=>if(feed1 d b).done=true\/(feed1 d b).err≠0 then(feed1 d b,1)else((qa6 (feed1 d b) s).1,(qa6 (feed1 d b) s).2+1)
def okD(d:Dec):Prop:=d.line.length<=d.total/\d.body.length<=d.total/\d.trailers.length<=d.total/\d.section_<=d.total/\(0<=d.most/\d.most<=9223372036854775807)/\(0<=d.room/\d.room<=9223372036854775807)/\(0<=d.fields/\d.fields<=9223372036854775807)/\(d.st= .data->1<=d.left/\d.left<=1099511627776)
theorem qiO(d:Dec)(b:UInt8):(qdE d b).1.total=d.total/\(qdE d b).1.most=d.most/\(qdE d b).1.room=d.room/\(qdE d b).1.fields=d.fields:=by
 unfold qdE qiQ qhp qfV qdF qbG
 (repeat' split)<;>exact⟨rfl,rfl,rfl,rfl⟩
theorem qop(d:Dec)(b:UInt8)(h:okD d)(ht:1<=d.total)(h1:d.line.length+1<=d.total)(h2:d.body.length+1<=d.total)(h3:d.trailers.length+1<=d.total)(h4:d.section_+1<=d.total):okD (qdE d b).1:=by
 obtain⟨a1,a2,a3,a4,a5,a6,a7,a8⟩:=h;unfold qdE;split
 ·unfold qiQ;split
  ·rename_i hst _;exact⟨by simpa using h1,a2,a3,a4,a5,a6,a7,fun e=>by simp only at e;rw[hst]at e;cases e⟩
  ·rename_i hst _;split
   ·exact⟨by simp,a2,a3,a4,a5,a6,a7,fun e=>by simp only at e;rw[hst]at e;cases e⟩
   ·rename_i s hs;split
    ·exact⟨by simp,a2,a3,a4,a5,a6,a7,fun e=>by simp only at e;rw[hst]at e;cases e⟩
    ·rename_i he;split
     ·exact⟨by simp,a2,a3,a4,a5,a6,a7,fun e=>by simp only at e;rw[hst]at e;cases e⟩
     ·split
      ·exact⟨by simp,a2,a3,a4,a5,a6,a7,fun e=>by cases e⟩
      ·rename_i hz;have:=qfy s (by simpa using he);exact⟨by simp,a2,a3,a4,a5,a6,a7,fun e=>by simp only;omega⟩
 ·rename_i hst;have hl:=a8 hst;unfold qhp;split
  ·exact⟨a1,by simpa using h2,a3,a4,a5,a6,a7,fun e=>by cases e⟩
  ·exact⟨a1,by simpa using h2,a3,a4,a5,a6,a7,fun e=>by simp only;omega⟩
 ·rename_i hst;unfold qfV;split
  ·exact⟨a1,a2,a3,a4,a5,a6,a7,a8⟩
  ·exact⟨a1,a2,a3,a4,a5,a6,a7,fun e=>by cases e⟩
 ·rename_i hst;unfold qdF;split
  ·exact⟨a1,a2,a3,a4,a5,a6,a7,a8⟩
  ·exact⟨a1,a2,a3,a4,a5,a6,a7,fun e=>by cases e⟩
 ·rename_i hst;have nd:∀st:Stg,st=d.st->st= .data->1<=d.left/\d.left<=1099511627776:=fun st e e2=>by rw[e,hst]at e2;cases e2
  unfold qbG
  (repeat' split)
  all_goals first
   |exact⟨a1,a2,a3,a4,a5,a6,a7,nd _ rfl⟩
   |exact⟨by simpa using h1,a2,a3,h4,a5,a6,a7,nd _ rfl⟩
   |exact⟨by simp,a2,a3,h4,a5,a6,a7,nd _ rfl⟩
   |exact⟨by simp,a2,by simpa using h3,h4,a5,a6,a7,nd _ rfl⟩
theorem qj9(d:Dec)(b:UInt8)(h:okD d):okD (feed1 d b)/\(feed1 d b).total=d.total+1:=by
 obtain⟨a1,a2,a3,a4,a5,a6,a7,a8⟩:=h;have h0:okD {d with total:=d.total+1}:=⟨by simp only;omega,by simp only;omega,by simp only;omega,by simp only;omega,a5,a6,a7,a8⟩
 have:=qop {d with total:=d.total+1} b h0 (by simp) (by simpa using a1) (by simpa using a2) (by simpa using a3) (by simpa using a4);exact⟨this,(qiO _ b).1⟩
section
variable (E:Env)(H:Hp)(Q:AV->Hp->Prop)(i:Nat)(d:Dec)(hd:H[i]? =some d.av)(b:UInt8)
include hd
theorem qqr(hE:SE E)(hk:okD d)(ht:d.total<=1000000000)(hQ:Q (.int .i64 (qdE d b).2) (H.set i (qdE d b).1.av)):PC Tryz.prog E d.st.fid [.ptr (some (i,0)),.int .u8 (b.toNat:Int)] H Q:=by
 obtain⟨a1,a2,a3,a4,a5,a6,a7,a8⟩:=hk;unfold qdE at hQ;cases hst:d.st with
 |size=>rw[hst]at hQ;exact qqu E H Q i d hd b hE (by omega) (by omega) a5 hQ
 |data=>rw[hst]at hQ;exact qrc E H Q i d hd b (by omega) (a8 hst) hQ
 |first=>rw[hst]at hQ;exact qo7 E H Q i d hd b hQ
 |second=>rw[hst]at hQ;exact qlU E H Q i d hd b hQ
 |trailer=>rw[hst]at hQ;exact qkw E H Q i d hd b hE (by omega) (by omega) (by omega) hQ
end
def feI(H:Hp)(i:Nat)(d:Dec)(s:List UInt8)(fr:List AV)(H':Hp):Prop:=∃(n:Nat) (d':Dec),n<=s.length/\H'=H.set i d'.av/\okD d'/\d'.total=d.total+n/\d'.done=false/\d'.err=0/\qa6 d s=((qa6 d' (s.drop n)).1,(qa6 d' (s.drop n)).2+n)/\
 ∃x:Nat->AV,fr=[.ptr (some (i,0)),.str s,x 2,x 3,x 4,x 5,x 6,x 7,x 8,x 9,x 10,x 11,x 12,x 13,x 14,x 15,x 16,x 17,x 18,x 19,x 20,x 21,.str s,.int .i64 s.length,.int .i64 n,x 25,x 26,x 27,x 28,x 29,x 30,x 31,x 32,x 33,x 34,x 35,x 36,x 37,x 38,x 39,x 40,x 41,x 42,x 43,x 44,x 45,x 46,x 47,x 48,x 49,x 50,x 51,x 52,x 53,x 54,x 55,x 56,x 57,x 58,x 59,x 60,x 61,x 62,x 63,x 64,x 65]
section
variable (E:Env)(H:Hp)(Q:AV->Hp->Prop)(i:Nat)(d:Dec)(hd:H[i]? =some d.av)
include hd
theorem qm0(hE:SE E)(s:List UInt8)(hk:okD d)(ht:d.total+s.length<=1000000000)(hQ1:d.done=false->d.err=0->Q (.tup [.int .i64 (qa6 d s).2,.int .i64 (qa6 d s).1.err]) (H.set i (qa6 d s).1.av))(hQ2:d.done=true\/d.err≠0->Q (.tup [.int .i64 0,.int .i64 103]) H):
  PC Tryz.prog E 218 [.ptr (some (i,0)),.str s] H Q:=by
 have hlt:=qe2 H i d hd;have hself:H.set i d.av=H:=qd2 hd;have hd':=hd;refine qab Tryz.func218 rfl [] [] (by kernel_rfl) (fun hB=>?_);simp[Dec.av]at hd;by_cases h1:d.done=true
 ·simp[Tryz.ntmps218,Tryz.results218,List.replicate_succ,hd,h1];exact aQz hB (h6:=(hQ2 (.inl h1)))
 ·have h1:d.done=false:=by simpa using h1
  by_cases h2:d.err=0
  ·have hQ:=hQ1 h1 h2;simp[Tryz.ntmps218,Tryz.results218,List.replicate_succ,hd,h1,h2];refine qaG (feI H i d s) (fun fr _=>s.length-(ai (aget fr 24)).toNat) ⟨0,d,by omega,hself.symm,hk,by omega,h1,h2,by simp,friz⟩ ?_;rintro fr H' ⟨n,e,hn,rfl,hke,hte,hde,hee,hfe,x,rfl⟩;have hes:(H.set i e.av)[i]? =some e.av:=zqO hlt;by_cases h:n<s.length
   ·obtain⟨b,hb⟩:∃b,s[n]? =some b:=⟨_,zqD h⟩
    have hat:lat s n=some b:=qaP hb;have hw:IntKind.i64.wrap ((e.total:Int)+1)=((e.total+1:Nat):Int):=by rw[qax (by omega) (by omega)];omega
    have hw2:IntKind.i64.wrap ((n:Int)+1)=n+1:=wiz;have hdr:=qay s n b hb;rw[hdr]at hfe;simp[h,hat,hw,hs0 hlt,hs1 hlt,hs2 hlt,hs3 hlt,hs4 hlt,hs5 hlt,Dec.av,-Int.natCast_add];have hes1:(H.set i ({e with total:=e.total+1}:Dec).av)[i]? =some ({e with total:=e.total+1}:Dec).av:=zqO hlt
    have hk1:okD {e with total:=e.total+1}:=by
     obtain⟨a1,a2,a3,a4,a5,a6,a7,a8⟩:=hke;exact⟨by simp only;omega,by simp only;omega,by simp only;omega,by simp only;omega,a5,a6,a7,a8⟩
    refine qqr E _ _ i {e with total:=e.total+1} hes1 b hE hk1 (by simp only;omega) ?_;obtain⟨hf1,hf2⟩:=qj9 e b hke;have hfd:qa6 e (b::s.drop (n+1))=if(feed1 e b).done=true\/(feed1 e b).err≠0 then(feed1 e b,1)else((qa6 (feed1 e b) (s.drop (n+1))).1,(qa6 (feed1 e b) (s.drop (n+1))).2+1):=rfl
    rw[hfd]at hfe;clear hfd hk1 hes1;have hfeq:feed1 e b={(qdE {e with total:=e.total+1} b).1 with err:=(qdE {e with total:=e.total+1} b).2}:=rfl;obtain⟨⟨e2,r⟩,he2⟩:=exz (qdE {e with total:=e.total+1} b);rw[he2]at hfeq⊢;rw[hfeq]at hfe hf1 hf2;clear hfeq he2;simp only at hfe hf1 hf2;by_cases hdn:e2.done=true
    ·rw[if_pos (.inl hdn)]at hfe;rw[hfe]at hQ;simp[hs0 hlt,hs1 hlt,hs2 hlt,hs3 hlt,hs4 hlt,hs5 hlt,Dec.av,hdn,hw2];refine qaE hB rfl (qaa _) (({e2 with err:=r,done:=true}:Dec).bnd _) (by simp) ?_;simp only at hQ;rw[show((1+n:Nat):Int)=(n:Int)+1 by omega]at hQ;have hav:({e2 with err:=r}:Dec).av=({e2 with err:=r,done:=true}:Dec).av:=by rw[<-hdn]
     rw[hav]at hQ;exact hQ
    ·have hdn:e2.done=false:=by simpa using hdn
     by_cases hr:r=0
     ·rw[if_neg (by rw[hdn,hr];simp)]at hfe;simp[hs0 hlt,hs1 hlt,hs2 hlt,hs3 hlt,hs4 hlt,hs5 hlt,Dec.av,hdn,hr,hw2];refine qaC ?_ ?_;rotate_left
      ·simp;omega
      have hav:({e2 with err:=r}:Dec).av=({e2 with err:=0,done:=false}:Dec).av:=by rw[<-hdn,<-hr]
      subst hr;refine⟨n+1,{e2 with err:=0},by omega,?_,hf1,by rw[hf2];omega,hdn,rfl,?_,friz⟩
      ·rw[hav];rfl
      ·rw[hfe];simp only;rw[Nat.add_assoc,Nat.add_comm 1 n]
     ·have hr2:(r !=0)=true:=by simpa using hr
      rw[if_pos (.inr hr)]at hfe;rw[hfe]at hQ;simp[hs0 hlt,hs1 hlt,hs2 hlt,hs3 hlt,hs4 hlt,hs5 hlt,Dec.av,hdn,hr2,hw2];refine qaE hB rfl (qaa _) (({e2 with err:=r,done:=false}:Dec).bnd _) (by simp) ?_;simp only at hQ;rw[show((1+n:Nat):Int)=(n:Int)+1 by omega]at hQ;have hav:({e2 with err:=r}:Dec).av=({e2 with err:=r,done:=false}:Dec).av:=by rw[<-hdn]
      rw[hav]at hQ;exact hQ
   ·obtain rfl:n=s.length:=by omega
    rw[List.drop_length]at hfe;have hfd:qa6 e []=(e,0):=rfl;rw[hfd]at hfe;rw[hfe]at hQ;simp only[hee,Nat.zero_add]at hQ;simp[h];exact qaE hB rfl (qaa _) (e.bnd _) (by simp) hQ
  ·have h22:(d.err !=0)=true:=by simpa using h2
   simp[Tryz.ntmps218,Tryz.results218,List.replicate_succ,hd,h1,h22];exact aQz hB (h6:=(hQ2 (.inr h2)))
end
theorem Tryz.info65:(Tryz.prog.info? 65).map (fun i=>(i.zero,i.size,i.bytes))=some (some (.agg #[.string ⟨#[]⟩,.string ⟨#[]⟩]),2,32):=by kernel_rfl
theorem qlW{w:World}{k n:Nat}{v:Value}{xs:List Value}(h:RSl w k v n xs)(o:Obj):RSl (w.alloc o) k v n xs:=by
 obtain⟨h1,ao,cap,rfl,h2,h3,h4⟩:=h;refine⟨h1,ao,cap,rfl,h2,h3,fun hn=>?_⟩;obtain⟨g,o',rfl,h5⟩:=h4 hn;refine⟨g,o',rfl,fun j hj=>?_⟩;have h0:=h5 j hj;have hx:xs[j]? =some (xs[j]'(by omega)):=zqD _;rw[hx]at h0⊢;exact Lib.cell?_alloc_some _ h0
theorem qpk{w:World}{ao:Option Addr}{n c:Nat}{xs:List Value}(h:RSl w 2 (.slice ao n c) n xs)(h1:∀u∈xs,u.oneCell'=true)(hn:n<=1073741824):
  Calls Tryz.prog 232 #[.slice ao n c] w fun e w'=>∃bo m d,e= .returned (.slice bo m d)/\((bo=none/\m=0/\d=0/\n=0/\w'=w)\/(m=n/\OSl w' 2 (.slice bo n d) n xs/\(∀g',(Value.slice bo n d).ownBlock=some g'->w.heap.size<=g')/\Frm (fun _=>False) w w')):=by
 obtain⟨i0,hi,hz0,hz1,hz2⟩:=info_parts Tryz.info65;have q22:∀(w:World) (a:Option Addr) (n c n' c':Nat),(binOp .eql 24 (.slice a n c) (.slice none n' c')).run Tryz.prog w= .ok (.bool a.isNone) w:=fun w a n c n' c'=>Lib.run_eql_slice_nil w _ _ a n c n' c' Tryz.underlying24;have HR:=Lib.hid h;have H1:=Lib.hid h1;clear h h1
 go_enter Tryz.func232,Tryz.ntmps232
 cases ao with
 |none=>
  go_wp2
  go_ret
  refine⟨none,0,0,rfl,.inl ⟨rfl,rfl,rfl,?_,rfl⟩⟩;obtain⟨_,_,_,he,_,_,hc⟩:=HR.out;cases he;rcases Nat.eq_zero_or_pos n with h|h
  ·exact h
  ·obtain⟨_,_,h,_⟩:=hc h;cases h
 |some a=>
  have hE:OSl (w.alloc (.cells #[] 65)) 2 (.slice (some ⟨w.heap.size,0,none⟩) 0 0) 0 []:=OSl.new w #[] 65 2 0 0 [] rfl (Nat.le_refl _) (Nat.zero_le _) rfl (fun j hj=>by simp at hj);have HE:=Lib.hid hE;clear hE
  go_wp2_with (at_builtin;refine qeu _ rfl (.tmp 5) (.tmp 6) 24 24 rfl 65 i0 (.agg #[.string ⟨#[]⟩,.string ⟨#[]⟩]) 2 32 Tryz.underlying24 hi hz0 hz1 hz2 rfl _ 0 [] rfl HE.out (.slice (some a) n c) n xs rfl (qfw (P:=Tryz.prog) (qlW HR.out _) H1.out Tryz.underlying24) (by unfold maxLen;omega) (by omega) ?_)
  intro ao4 c4 w4 hs hf hv;have HN4:=Lib.hid (qmP (w:=w) (v':= .slice ao4 n c4) (H:=w.heap.size+1) (Frm.alloc _ w _) (fun g hg=>by simp[Value.ownBlock]at hg;omega) hf (by simpa using hv) (by omega));have hs':=hs
  try simp only[List.nil_append,Nat.zero_add]at hs'
  have HO4:=Lib.hid hs';clear hs' hs hf hv
  go_wp2
  go_ret
  exact⟨ao4,n,c4,by simp,.inr ⟨rfl,HO4.out,HN4.out.1,HN4.out.2⟩⟩
theorem qo6{l:List Fld}{j:Nat}{x:AV}(h:(flds l).flatten[j]? =some x):∃s,x= .str s:=by
 obtain⟨r,hr,hx⟩:=List.mem_flatten.1 (zqH h);obtain⟨f,_,rfl⟩:=List.mem_map.1 hr;simp at hx;rcases hx with rfl|rfl<;>exact⟨_,rfl⟩
theorem qpj(E:Env)(H:Hp)(Q:AV->Hp->Prop)(own:Bool)(l:List Fld)(hl:l.length<=1073741824)(hf:own=false)(hQ:Q (.sl false 2 (flds l)) H):PC Tryz.prog E 232 [.sl own 2 (flds l)] H Q:=by
 refine⟨by kernel_rfl,fun w β Rd Ow cargs hHR hOw hsz hargs=>?_⟩;obtain⟨u,rfl,hu⟩:=args1 hsz (fun t x u hx hu=>(hargs t x u hx hu).1);obtain⟨xs,hk,hx,hd,hfr,hr⟩:=qeS hu;obtain⟨hxl,ao,c,rfl,h2,h3,h4⟩:=id hx;rw[qcX]at hx hxl h2 h4;have hone:∀u∈xs,u.oneCell'=true:=Rel.slOne (own:=own) hk (by rw[qcX];exact hxl) hfr hr;rw[qcX];refine(qpk (ao:=ao) (c:=c) hx hone hl).mono ?_;rintro e w' ⟨bo,m,d,rfl,⟨rfl,rfl,rfl,hn0,rfl⟩|⟨rfl,ho,hnew,hF⟩⟩
 ·have:l=[]:=List.length_eq_zero_iff.1 hn0;subst this
  have hrel:Rel w' β (fun g o=>Rd g o\/False) (.sl false 2 (flds [])) (.slice none 0 0):=
   .sl false 2 _ _ [] (fun r hr=>by simp[flds]at hr) ⟨by simp[flds],none,0,rfl,Nat.le_refl _,Nat.zero_le _,fun h=>by simp[flds]at h⟩ (fun g o n c hv j hj=>by cases hv) (fun h=>by cases h) (fun r hr=>by simp[flds]at hr) (fun j x u hx=>by simp[flds]at hx)
  exact⟨_,_,H,β,_,Ow,rfl,hQ,qb5 hHR (Frm.refl _ _) (fun _ _=>False) (fun _ _ h=>h.elim) hrel (by simp[flds]) rfl⟩
 ·have hrel:Rel w' β (fun g o=>Rd g o\/(Value.slice bo l.length d).ownBlock=some g) (.sl false 2 (flds l)) (.slice bo l.length d):=by
   refine .sl false 2 _ _ xs hk (by rw[qcX];exact ho.toR) (fun g o n c hv j hj=> .inr (by rw[hv];rfl)) (fun h=>by cases h) hfr (fun j x u hx' hu'=>?_);obtain⟨t,rfl⟩:=qo6 hx';obtain⟨b,rfl,hb1,hb2⟩:=qaq (hr j _ u hx' hu');exact .str _ _ hb1 hb2
  exact⟨_,_,H,β,_,Ow,rfl,hQ,qb5 hHR hF (fun g _=>(Value.slice bo l.length d).ownBlock=some g) (fun g o h=>⟨hnew g h,ho.lt g h⟩) hrel (qdx _ _ _) rfl⟩
def newD(most room fields:Int):Dec:=⟨most,room,fields,.size,[],0,[],[],0,0,false,0⟩
section
variable (E:Env)(H:Hp)(Q:AV->Hp->Prop)
theorem qhs(most room fields:Int)(hQ1:0<=most->0<=room->0<=fields->Q (.tup [.ptr (some (H.length,0)),.int .i64 0]) (H++[(newD most room fields).av]))(hQ2:most<0\/room<0\/fields<0->Q (.tup [.ptr none,.int .i64 1]) H):
  PC Tryz.prog E 196 [.int .i64 most,.int .i64 room,.int .i64 fields] H Q:=by
 refine qab Tryz.func196 rfl [] [] (by kernel_rfl) (fun hB=>?_);by_cases h1:most<0
 ·simp[Tryz.ntmps196,Tryz.results196,List.replicate_succ,h1];exact aQz hB (h6:=(hQ2 (.inl h1)))
 ·by_cases h2:room<0
  ·simp[Tryz.ntmps196,Tryz.results196,List.replicate_succ,h1,h2];exact aQz hB (h6:=(hQ2 (.inr (.inl h2))))
  ·by_cases h3:fields<0
   ·simp[Tryz.ntmps196,Tryz.results196,List.replicate_succ,h1,h2,h3];exact aQz hB (h6:=(hQ2 (.inr (.inr h3))))
   ·have hQ:=hQ1 (by omega) (by omega) (by omega);simp[Tryz.ntmps196,Tryz.results196,List.replicate_succ,h1,h2,h3]
    have hbn:BndH (H.length+1) (H++[(newD most room fields).av]):=fun l hl x hx=>by
     rcases List.mem_append.1 hl with h'|h'
     ·exact(hB l h' x hx).mono (by omega)
     ·simp at h';subst h';exact(newD most room fields).bnd _ x hx
    exact⟨.tup [.ptr (some (H.length,0)),.int .i64 0],_,H++[(newD most room fields).av],H++[(newD most room fields).av],[],rfl,qaa _,
     qg2 H ⟨⟨.inl rfl,.inl rfl,.inl rfl,.inl rfl,.inr ⟨rfl,true,1,rfl⟩,.inl rfl,.inr ⟨rfl,true,1,rfl⟩,.inr ⟨rfl,true,2,rfl⟩,.inl rfl,.inl rfl,.inl rfl,.inl rfl,trivial⟩,trivial⟩,
     (List.append_nil _).symm,by simp,by simpa using hbn,by simp,hQ⟩
theorem qpb(s:List UInt8)(hQ:Q (.tup [.int .i64 0,.int .i64 103]) H):PC Tryz.prog E 218 [.ptr none,.str s] H Q:=by
 refine qab Tryz.func218 rfl [] [] (by kernel_rfl) (fun hB=>?_);simp[Tryz.ntmps218,Tryz.results218,List.replicate_succ];exact aQz hB (h6:=hQ)
variable (i:Nat)(d:Dec)(hd:H[i]? =some d.av)
include hd
theorem qq5(hQ:Q (.bool d.done) H):PC Tryz.prog E 219 [.ptr (some (i,0))] H Q:=by
 have hlt:=qe2 H i d hd;refine qab Tryz.func219 rfl [] [] (by kernel_rfl) (fun hB=>?_);simp[Dec.av]at hd;simp[Tryz.ntmps219,Tryz.results219,List.replicate_succ,hd];exact aQz hB (h6:=hQ)
theorem qrg(hl:d.body.length<=1073741824)(hQ:Q (.str d.body) H):PC Tryz.prog E 220 [.ptr (some (i,0))] H Q:=by
 have hm:d.body.length<=maxLen:=by unfold maxLen;omega
 refine qab Tryz.func220 rfl [] [] (by kernel_rfl) (fun hB=>?_);simp[Dec.av]at hd;simp[Tryz.ntmps220,Tryz.results220,List.replicate_succ,hd,hm];exact aQz hB (h6:=hQ)
theorem qiM(hl:d.trailers.length<=1073741824)(hQ:Q (.sl false 2 (flds d.trailers)) H):PC Tryz.prog E 221 [.ptr (some (i,0))] H Q:=by
 refine qab Tryz.func221 rfl [] [] (by kernel_rfl) (fun hB=>?_);simp[Dec.av]at hd;simp[Tryz.ntmps221,Tryz.results221,List.replicate_succ,hd];refine qpj E _ _ false d.trailers hl rfl ?_;simp;exact aQz hB (h6:=hQ)
end
theorem qqL(most room fields:Int)(h1:0<=most/\most<=9223372036854775807)(h2:0<=room/\room<=9223372036854775807)(h3:0<=fields/\fields<=9223372036854775807):okD (newD most room fields):=
 ⟨by simp[newD],by simp[newD],by simp[newD],by simp[newD],h1,h2,h3,fun e=>by cases e⟩
theorem qpa(s:List UInt8):∀d,(qa6 d s).2<=s.length:=by
 induction s with
 |nil=>intro d;exact Nat.le_refl _
 |cons b s ih=>
  intro d;have hfd:qa6 d (b::s)=if(feed1 d b).done=true\/(feed1 d b).err≠0 then(feed1 d b,1)else((qa6 (feed1 d b) s).1,(qa6 (feed1 d b) s).2+1):=rfl
  rw[hfd];split
  ·simp
  ·have:=ih (feed1 d b);simp;omega
theorem qhk(s:List UInt8):∀d,okD d->okD (qa6 d s).1/\(qa6 d s).1.total=d.total+(qa6 d s).2:=by
 induction s with
 |nil=>intro d h;exact⟨h,rfl⟩
 |cons b s ih=>
  intro d h;have hfd:qa6 d (b::s)=if(feed1 d b).done=true\/(feed1 d b).err≠0 then(feed1 d b,1)else((qa6 (feed1 d b) s).1,(qa6 (feed1 d b) s).2+1):=rfl
  obtain⟨h1,h2⟩:=qj9 d b h;rw[hfd];split
  ·exact⟨h1,h2⟩
  ·obtain⟨g1,g2⟩:=ih (feed1 d b) h1;exact⟨g1,by rw[g2,h2];simp only;omega⟩
section
variable (E:Env)(H:Hp)(Q:AV->Hp->Prop)
def qcQ(b:UInt8)(H:Hp)(fr:List AV)(H':Hp):Prop:=H'=H/\∃i:Nat,i<=15/\(sgs.take i).contains b=false/\∃x:Nat->AV,fr=[.int .u8 (b.toNat:Int),x 1,x 2,.str sgs,.int .i64 i,x 5,x 6,x 7,x 8,x 9,x 10,x 11,x 12,x 13,x 14,x 15,x 16,x 17,x 18,x 19,x 20,x 21,x 22,x 23,x 24,x 25,x 26,x 27,x 28,x 29,x 30,x 31,x 32,x 33,x 34,x 35,x 36,x 37]
theorem qiV(b:UInt8)(hQ:Q (.bool (qaj b)) H):PC Tryz.prog E 100 [.int .u8 (b.toNat:Int)] H Q:=by
 refine qab Tryz.func100 rfl [] [] (by kernel_rfl) (fun hB=>?_);have fin:∀c:Bool,qaj b=c->Q (.bool c) H:=fun c hc=>hc▸hQ;have hb:=b.toNat_lt
 have hcase:(48<=b.toNat/\b.toNat<=57)\/(65<=b.toNat/\b.toNat<=90)\/(97<=b.toNat/\b.toNat<=122)\/(qdg b||qcE b)=false:=by
  by_cases h1:48<=b.toNat/\b.toNat<=57
  ·exact .inl h1
  ·by_cases h2:65<=b.toNat/\b.toNat<=90
   ·exact .inr (.inl h2)
   ·by_cases h3:97<=b.toNat/\b.toNat<=122
    ·exact .inr (.inr (.inl h3))
    ·refine .inr (.inr (.inr ?_));rw[Bool.eq_false_iff];intro hh;simp only[qdg,qcE,Bool.or_eq_true,decide_eq_true_eq,Bool.and_eq_true]at hh;omega
 rcases hcase with h|h|h|h
 ·have h48:(48:Int)<=b.toNat:=by omega
  have h57:(b.toNat:Int)<=57:=by omega
  simp[Tryz.ntmps100,Tryz.results100,List.replicate_succ,h48,h57];refine aQz hB (h6:=(fin _ ?_));rw[<-qaW,show qdg b=true by unfold qdg;simp;omega];simp
 ·have h57:¬(b.toNat:Int)<=57:=by omega
  have h48:(48:Int)<=b.toNat:=by omega
  have h65:(65:Int)<=b.toNat:=by omega
  have h90:(b.toNat:Int)<=90:=by omega
  simp[Tryz.ntmps100,Tryz.results100,List.replicate_succ,h48,h57,h65,h90];refine aQz hB (h6:=(fin _ ?_));rw[<-qaW,show qcE b=true by unfold qcE;simp;omega];simp
 ·have h57:¬(b.toNat:Int)<=57:=by omega
  have h48:(48:Int)<=b.toNat:=by omega
  have h65:(65:Int)<=b.toNat:=by omega
  have h90:¬(b.toNat:Int)<=90:=by omega
  have h97:(97:Int)<=b.toNat:=by omega
  have h122:(b.toNat:Int)<=122:=by omega
  simp[Tryz.ntmps100,Tryz.results100,List.replicate_succ,h48,h57,h65,h90,h97,h122];refine aQz hB (h6:=(fin _ ?_));rw[<-qaW,show qcE b=true by unfold qcE;simp;omega];simp
 ·have hno:=h;simp only[Bool.or_eq_false_iff]at h;obtain⟨hd,hl⟩:=h
  have hd':¬((48:Int)<=b.toNat/\(b.toNat:Int)<=57):=fun hh=>by
   have:qdg b=true:=by unfold qdg;simp;omega
   rw[this]at hd;cases hd
  have hl1:¬((65:Int)<=b.toNat/\(b.toNat:Int)<=90):=fun hh=>by
   have:qcE b=true:=by unfold qcE;simp;omega
   rw[this]at hl;cases hl
  have hl2:¬((97:Int)<=b.toNat/\(b.toNat:Int)<=122):=fun hh=>by
   have:qcE b=true:=by unfold qcE;simp;omega
   rw[this]at hl;cases hl
  have hc7:((b.toNat:Int)<48)\/(57<(b.toNat:Int)/\(b.toNat:Int)<65)\/(90<(b.toNat:Int)/\(b.toNat:Int)<97)\/(122<(b.toNat:Int)):=by omega
  rcases hc7 with g|g|g|g
  ·have q1:¬(48:Int)<=b.toNat:=by omega
   have q2:¬(65:Int)<=b.toNat:=by omega
   have q3:¬(97:Int)<=b.toNat:=by omega
   simp[Tryz.ntmps100,Tryz.results100,List.replicate_succ,q1,q2,q3];refine qaG (qcQ b H) (fun fr _=>15-(ai (aget fr 4)).toNat) ⟨rfl,0,by omega,rfl,qal (by simp[sgs])⟩ ?_;rintro fr H' ⟨rfl,i,hi,hall,x,rfl⟩;have hlen:sgs.length=15:=rfl;by_cases h:i<15
   ·obtain⟨c,hc⟩:∃c,sgs[i]? =some c:=⟨_,zqD (by rw[hlen];exact h)⟩
    have hat:=qaP hc;have h15:(i:Int)<15:=by omega
    have hw:IntKind.i64.wrap ((i:Int)+1)=i+1:=wiz;by_cases he:c=b
    ·have t1:((c.toNat:Int)==(b.toNat:Int))=true:=by simp[he]
     simp[hlen,h15,hat,t1];refine aQz hB (h6:=(fin _ ?_));rw[<-qaW,show sgs.contains b=true by rw[List.contains_iff_mem,<-he];exact zqH hc];simp
    ·have t1:((c.toNat:Int)==(b.toNat:Int))=false:=by
      rw[beq_eq_false_iff_ne];intro hh;exact he (UInt8.toNat_inj.1 (by omega))
     simp[hlen,h15,hat,t1,hw];refine Klz ⟨rfl,i+1,by omega,?_,friz⟩;rw[List.take_add_one,hc];simp at hall;simp[hall];exact fun e=>he e.symm
   ·obtain rfl:i=15:=by omega
    simp[hlen];refine aQz hB (h6:=(fin _ ?_));rw[<-qaW,hd,hl];exact hall
  ·have q1:(48:Int)<=b.toNat:=by omega
   have q4:¬(b.toNat:Int)<=57:=by omega
   have q2:¬(65:Int)<=b.toNat:=by omega
   have q3:¬(97:Int)<=b.toNat:=by omega
   simp[Tryz.ntmps100,Tryz.results100,List.replicate_succ,q1,q2,q3,q4];refine qaG (qcQ b H) (fun fr _=>15-(ai (aget fr 4)).toNat) ⟨rfl,0,by omega,rfl,qal (by simp[sgs])⟩ ?_;rintro fr H' ⟨rfl,i,hi,hall,x,rfl⟩;have hlen:sgs.length=15:=rfl;by_cases h:i<15
   ·obtain⟨c,hc⟩:∃c,sgs[i]? =some c:=⟨_,zqD (by rw[hlen];exact h)⟩
    have hat:=qaP hc;have h15:(i:Int)<15:=by omega
    have hw:IntKind.i64.wrap ((i:Int)+1)=i+1:=wiz;by_cases he:c=b
    ·have t1:((c.toNat:Int)==(b.toNat:Int))=true:=by simp[he]
     simp[hlen,h15,hat,t1];refine aQz hB (h6:=(fin _ ?_));rw[<-qaW,show sgs.contains b=true by rw[List.contains_iff_mem,<-he];exact zqH hc];simp
    ·have t1:((c.toNat:Int)==(b.toNat:Int))=false:=by
      rw[beq_eq_false_iff_ne];intro hh;exact he (UInt8.toNat_inj.1 (by omega))
     simp[hlen,h15,hat,t1,hw];refine Klz ⟨rfl,i+1,by omega,?_,friz⟩;rw[List.take_add_one,hc];simp at hall;simp[hall];exact fun e=>he e.symm
   ·obtain rfl:i=15:=by omega
    simp[hlen];refine aQz hB (h6:=(fin _ ?_));rw[<-qaW,hd,hl];exact hall
  ·have q1:(48:Int)<=b.toNat:=by omega
   have q4:¬(b.toNat:Int)<=57:=by omega
   have q2:(65:Int)<=b.toNat:=by omega
   have q5:¬(b.toNat:Int)<=90:=by omega
   have q3:¬(97:Int)<=b.toNat:=by omega
   simp[Tryz.ntmps100,Tryz.results100,List.replicate_succ,q1,q2,q3,q4,q5];refine qaG (qcQ b H) (fun fr _=>15-(ai (aget fr 4)).toNat) ⟨rfl,0,by omega,rfl,qal (by simp[sgs])⟩ ?_;rintro fr H' ⟨rfl,i,hi,hall,x,rfl⟩;have hlen:sgs.length=15:=rfl;by_cases h:i<15
   ·obtain⟨c,hc⟩:∃c,sgs[i]? =some c:=⟨_,zqD (by rw[hlen];exact h)⟩
    have hat:=qaP hc;have h15:(i:Int)<15:=by omega
    have hw:IntKind.i64.wrap ((i:Int)+1)=i+1:=wiz;by_cases he:c=b
    ·have t1:((c.toNat:Int)==(b.toNat:Int))=true:=by simp[he]
     simp[hlen,h15,hat,t1];refine aQz hB (h6:=(fin _ ?_));rw[<-qaW,show sgs.contains b=true by rw[List.contains_iff_mem,<-he];exact zqH hc];simp
    ·have t1:((c.toNat:Int)==(b.toNat:Int))=false:=by
      rw[beq_eq_false_iff_ne];intro hh;exact he (UInt8.toNat_inj.1 (by omega))
     simp[hlen,h15,hat,t1,hw];refine Klz ⟨rfl,i+1,by omega,?_,friz⟩;rw[List.take_add_one,hc];simp at hall;simp[hall];exact fun e=>he e.symm
   ·obtain rfl:i=15:=by omega
    simp[hlen];refine aQz hB (h6:=(fin _ ?_));rw[<-qaW,hd,hl];exact hall
  ·have q1:(48:Int)<=b.toNat:=by omega
   have q4:¬(b.toNat:Int)<=57:=by omega
   have q2:(65:Int)<=b.toNat:=by omega
   have q5:¬(b.toNat:Int)<=90:=by omega
   have q3:(97:Int)<=b.toNat:=by omega
   have q6:¬(b.toNat:Int)<=122:=by omega
   simp[Tryz.ntmps100,Tryz.results100,List.replicate_succ,q1,q2,q3,q4,q5,q6];refine qaG (qcQ b H) (fun fr _=>15-(ai (aget fr 4)).toNat) ⟨rfl,0,by omega,rfl,qal (by simp[sgs])⟩ ?_;rintro fr H' ⟨rfl,i,hi,hall,x,rfl⟩;have hlen:sgs.length=15:=rfl;by_cases h:i<15
   ·obtain⟨c,hc⟩:∃c,sgs[i]? =some c:=⟨_,zqD (by rw[hlen];exact h)⟩
    have hat:=qaP hc;have h15:(i:Int)<15:=by omega
    have hw:IntKind.i64.wrap ((i:Int)+1)=i+1:=wiz;by_cases he:c=b
    ·have t1:((c.toNat:Int)==(b.toNat:Int))=true:=by simp[he]
     simp[hlen,h15,hat,t1];refine aQz hB (h6:=(fin _ ?_));rw[<-qaW,show sgs.contains b=true by rw[List.contains_iff_mem,<-he];exact zqH hc];simp
    ·have t1:((c.toNat:Int)==(b.toNat:Int))=false:=by
      rw[beq_eq_false_iff_ne];intro hh;exact he (UInt8.toNat_inj.1 (by omega))
     simp[hlen,h15,hat,t1,hw];refine Klz ⟨rfl,i+1,by omega,?_,friz⟩;rw[List.take_add_one,hc];simp at hall;simp[hall];exact fun e=>he e.symm
   ·obtain rfl:i=15:=by omega
    simp[hlen];refine aQz hB (h6:=(fin _ ?_));rw[<-qaW,hd,hl];exact hall
def qkH(l:List UInt8)(H:Hp)(fr:List AV)(H':Hp):Prop:=H'=H/\∃i:Nat,i<=l.length/\(l.take i).all qaj=true/\∃x:Nat->AV,fr=[.str l,x 1,x 2,.int .i64 i,x 4,x 5,x 6,x 7,x 8,x 9,x 10,x 11,x 12,x 13,x 14,x 15,x 16,x 17]
theorem qeT(l:List UInt8)(hl:l.length<=cap)(hQ:Q (.bool (tokB l)) H):PC Tryz.prog E 127 [.str l] H Q:=by
 simp only[cap]at hl;refine qab Tryz.func127 rfl [] [] (by kernel_rfl) (fun hB=>?_);have fin:∀c:Bool,tokB l=c->Q (.bool c) H:=fun c hc=>hc▸hQ;simp[Tryz.ntmps127,Tryz.results127,List.replicate_succ];refine qaG (qkH l H) (fun fr _=>l.length-(ai (aget fr 3)).toNat) ⟨rfl,0,by omega,rfl,friz⟩ ?_;rintro fr H' ⟨rfl,i,hi,hall,x,rfl⟩;by_cases h:i<l.length
 ·obtain⟨b,hb⟩:∃b,l[i]? =some b:=⟨_,zqD h⟩
  have hat:=qaP hb;have hw:IntKind.i64.wrap ((i:Int)+1)=i+1:=wiz;simp[h,hat];refine qiV E _ _ b ?_;cases hf:qaj b
  ·simp[hf];exact aQz hB (h6:=(fin _ (by rw[tokB,qdN qaj l i b hb hf];rfl)))
  ·simp[hf,hw];refine Klz ⟨rfl,i+1,by omega,?_,friz⟩;rw[qbJ qaj l i b hb,hall,hf];rfl
 ·have:l.take i=l:=zqE (by omega);rw[this]at hall
  have ht:tokB l=decide (0<l.length):=by
   rw[tokB,hall];cases l<;>simp
  simp[h];exact aQz hB (h6:=(fin _ ht))
theorem qfD(l:List UInt8)(hl:l.length<=cap)(hQ:Q (.bool (qbh l)) H):PC Tryz.prog E 113 [.str l] H Q:=by
 refine qab Tryz.func113 rfl [] [] (by kernel_rfl) (fun hB=>?_);simp[Tryz.ntmps113,Tryz.results113,List.replicate_succ];refine qeT E _ _ l hl ?_;cases ht:tokB l with
 |false=>
  have e:qbh l=false:=by unfold qbh;rw[ht];simp
  rw[e]at hQ;simp;exact aQz hB (h6:=hQ)
 |true=>
  have e:qbh l=decide ((l.length:Int)<=128):=by
   unfold qbh;rw[ht,Bool.and_true];by_cases h:l.length<=128
   ·rw[decide_eq_true h,decide_eq_true (by omega)]
   ·rw[decide_eq_false h,decide_eq_false (by omega)]
  rw[e]at hQ;simp;exact aQz hB (h6:=hQ)
def inInv(ls:List (List UInt8))(s:List UInt8)(H:Hp)(fr:List AV)(H':Hp):Prop:=H'=H/\∃i:Nat,i<=ls.length/\(ls.take i).contains s=false/\∃x:Nat->AV,fr=[x 0,.str s,x 2,x 3,x 4,x 5,x 6,.sl false 1 (strs ls),.int .i64 ls.length,.int .i64 i,x 10,x 11,x 12,x 13,x 14,x 15,x 16]
theorem in_pc(ls:List (List UInt8))(s:List UInt8)(hl:ls.length<=cap)(hQ:Q (.bool (ls.contains s)) H):PC Tryz.prog E 143 [.sl false 1 (strs ls),.str s] H Q:=by
 simp only[cap]at hl;refine qab Tryz.func143 rfl [] [] (by kernel_rfl) (fun hB=>?_);have fin:∀c:Bool,ls.contains s=c->Q (.bool c) H:=fun c hc=>hc▸hQ;simp[Tryz.ntmps143,Tryz.results143,List.replicate_succ,qjI];refine qaG (inInv ls s H) (fun fr _=>ls.length-(ai (aget fr 9)).toNat) ⟨rfl,0,by omega,rfl,friz⟩ ?_;rintro fr H' ⟨rfl,i,hi,hall,x,rfl⟩;by_cases h:i<ls.length
 ·obtain⟨b,hb⟩:∃b,ls[i]? =some b:=⟨_,zqD h⟩
  have hat:=qcN hb;have hw:IntKind.i64.wrap ((i:Int)+1)=i+1:=wiz;by_cases he:b=s
  ·simp[h,hat,he];refine aQz hB (h6:=(fin _ ?_));rw[List.contains_iff_mem,<-he];exact zqH hb
  ·have t1:(b==s)=false:=beq_eq_false_iff_ne.2 he;simp[h,hat,t1,hw];refine Klz ⟨rfl,i+1,by omega,?_,friz⟩;rw[List.take_add_one,hb];simp at hall;simp[hall];exact fun e=>he e.symm
 ·have:ls.take i=ls:=zqE (by omega);rw[this]at hall;simp[h];exact aQz hB (h6:=(fin _ hall))
theorem qkG(l:List UInt8)(hl:l.length<=cap)(hQ:Q (.bool (mayB l)) H):PC Tryz.prog E 117 [.str l] H Q:=by
 refine qab Tryz.func117 rfl [] [] (by kernel_rfl) (fun hB=>?_);have hr12:(([0,1,2,3,4,5,6,7,8,9,10,11]:List Nat)=List.range 12)=True:=eq_true (by decide);simp[Tryz.ntmps117,Tryz.results117,List.replicate_succ,hr12];refine qfD E _ _ l hl ?_;cases hn:qbh l with
 |false=>
  have e:mayB l=false:=by unfold mayB;rw[hn];rfl
  rw[e]at hQ;simp;exact aQz hB (h6:=hQ)
 |true=>
  have e:mayB l=!never.contains (low l):=by unfold mayB;rw[hn];rfl
  rw[e]at hQ;simp;refine qcf E _ _ l hl ?_;simp;refine in_pc E _ _ never (low l) (by simp[never,cap]) ?_;simp[-List.contains_eq_mem];exact aQz hB (h6:=hQ)
end
section
variable (E:Env)(H:Hp)(Q:AV->Hp->Prop)
theorem qfO(b:UInt8)(hQ:Q (.bool (fcB b)) H):PC Tryz.prog E 101 [.int .u8 (b.toNat:Int)] H Q:=by
 refine qab Tryz.func101 rfl [] [] (by kernel_rfl) (fun hB=>?_);have fin:∀c:Bool,fcB b=c->Q (.bool c) H:=fun c hc=>hc▸hQ;have hb:=b.toNat_lt;have hi:=qfW b;by_cases h9:b.toNat=9
 ·have t1:((b.toNat:Int)==9)=true:=by simp;omega
  simp[Tryz.ntmps101,Tryz.results101,List.replicate_succ,t1];exact aQz hB (h6:=(fin _ (by rw[hi];simp[h9])))
 ·have t1:((b.toNat:Int)==9)=false:=by simp;omega
  by_cases h32:32<=b.toNat
  ·have t2:(32:Int)<=b.toNat:=by omega
   by_cases h127:b.toNat=127
   ·have t3:((b.toNat:Int) !=127)=false:=by simp;omega
    simp[Tryz.ntmps101,Tryz.results101,List.replicate_succ,t1,t2,t3];exact aQz hB (h6:=(fin _ (by rw[hi];simp[h127])))
   ·have t3:((b.toNat:Int) !=127)=true:=by simp;omega
    simp[Tryz.ntmps101,Tryz.results101,List.replicate_succ,t1,t2,t3];exact aQz hB (h6:=(fin _ (by rw[hi];simp[h127,h32])))
  ·have t2:¬(32:Int)<=b.toNat:=by omega
   simp[Tryz.ntmps101,Tryz.results101,List.replicate_succ,t1,t2];exact aQz hB (h6:=(fin _ (by rw[hi];simp[h9,h32])))
def quInv(l:List UInt8)(H:Hp)(fr:List AV)(H':Hp):Prop:=H'=H/\∃(k:Nat) (acc:List UInt8),1<=k/\k<=l.length/\qdT l acc k/\∃x:Nat->AV,fr=[.str l,x 1,x 2,.int .i64 k,x 4,x 5,x 6,x 7,x 8,x 9,x 10,x 11,x 12,x 13,x 14,x 15,x 16,x 17,x 18,x 19,x 20,x 21,x 22,x 23,x 24,x 25,x 26,x 27,x 28,x 29,x 30]
theorem ql1(l:List UInt8)(hl:l.length<=35184372088832)(H0:l[0]? =some 34)(hQ:Q (.int .i64 (qaS l).2.1) H):PC Tryz.prog E 162 [.str l] H Q:=by
 refine qab Tryz.func162 rfl [] [] (by kernel_rfl) (fun hB=>?_);have bad:qaS l=([],0,13)->Q (.int .i64 0) H:=fun h=>by rw[h]at hQ;exact hQ
 have hl0:=(zqC.1 H0).1;simp[Tryz.ntmps162,Tryz.results162,List.replicate_succ];refine qaG (quInv l H) (fun fr _=>l.length-(ai (aget fr 3)).toNat) ⟨rfl,1,[],by omega,hl0,qfk l,friz⟩ ?_;rintro fr H' ⟨rfl,k,acc,hk1,hk,hu,x,rfl⟩;have hw:IntKind.i64.wrap ((k:Int)+1)=k+1:=wiz;by_cases h:k<l.length
 ·obtain⟨b,hb⟩:∃b,l[k]? =some b:=⟨_,zqD h⟩
  have hat:=qaP hb;by_cases b34:b.toNat=34
  ·have hx34:b=34:=UInt8.toNat_inj.1 b34;have t1:((b.toNat:Int)==34)=true:=by simp;omega
   have ha:=qfm hu hk1 (by rw[hb,hx34]) H0;rw[ha]at hQ;simp[h,hat,t1,hw];exact aQz hB (h6:=hQ)
  ·have t1:((b.toNat:Int)==34)=false:=by simp;omega
   by_cases b92:b.toNat=92
   ·have hx92:b=92:=UInt8.toNat_inj.1 b92;have t2:((b.toNat:Int)==92)=true:=by simp;omega
    have hb':l[k]? =some 92:=by rw[hb,hx92]
    by_cases h2:k+1<l.length
    ·obtain⟨d,hd⟩:∃d,l[k+1]? =some d:=⟨_,zqD h2⟩
     have hat2:lat l (k+1)=some d:=qaP hd;have htn:((k:Int)+1).toNat=k+1:=by omega
     have hge:(((k:Int)+1)==(l.length:Int))=false:=by rw[beq_eq_false_iff_ne];omega
     have h0k:(0:Int)<=(k:Int)+1:=by omega
     have hw2:IntKind.i64.wrap ((k:Int)+1+1)=k+2:=wiz;simp[h,hat,t1,t2,hw,hge,hat2,h0k,htn];refine qfO E _ _ d ?_;cases hf:fcB d
     ·simp[hf];exact aQz hB (h6:=(bad (qbK hu (qeP hb' hd hf) H0)))
     ·simp[hf,hw2];exact Klz ⟨rfl,k+2,acc++[d],by omega,by omega,qhE hu hk1 hb' hd hf,friz⟩
    ·have hge:(((k:Int)+1)==(l.length:Int))=true:=by rw[beq_iff_eq];omega
     simp[h,hat,t1,t2,hw,hge];exact aQz hB (h6:=(bad (qbK hu (qdS hb' (by omega)) H0)))
   ·have t2:((b.toNat:Int)==92)=false:=by simp;omega
    have ne1:b≠34:=by rintro rfl;exact b34 rfl
    have ne2:b≠92:=by rintro rfl;exact b92 rfl
    simp[h,hat,t1,t2];refine qfO E _ _ b ?_;cases hf:fcB b
    ·simp[hf];exact aQz hB (h6:=(bad (qbK hu (qdB hb ne1 ne2 hf) H0)))
    ·simp[hf,hat,hw];exact Klz ⟨rfl,k+1,acc++[b],by omega,by omega,qfl hu hk1 hb ne1 ne2 hf,friz⟩
 ·simp[h];exact aQz hB (h6:=(bad (qbK hu (qeQ (by omega)) H0)))
end
section
variable (E:Env)(H:Hp)(Q:AV->Hp->Prop)
end
section
variable (E:Env)(H:Hp)(Q:AV->Hp->Prop)
end
end Go.Proofs.YtnnhdehmlkkfjaaGreatDoor
namespace Go.Proofs.YtnnhdehmlkkfjaaGreatDoor
open Go Go.RowKit
inductive NilD:AV->AV->Prop
 |same (x):NilD x x
 |nil (k):NilD .nil (.sl false k [])
 |agg (l m:List AV) (hl:l.length=m.length) (h:∀(i:Nat) x y,l[i]? =some x->m[i]? =some y->NilD x y):NilD (.agg l) (.agg m)
 |tup (l m:List AV) (hl:l.length=m.length) (h:∀(i:Nat) x y,l[i]? =some x->m[i]? =some y->NilD x y):NilD (.tup l) (.tup m)
 |sl (k:Nat) (l m:List (List AV)) (hl:l.length=m.length) (hk:∀(i:Nat) r s,l[i]? =some r->m[i]? =some s->r.length=s.length) (h:∀(i j:Nat) r s x y,l[i]? =some r->m[i]? =some s->r[j]? =some x->s[j]? =some y->NilD x y):NilD (.sl false k l) (.sl false k m)
def NilL:List AV->List AV->Prop
 |[],[]=>True
 |x::l,y::m=>NilD x y/\NilL l m
 |_,_=>False
theorem NilL.at:∀{l m:List AV},NilL l m->l.length=m.length/\∀(i:Nat) x y,l[i]? =some x->m[i]? =some y->NilD x y
 |[],[],_=>⟨rfl,fun i x y hx=>by simp at hx⟩
 |x::l,y::m,h=>by
  obtain⟨h1,h2⟩:=NilL.at h.2;refine⟨by simp[h1],fun i a b ha hb=>?_⟩;cases i with
  |zero=>simp at ha hb;subst ha;subst hb;exact h.1
  |succ i=>exact h2 i a b (by simpa using ha) (by simpa using hb)
 |[],_::_,h=>h.elim
 |_::_,[],h=>h.elim
@[simp] theorem NilL_nil:NilL [] []=True:=rfl
@[simp] theorem NilL_cons (x y:AV) (l m:List AV):NilL (x::l) (y::m)=(NilD x y/\NilL l m):=rfl
@[simp] theorem NilD_same (x:AV):NilD x x=True:=eq_true (.same x)
@[simp] theorem NilD_nil (k:Nat):NilD .nil (.sl false k [])=True:=eq_true (.nil k)
theorem qhB{l m:List AV}(h:NilL l m):NilD (.agg l) (.agg m):= .agg l m h.at.1 h.at.2
theorem qhA{l m:List AV}(h:NilL l m):NilD (.tup l) (.tup m):= .tup l m h.at.1 h.at.2
theorem NilD.one{x y:AV}(h:NilD x y):x.one=true->y.one=true:=by
 cases h with
 |same=>exact id
 |nil=>exact fun _=>rfl
 |agg=>intro h;simp[AV.one]at h
 |tup=>intro h;simp[AV.one]at h
 |sl=>exact fun _=>rfl
theorem NilD.free{x y:AV}(h:NilD x y):x.free=true->y.free=true:=by
 cases h with
 |same=>exact id
 |nil=>exact fun _=>rfl
 |agg=>exact fun _=>rfl
 |tup=>exact fun _=>rfl
 |sl=>exact fun _=>rfl
theorem NilD.own{x y:AV}(h:NilD x y)(v:Value)(g:Nat):own0 y v=some g->own0 x v=some g:=by
 cases h with
 |same=>exact id
 |nil=>intro e;cases e
 |agg=>intro e;cases e
 |tup=>intro e;cases e
 |sl=>intro e;cases e
theorem NilD.dis{x y:AV}(h:NilD x y):x.dis.free=true->y.dis.free=true:=by
 cases h with
 |same=>exact id
 |nil=>exact fun _=>rfl
 |agg=>exact fun _=>rfl
 |tup=>exact fun _=>rfl
 |sl=>exact fun _=>rfl
theorem qbN{α β:Type}{l:List α}{m:List β}(h:l.length=m.length){i:Nat}{y:β}(hy:m[i]? =some y):∃x,l[i]? =some x:=by
 have:=(zqC.1 hy).1;exact⟨l[i],zqD (by omega)⟩
theorem NilD.bnd{N:Nat}{x y:AV}(h:NilD x y):Bnd N x->Bnd N y:=by
 induction h with
 |same=>exact id
 |nil k=>exact fun _=> .sl _ _ _ (by simp)
 |agg l m hl h ih=>
  intro hb;cases hb with
  |agg _ hb=>
   refine .agg _ fun y hy=>?_;obtain⟨i,hi⟩:=List.getElem?_of_mem hy;obtain⟨x,hx⟩:=qbN hl hi;exact ih i x y hx hi (hb x (qak hx))
 |tup l m hl h ih=>
  intro hb;cases hb with
  |tup _ hb=>
   refine .tup _ fun y hy=>?_;obtain⟨i,hi⟩:=List.getElem?_of_mem hy;obtain⟨x,hx⟩:=qbN hl hi;exact ih i x y hx hi (hb x (qak hx))
 |sl k l m hl hk h ih=>
  intro hb;cases hb with
  |sl _ _ _ hb=>
   refine .sl _ _ _ fun s hs y hy=>?_;obtain⟨i,hi⟩:=List.getElem?_of_mem hs;obtain⟨j,hj⟩:=List.getElem?_of_mem hy;obtain⟨r,hr⟩:=qbN hl hi;obtain⟨x,hx⟩:=qbN (hk i r s hr hi) hj;exact ih i j r s x y hr hi hx hj (hb r (qak hr) x (qak hx))
theorem qil:∀{l m:List (List AV)},l.length=m.length->(∀(i:Nat) (r s:List AV),l[i]? =some r->m[i]? =some s->r.length=s.length)->l.flatten.length=m.flatten.length/\
  ∀(t:Nat) x y,l.flatten[t]? =some x->m.flatten[t]? =some y->∃(i j:Nat) (r s:List AV),l[i]? =some r/\m[i]? =some s/\r[j]? =some x/\s[j]? =some y
 |[],[],_,_=>⟨rfl,fun t x y hx=>by simp at hx⟩
 |a::l,b::m,hl,hk=>by
  have hab:a.length=b.length:=hk 0 a b rfl rfl;obtain⟨h1,h2⟩:=qil (l:=l) (m:=m) (by simpa using hl) (fun i r s hr hs=>hk (i+1) r s (by simpa using hr) (by simpa using hs));refine⟨by simp[h1,hab],fun t x y hx hy=>?_⟩;rw[List.flatten_cons]at hx hy;by_cases ht:t<a.length
  ·rw[zqA ht]at hx;rw[zqA (by omega)]at hy;exact⟨0,t,a,b,rfl,rfl,hx,hy⟩
  ·rw[zqB (by omega)]at hx hy;rw[<-hab]at hy;obtain⟨i,j,r,s,e1,e2,e3,e4⟩:=h2 _ x y hx hy;exact⟨i+1,j,r,s,by simpa using e1,by simpa using e2,e3,e4⟩
 |[],_::_,h,_=>by simp at h
 |_::_,[],h,_=>by simp at h
theorem NilD.rel{w:World}{β:Nat->Nat}{Rd:Nat->Nat->Prop}{x y:AV}(h:NilD x y):∀{v:Value},Rel w β Rd x v->Rel w β Rd y v:=by
 induction h with
 |same=>exact id
 |nil k=>
  intro v hr;obtain rfl:=qgX hr;exact .sl false k [] _ [] (by simp) (OSl.nil w k).toR (fun g o n c hv=>by cases hv) (fun h=>by cases h) (by simp) (fun j x u hx=>by simp at hx)
 |agg l m hl h ih=>
  intro v hr;cases hr with
  |agg _ vs hs hf hr=>
   refine .agg _ vs (by omega) (fun y hy=>?_) (fun j y u hy hu=>?_)
   ·obtain⟨i,hi⟩:=List.getElem?_of_mem hy;obtain⟨x,hx⟩:=qbN hl hi;obtain⟨f1,f2⟩:=hf x (qak hx);exact⟨(h i x y hx hi).free f1,(h i x y hx hi).one f2⟩
   ·obtain⟨x,hx⟩:=qbN hl hy;exact ih j x y hx hy (hr j x u hx hu)
 |tup l m hl h ih=>
  intro v hr;cases hr with
  |tup _ vs hs hf hr=>
   refine .tup _ vs (by omega) (fun y hy=>?_) (fun j y u hy hu=>?_)
   ·obtain⟨i,hi⟩:=List.getElem?_of_mem hy;obtain⟨x,hx⟩:=qbN hl hi;exact(h i x y hx hi).free (hf x (qak hx))
   ·obtain⟨x,hx⟩:=qbN hl hy;exact ih j x y hx hy (hr j x u hx hu)
 |sl k l m hl hkl h ih=>
  intro v hr;cases hr with
  |sl _ _ _ _ xs hk hx hd ho hf hr=>
   obtain⟨hfl,hfp⟩:=qil hl hkl;refine .sl false k m v xs (fun s hs=>?_) (by rw[<-hl];exact hx) (fun g o n c hv j hj=>hd g o n c hv j (by rw[hl];exact hj)) (fun h=>by cases h) (fun s hs y hy=>?_) (fun t y u hy hu=>?_)
   ·obtain⟨i,hi⟩:=List.getElem?_of_mem hs;obtain⟨r,hr⟩:=qbN hl hi;rw[<-hkl i r s hr hi];exact hk r (qak hr)
   ·obtain⟨i,hi⟩:=List.getElem?_of_mem hs;obtain⟨j,hj⟩:=List.getElem?_of_mem hy;obtain⟨r,hr⟩:=qbN hl hi;obtain⟨x,hx⟩:=qbN (hkl i r s hr hi) hj;obtain⟨f1,f2⟩:=hf r (qak hr) x (qak hx);have hn:=h i j r s x y hr hi hx hj;exact⟨hn.free f1,hn.one f2⟩
   ·obtain⟨x,hx⟩:=qbN hfl hy;obtain⟨i,j,r,s,e1,e2,e3,e4⟩:=hfp t x y hx hy;exact ih i j r s x y e1 e2 e3 e4 (hr t x u hx hu)
theorem PC.nilD{P:Program}{E:Env}{f:FuncId}{args:List AV}{H:Hp}{Q:AV->Hp->Prop}(h:PC P E f args H (fun v H'=>∃v',NilD v v'/\Q v' H')):PC P E f args H Q:=
 ⟨h.1,fun w β Rd Ow cargs h1 h2 h3 h4=>(h.2 w β Rd Ow cargs h1 h2 h3 h4).mono fun e w' ⟨u,v,H',β',Rd',Ow',he,⟨v',hn,hQ⟩,hp⟩=>
  ⟨u,v',H',β',Rd',Ow',he,hQ,hn.rel hp.rel,hn.bnd hp.bnd,fun g hg=>hp.own g (hn.own u g hg),hn.dis hp.ne,hp.hr,hp.old,hp.len,hp.keep,hp.frame,hp.os,hp.tape,hp.output,hp.size⟩⟩
end Go.Proofs.YtnnhdehmlkkfjaaGreatDoor
namespace Go.Proofs.YtnnhdehmlkkfjaaGreatDoor
open Go Go.RowKit Go.Proofs
def not10(b:UInt8):Bool:=b !=10
section
variable (E:Env)(H:Hp)(Q:AV->Hp->Prop)
end
section
variable (E:Env)(H:Hp)(Q:AV->Hp->Prop)
variable (t e:Int)(d:Bool)(b:List UInt8)(z:AV)(z1:z.dis=z)(z2:z.free=true)(z3:Bnd H.length z)
include z1 z2 z3
end
section
variable (m r f:Int)
def szD(B:List UInt8)(a:Nat):Dec:=⟨m,r,f,.size,[],0,B,[],0,a,false,0⟩
def trD(B:List UInt8)(T:List Fld)(sec:Nat)(a:Nat):Dec:=⟨m,r,f,.trailer,[],0,B,T,sec,a,false,0⟩
def Fw(s:List UInt8)(d:Dec)(a:Nat):Prop:=qa6 (newD m r f) s=((qa6 d (s.drop a)).1,(qa6 d (s.drop a)).2+a)
variable {m r f}{s:List UInt8}{d d1:Dec}{a n:Nat}{b:UInt8}{B:List UInt8}{T:List Fld}{sec:Nat}
section
variable (h:Fw m r f s (szD m r f B a) a)(hj:a+n<s.length)(hn:run not10 (s.drop a)=n)(h256:n<256)
include h hj hn h256
variable {l:List UInt8}(hx:endL ((s.drop a).take n++[10])=some l)
include hx
variable (he:(qav l).2.2=0)
include he
end
section
variable (h:Fw m r f s (trD m r f B T sec a) a)(hj:a+n<s.length)(hn:run not10 (s.drop a)=n)(hr:((sec+n:Nat):Int)<r)
include h hj hn hr
variable {l:List UInt8}(hx:endL ((s.drop a).take n++[10])=some l)(hl:l≠[])
include hx hl
variable (hf:¬f<=T.length)
include hf
end
end
section
variable (E:Env)(H:Hp)(Q:AV->Hp->Prop)
end
section
variable (E:Env)(H:Hp)(Q:AV->Hp->Prop)
end
section
variable (E:Env)(H:Hp)(Q:AV->Hp->Prop)
end
theorem qj3{x:AV}(h:qgS .str x):∃z,x= .str z:=by
 cases x<;>simp[qgS]at h;exact⟨_,rfl⟩
def dptr(p:Option Nat):AV:= .ptr (p.map fun i=>(i,0))
theorem qpA{P:Program}{rs:List ResultVar}{n:Nat}{Q:AV->Hp->Prop}{fr:List AV}{H':Hp}{v:AV}(h1:ares P fr H' rs=some v)(h3:n<=H'.length)(h4:BndH H'.length H')(h5:Bnd H'.length v)(h6:Q v H'):
  qcc P rs n Q .ret fr H':=⟨v,v,H',H',[],h1,qaa _,qbl _,(List.append_nil H').symm,h3,h4,h5,h6⟩
theorem qma{P:Program}{E:Env}(S:Nat->Prop){f:FuncId}{fn:Func}{c:Code}(hf:P.funcs[f]? =some fn)(hb:fn.body=some c)(B:List Tmp)(ND:List (Nat×List Nat))(hok:okB P B ND fn=true){args:List AV}{H:Hp}{Q:AV->Hp->Prop}
  (h:∀E':Env,E'.S=S->E'.w0=E.w0->E'.Fix=E.Fix->BndH H.length H->vc P E' B ND c (qcc P fn.results.toList H.length Q) (args++List.replicate (fn.ntmps-args.length) (.raw undef)) H):PC P E f args H Q:=
 PC.env (E:=E) (E':={E with S:=S}) rfl rfl (qab hf hb B ND hok (h _ rfl rfl rfl))
section
variable (E:Env)(H:Hp)(Q:AV->Hp->Prop)
structure COp where
 k:Int
 s:List UInt8
def COp.av(o:COp):List AV:=[.int .i64 o.k,.str o.s]
end
@[simp] theorem dptr_dis (p:Option Nat):(dptr p).dis=dptr p:=rfl
@[simp] theorem dptr_free (p:Option Nat):(dptr p).free=true:=rfl
@[simp] theorem dptr_one (p:Option Nat):(dptr p).one=true:=rfl
def cops(l:List COp):List (List AV):=l.map COp.av
@[simp] theorem cops_len (l:List COp):(cops l).length=l.length:=by simp[cops]
section
variable (E:Env)(H:Hp)(Q:AV->Hp->Prop)
variable {H}
variable (H)
end
def ints(l:List Int):List (List AV):=l.map fun z=>[.int .i64 z]
@[simp] theorem ints_len (l:List Int):(ints l).length=l.length:=by simp[ints]
theorem qhd{l:List Int}{i:Nat}{z:Int}(h:l[i]? =some z):lat (ints l) i=some [.int .i64 z]:=by simp[lat,ints,h]
section
variable (E:Env)(H:Hp)(Q:AV->Hp->Prop)
end
def hx(n:Nat):UInt8:=if n<10 then UInt8.ofNat (48+n)else UInt8.ofNat (87+n)
def hexD(n:Nat):List UInt8:=if h:n<16 then [hx n]else hexD (n/16)++[hx (n%16)]
termination_by n
decreasing_by omega
theorem qcG{n:Nat}(h:n<16):hexD n=[hx n]:=by rw[hexD,dif_pos h]
theorem qfc{n:Nat}(h:¬n<16):hexD n=hexD (n/16)++[hx (n%16)]:=by rw[hexD,dif_neg h]
theorem qo0(n:Nat):1<=(hexD n).length:=by
 by_cases h:n<16
 ·rw[qcG h];simp
 ·rw[qfc h];simp
theorem qj6:∀(k n:Nat),n<16^(k+1)->(hexD n).length<=k+1
 |0,n,h=>by rw[qcG (by simpa using h)];simp
 |k+1,n,h=>by
  by_cases h1:n<16
  ·rw[qcG h1];simp
  ·rw[qfc h1,zqK];have:=qj6 k (n/16) (by rw[Nat.pow_succ]at h;omega);simp;omega
theorem qbB(n:Nat)(h:n<=1099511627776):(hexD n).length<=11:=qj6 10 n (by simp;omega)
def qb9(p:List UInt8):List UInt8:=hexD p.length++[13,10]++p++[13,10]
def qan(ps:List (List UInt8)):List UInt8:=ps.flatMap qb9
def qbi(f:Fld):List UInt8:=f.name++58::(if f.value=[]then []else 32::f.value)
def qb2(l:List UInt8):Bool:=decide (l.length<=8192)&&fldB l&&decide (qaL l=l)
def qbx(f:Fld):Bool:=mayB f.name&&qb2 f.value
theorem qmi{l:List UInt8}(h:mayB l=true):qbh l=true:=by
 unfold mayB at h;simp at h;exact h.1
def qaB(ts:List Fld):List UInt8:=ts.flatMap fun f=>qbi f++[13,10]
def encT(ps:List (List UInt8))(ts:List Fld):List UInt8:=qan ps++([48,13,10]++(qaB ts++[13,10]))
def qam:List UInt8->List Int->List (List UInt8)
 |b,[]=>if b=[]then []else [b]
 |b,n::ns=>if b=[]then []else b.take n.toNat::qam (b.drop n.toNat) ns
theorem qcR:∀(ns:List Int) (b:List UInt8),(qam b ns).flatten=b
 |[],b=>by unfold qam;split<;>simp_all
 |n::ns,b=>by
  unfold qam;split
  ·simp_all
  ·rw[List.flatten_cons,qcR ns,List.take_append_drop]
theorem qd6:∀(ns:List Int) (b:List UInt8),(∀n∈ns,1<=n)->∀p∈qam b ns,p≠[]
 |[],b,_,p,hp=>by
  unfold qam at hp;split at hp
  ·cases hp
  ·rename_i h;simp at hp;subst hp;exact h
 |n::ns,b,hn,p,hp=>by
  unfold qam at hp;split at hp
  ·cases hp
  ·rename_i h;rcases List.mem_cons.1 hp with rfl|hp
   ·have h1:=hn n (by simp);intro e;have:=congrArg List.length e;rw[zqJ]at this;have hb:b.length≠0:=fun e=>h (List.length_eq_zero_iff.1 e);have h3:([]:List UInt8).length=0:=rfl;omega
   ·exact qd6 ns _ (fun x hx=>hn x (by simp[hx])) p hp
theorem qcw:∀(ns:List Int),qam [] ns=[]
 |[]=>rfl
 |_::_=>rfl
def psz:List Par->Nat
 |[]=>0
 |p::l=>p.name.length+p.value.length+psz l
theorem qoE(l:List Par)(i:Nat):psz (l.take i)<=psz l:=by
 induction l generalizing i with
 |nil=>simp
 |cons p l ih=>
  cases i with
  |zero=>simp[psz]
  |succ i=>have:=ih i;simp[psz];omega
theorem qqD{l:List Par}{i:Nat}{p:Par}(h:l[i]? =some p):p.name.length+p.value.length<=psz l:=by
 induction l generalizing i with
 |nil=>simp at h
 |cons q l ih=>
  cases i with
  |zero=>simp at h;subst h;simp[psz]
  |succ i=>have:=ih (i:=i) (by simpa using h);simp[psz];omega
theorem qqE(v:List UInt8):(prtV qaj v).length<=2*v.length+2:=by
 unfold prtV;have:=qfE v;split<;>omega
theorem qpP(l:List Par):(prt qaj l).length<=2*psz l+5*l.length:=by
 induction l with
 |nil=>simp[prt,psz]
 |cons p l ih=>
  have e:prt qaj (p::l)=prt1 qaj p++prt qaj l:=by simp[prt]
  have:=qqE p.value;rw[e,zqK]
  have h1:(prt1 qaj p).length<=p.name.length+2*p.value.length+5:=by
   unfold prt1;split<;>simp<;>omega
  simp[psz];omega
theorem qoF(l:List Par)(i:Nat)(p:Par)(h:l[i]? =some p):prt qaj (l.take (i+1))=prt qaj (l.take i)++prt1 qaj p:=by
 rw[List.take_add_one,h];simp[prt]
def qdC(l:List Par):List UInt8×Int:=if l.all (qd9 qaj)=true then(prt qaj l,0)else([],15)
theorem qcu(l:List UInt8):tokP qaj l=tokB l:=rfl
section
variable (E:Env)(H:Hp)(Q:AV->Hp->Prop)
def qoH(l:List Par)(H:Hp)(fr:List AV)(H':Hp):Prop:=∃(J:Hp) (i:Nat),H'=H++J/\i<=l.length/\(l.take i).all (qd9 qaj)=true/\∃x:Nat->AV,fr=[x 0,x 1,x 2,x 3,.str (prt qaj (l.take i)),x 5,x 6,x 7,.sl false 3 (prs l),.int .i64 l.length,.int .i64 i,x 11,x 12,x 13,x 14,x 15,x 16,x 17,x 18,x 19,x 20,x 21,x 22,x 23,x 24,x 25,x 26,x 27,x 28,x 29,x 30,x 31,x 32,x 33,x 34,x 35,x 36,x 37,x 38,x 39,x 40,x 41,x 42,x 43,x 44,x 45,x 46,x 47,x 48,x 49,x 50,x 51,x 52,x 53,x 54,x 55,x 56,x 57]
theorem qoG(hE:SE E)(l:List Par)(hl:psz l+l.length<=1048577)(hQ:Q (.tup [.str (qdC l).1,.int .i64 (qdC l).2]) H):PC Tryz.prog E 139 [.sl false 3 (prs l)] H Q:=by
 refine qab Tryz.func139 rfl [] [] (by kernel_rfl) (fun hB=>?_);simp[Tryz.ntmps139,Tryz.results139,List.replicate_succ];refine qaG (qoH l H) (fun fr _=>l.length-(ai (aget fr 10)).toNat) ⟨[],0,by simp,by omega,by simp,qal (by simp[prt])⟩ ?_;rintro fr H' ⟨J,i,rfl,hi,hall,x,rfl⟩;obtain⟨out,hout⟩:=exz (prt qaj (l.take i))
 have hol:out.length<=7*1048577:=by
  rw[<-hout];have h1:=qpP (l.take i);have h2:=qoE l i;rw[zqJ]at h1;omega
 rw[hout];by_cases h:i<l.length
 ·obtain⟨p,hp⟩:∃u,l[i]? =some u:=⟨_,zqD h⟩
  have hat:=prs_at hp;have hw:IntKind.i64.wrap ((i:Int)+1)=i+1:=wiz;have hpw:=qqD hp;have hst:=qoF l i p hp;rw[hout]at hst;have hstep:=qbv (qd9 qaj) l i p hp;have hstop:=qcl (qd9 qaj) l i p hp;obtain⟨nm,vl,hs⟩:=p;simp only at hat hpw hst hstep hstop
  have bad:qd9 qaj ⟨nm,vl,hs⟩=false->Q (.tup [.str [],.int .i64 15]) H:=fun hb=>by
   have:qdC l=([],15):=by unfold qdC;rw[if_neg (by rw[hstop hb];simp)]
   rw[this]at hQ;exact hQ
  have ncap:nm.length<=cap:=by simp only[cap];omega
  have vcap:vl.length<=cap:=by simp only[cap];omega
  simp[h,hat];refine qbr E _ _ hE nm ncap ?_;cases htk:tokB nm
  ·simp;exact qac hB rfl (qaa _) (by simp) (bad (by simp[qd9,qcu,htk]))
  ·simp;refine qdt E _ _ vl vcap ?_;cases hfd:fldB vl
   ·simp;exact qac hB rfl (qaa _) (by simp) (bad (by simp[qd9,qcu,htk,hfd]))
   ·have hm1:nm.length+2<=maxLen/\2+nm.length<=maxLen/\nm.length+1+1<=maxLen/\out.length+(nm.length+1+1)<=maxLen/\out.length+(nm.length+2)<=maxLen:=by unfold maxLen;omega
    cases hs with
    |false=>
     by_cases hv:vl=[]
     ·subst hv;have hok:qd9 qaj ⟨nm,[],false⟩=true:=by simp[qd9,qcu,htk];rfl
      have hst2:prt qaj (l.take (i+1))=out++59::32::nm:=by rw[hst];simp[prt1]
      simp[hm1,hw];exact Klz ⟨_,i+1,by simp;rfl,by omega,by rw[hstep,hall,hok];rfl,qal (by rw[hst2];simp)⟩
     ·have hne:(vl !=[])=true:=by simpa using hv
      simp[hne];exact qac hB rfl (qaa _) (by simp) (bad (by simp[qd9,hv]))
    |true=>
     have hok:qd9 qaj ⟨nm,vl,true⟩=true:=by simp[qd9,qcu,htk,hfd]
     have hst2:prt qaj (l.take (i+1))=out++59::32::(nm++61::prtV qaj vl):=by rw[hst];simp[prt1]
     simp[hm1];refine qbr E _ _ hE vl vcap ?_;cases htv:tokB vl
     ·have hpv:prtV qaj vl=quoted vl:=by unfold prtV;rw[qcu,htv];simp
      have hqa:qbe vl=(quoted vl,0):=by rw[qbe,if_pos hfd]
      have hql:=qfE vl;rw[hpv]at hst2;have hm2:(quoted vl).length+1<=maxLen/\1+(quoted vl).length<=maxLen/\out.length+(nm.length+1+1)+((quoted vl).length+1)<=maxLen/\out.length+(nm.length+1+1+((quoted vl).length+1))<=maxLen:=by unfold maxLen;omega
      simp;refine qoA E _ _ vl (by omega) ?_;simp[hqa,hm2,hw];exact Klz ⟨_,i+1,by simp;rfl,by omega,by rw[hstep,hall,hok];rfl,qal (by rw[hst2];simp)⟩
     ·have hpv:prtV qaj vl=vl:=by unfold prtV;rw[qcu,htv];simp
      rw[hpv]at hst2;have hm2:vl.length+1<=maxLen/\1+vl.length<=maxLen/\out.length+(nm.length+1+1)+(vl.length+1)<=maxLen/\out.length+(nm.length+1+1+(vl.length+1))<=maxLen:=by unfold maxLen;omega
      simp[hm2,hw];exact Klz ⟨_,i+1,by simp;rfl,by omega,by rw[hstep,hall,hok];rfl,qal (by rw[hst2];simp)⟩
 ·have ha:l.take i=l:=zqE (by omega);rw[ha]at hall hout;have:qdC l=(out,0):=by unfold qdC;rw[if_pos hall,hout]
  rw[this]at hQ;simp[h];exact qac hB rfl (qaa _) (by simp) hQ
end
section
variable (E:Env)(H:Hp)(Q:AV->Hp->Prop)
end
end Go.Proofs.YtnnhdehmlkkfjaaGreatDoor
