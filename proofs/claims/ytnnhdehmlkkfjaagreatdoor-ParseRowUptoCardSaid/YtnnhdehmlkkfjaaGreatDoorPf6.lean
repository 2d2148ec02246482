/- Part 6 of the texts below the law. -/
import Derived.Test.YtnnhdehmlkkfjaaGreatDoorPf5
import Derived.Lib.SliceRun
import Derived.Lib.IndexLaws
import Derived.Lib.ItoaLen
import Derived.Stop.LaidErr
set_option maxRecDepth 100000
set_option maxHeartbeats 16000000
set_option linter.unusedVariables false
set_option linter.unusedSimpArgs false
set_option linter.unusedSectionVars false
namespace Go.Proofs.YtnnhdehmlkkfjaaGreatDoor
open Go Go.RowKit Go.Proofs
@[simp] theorem qoK {α:Type} (l:List α) (n:Nat):(l.drop n).take (l.length-n)=l.drop n:=zqE (by rw[zqI];omega)
section
variable (E:Env)(H:Hp)(Q:AV->Hp->Prop)
theorem qm4(l:List UInt8)(most:Int)(hl:l.length<=cap)(hm1: -9223372036854775808<=most)(hm2:most<=9223372036854775807)(hQ:Q (.tup [.int .i64 (qag 16 most l).1,.int .i64 (qag 16 most l).2]) H):
  PC Tryz.prog E 237 [.str l,.int .i64 most] H Q:=by
 refine qav (v:= .tup [.int .i64 (qag 16 most l).1,.int .i64 (qag 16 most l).2]) (by kernel_rfl) (fun _=>True) (fun w hw=>trivial) (fun w β Rd cargs hS hsz hargs=>?_) (by simp) rfl hQ;obtain⟨u,v,rfl,hu,hv⟩:=args2 hsz hargs;obtain⟨s,rfl,rfl,hs⟩:=qat hu;obtain rfl:=qaw hv;refine(hex_ok s most (by rw[<-qac];exact hl) hm1 hm2 w).mono ?_;rintro e w' ⟨rfl,hF⟩;exact⟨_,rfl,hF,qj6⟩
theorem qau(l:List UInt8)(c:UInt8)(hQ:Q (.int .i64 (Lib.indexByte l c)) H):PC Tryz.prog E 156 [.str l,.int .u8 (c.toNat:Int)] H Q:=by
 refine qav (v:= .int .i64 (Lib.indexByte l c)) (by kernel_rfl) (fun _=>True) (fun w hw=>trivial) (fun w β Rd cargs hS hsz hargs=>?_) (by simp) rfl hQ;obtain⟨u,v,rfl,hu,hv⟩:=args2 hsz hargs;obtain⟨s,rfl,rfl,hs⟩:=qat hu;obtain rfl:=qaw hv;refine(qbM s c.toNat w).mono ?_;rintro e w' ⟨rfl,rfl⟩;have:(c.toNat:Int).toNat.toUInt8=c:=by simp
 rw[this];exact⟨_,rfl,Frm.refl _ _,.int _ _⟩
theorem qiW(l:List UInt8)(hl:l.length<=cap)(hQ:∀x,x.length<=l.length->Q (.str x) H):PC Tryz.prog E 200 [.str l,.str [32,9]] H Q:=by
 have hle:(Lib.trimLeftS l [32,9]).length<=l.length:=by
  unfold Lib.trimLeftS;exact(List.dropWhile_sublist _).length_le
 refine qav (v:= .str (Lib.trimLeftS l [32,9])) (by kernel_rfl) (fun _=>True) (fun w hw=>trivial) (fun w β Rd cargs hS hsz hargs=>?_) (.str _) rfl (hQ _ hle);obtain⟨u,v,rfl,hu,hv⟩:=args2 hsz hargs;obtain⟨s,rfl,rfl,hs⟩:=qat hu;obtain⟨t,rfl,ht,_⟩:=qat hv;have h116:(Tryz.prog.info? (lren.t 116)).map (fun i=>(i.zero,i.size))=some (some (.agg (Array.replicate 256 (.bool false))),256):=by kernel_rfl
 have htl:t.size=2:=by rw[<-qac,ht];rfl
 refine(Any.strings_TrimLeft_ascii lays161 (zero_of_info h116).1 (zero_of_info h116).2 s t w (by rw[htl];omega) (fun j b hb=>by
  rw[ht]at hb
  match j with
  |0=>simp at hb;subst hb;decide
  |1=>simp at hb;subst hb;decide
  |j+2=>simp at hb)).mono ?_
 rintro e w' ⟨rfl,hb⟩;rw[ht];exact⟨_,rfl,qbh hb,qc6 _ (qhr (Nat.le_trans hle hl))⟩
end
theorem qrf:∀(n:Nat) (s:List UInt8) (l:List Par) (k:Nat),s.length<=n->pars qak s=some (l,k)->l.length<=s.length/\k<=s.length:=by
 intro n
 induction n with
 |zero=>
  intro s l k hn h;have:s=[]:=List.length_eq_zero_iff.1 (by omega);subst this;rw[qdX qak [] (by simp)]at h;cases h;simp
 |succ n ih=>
  intro s l k hn h;by_cases h0:s[run qah s]? =some 59
  ·have hlt:=(zqC.1 h0).1;obtain⟨m,hm⟩:=exz (run qah (s.drop (run qah s+1)));obtain⟨j,hj⟩:=exz (run qak (s.drop (run qah s+1+m)));have hml:=qbY qah (s.drop (run qah s+1));rw[hm,zqI]at hml;have hjl:=qbY qak (s.drop (run qah s+1+m));rw[hj,zqI]at hjl;by_cases hz:j=0
   ·rw[qh2 qak s _ m j rfl h0 hm hj hz]at h;cases hp:pars qak (s.drop (run qah s+1))with
    |none=>rw[hp]at h;cases h
    |some p=>
     rw[hp]at h;simp at h;obtain⟨rfl,rfl⟩:=h;have:=ih _ p.1 p.2 (by rw[zqI];omega) hp;rw[zqI]at this;omega
   ·by_cases h1:s[run qah s+1+m+j]? =some 61
    ·have h1l:=(zqC.1 h1).1;cases hv:pval qak (s.drop (run qah s+1+m+j+1))with
     |none=>rw[qka qak s _ m j rfl h0 hm hj hz h1 hv]at h;cases h
     |some q=>
      have hq:=qmo (l:=s.drop (run qah s+1+m+j+1)) (x:=q.1) (k:=q.2) hv;rw[zqI]at hq;rw[qgl qak s _ m j rfl h0 hm hj hz h1 (x:=q.1) (k:=q.2) hv]at h;cases hp:pars qak (s.drop (run qah s+1+m+j+1+q.2))with
      |none=>rw[hp]at h;cases h
      |some p=>
       rw[hp]at h;simp at h;obtain⟨rfl,rfl⟩:=h;have:=ih _ p.1 p.2 (by rw[zqI];omega) hp;rw[zqI]at this;simp;omega
    ·rw[qgm qak s _ m j rfl h0 hm hj hz h1]at h;cases hp:pars qak (s.drop (run qah s+1+m+j))with
     |none=>rw[hp]at h;cases h
     |some p=>
      rw[hp]at h;simp at h;obtain⟨rfl,rfl⟩:=h;have:=ih _ p.1 p.2 (by rw[zqI];omega) hp;rw[zqI]at this;simp;omega
  ·rw[qdX qak s h0]at h;cases h;simp
theorem qmy(l:List UInt8):(qbx l).1.length<=l.length/\∃m:Nat,(qbx l).2.1=m/\m<=l.length:=by
 unfold qbx;cases h:pars qak l with
 |none=>exact⟨by simp,0,rfl,by omega⟩
 |some p=>
  have:=qrf _ l p.1 p.2 (Nat.le_refl _) h;exact⟨this.1,p.2,rfl,this.2⟩
theorem qpa(k:Nat)(x z:AV)(h:x.free=true)(h2:z.free=true):nilV (.tup [x,.nil,z]) (.tup [x,.sl false k [],z]):=
 .inr ⟨_,_,rfl,rfl,⟨.inl rfl,.inr ⟨rfl,false,k,rfl⟩,.inl rfl,trivial⟩,by simp[h,h2]⟩
def qax(l:List UInt8):Int×List Par×Int:=
 if run qcd l=0\/254<l.length then(0,[],100)
 else if(qbx (l.drop (run qcd l))).2.2≠0\/qa5 (l.drop (run qcd l+(qbx (l.drop (run qcd l))).2.1.toNat))≠[]then(0,[],100)
 else if(qag 16 1099511627776 (l.take (run qcd l))).2≠0 then(0,[],102)
 else((qag 16 1099511627776 (l.take (run qcd l))).1,(qbx (l.drop (run qcd l))).1,0)
theorem hex1(b:UInt8):(qag 16 15 [b]).2=if qcd b=true then 0 else 11:=by
 have h:=qik b;have hlt:=qnB b;unfold qag;simp only[List.cons_ne_nil,if_false];have e1:qbT 16 [b]=decide (0<=dig b/\dig b<16):=by simp[qbT]
 have e2:qcD 16 [b]=dig b:=by simp[qcD]
 rw[e1,<-h,e2];cases hb:qcd b
 ·simp
 ·rw[hb]at h;have:=of_decide_eq_true h.symm;have h15:¬15<dig b:=by omega
  simp[h15]
section
variable (E:Env)(H:Hp)(Q:AV->Hp->Prop)
def szInv(l:List UInt8)(H:Hp)(fr:List AV)(H':Hp):Prop:=H'=H/\∃n:Nat,n<=l.length/\(l.take n).all qcd=true/\∃x:Nat->AV,fr=[.str l,x 1,x 2,x 3,x 4,.int .i64 n,x 6,x 7,x 8,x 9,x 10,x 11,x 12,x 13,x 14,x 15,x 16,x 17,x 18,x 19,x 20,x 21,x 22,x 23,x 24,x 25,x 26,x 27,x 28,x 29,x 30,x 31,x 32,x 33,x 34,x 35,x 36,x 37,x 38,x 39,x 40,x 41,x 42,x 43,x 44,x 45,x 46,x 47,x 48,x 49,x 50,x 51,x 52,x 53,x 54,x 55,x 56,x 57,x 58,x 59,x 60,x 61,x 62,x 63,x 64,x 65]
theorem qh0(hE:SE E)(l:List UInt8)(hl:l.length<=cap)(hQ:Q (.tup [.int .i64 (qax l).1,.sl false 3 (prs (qax l).2.1),.int .i64 (qax l).2.2]) H):PC Tryz.prog E 229 [.str l] H Q:=by
 refine qad Tryz.func229 rfl [] [] (by kernel_rfl) (fun hB=>?_);have hl':=hl;simp only[cap]at hl';simp[Tryz.ntmps229,Tryz.results229,List.replicate_succ];refine qbd (szInv l H) (fun fr _=>l.length-(ai (aget fr 5)).toNat) ⟨rfl,0,by omega,by simp,friz⟩ ?_;rintro fr H' ⟨rfl,n,hn,hall,x,rfl⟩;have hw:IntKind.i64.wrap ((n:Int)+1)=n+1:=wiz
 have hcase:(∃b,l[n]? =some b/\qcd b=true)\/(∃b,l[n]? =some b/\qcd b=false)\/l.length<=n:=by
  cases hb:l[n]? with
  |none=>exact .inr (.inr (List.getElem?_eq_none_iff.1 hb))
  |some b=>
   cases hx:qcd b
   ·exact .inr (.inl ⟨b,rfl,hx⟩)
   ·exact .inl ⟨b,rfl,hx⟩
 rcases hcase with⟨b,hb,hx⟩|⟨b,hb,hx⟩|h
 ·have h:n<l.length:=(zqC.1 hb).1;have t1:((n:Int)+1).toNat=n+1:=by omega
  have t2:(0:Int)<=n+1:=by omega
  have t3:(l.drop n).take 1=[b]:=by rw[qaA l n b hb];rfl
  have t4:n+1<=l.length:=by omega
  simp[h,hw,t1,t2,t3,t4];refine qm4 E _ _ [b] 15 (by simp[cap]) (by omega) (by omega) ?_;rw[hex1,hx];simp[hw];refine qaR ?_ ?_;rotate_left
  ·simp;omega
  refine⟨rfl,n+1,by omega,?_,friz⟩;rw[qcY qcd l n b hb,hall,hx];rfl
 case' inr.inl=>
  have h:n<l.length:=(zqC.1 hb).1;have t1:((n:Int)+1).toNat=n+1:=by omega
  have t2:(0:Int)<=n+1:=by omega
  have t3:(l.drop n).take 1=[b]:=by rw[qaA l n b hb];rfl
  have t4:n+1<=l.length:=by omega
  simp[h,hw,t1,t2,t3,t4];refine qm4 E _ _ [b] 15 (by simp[cap]) (by omega) (by omega) ?_;rw[hex1,hx];have hr:run qcd l=n:=qdk qcd l n hall hn (fun c hc=>by rw[hb]at hc;cases hc;exact hx);clear hb hx t1 t2 t3 t4 h hw;simp
 case' inr.inr=>
  have h':¬n<l.length:=by omega
  have hr:run qcd l=n:=qdk qcd l n hall hn (fun c hc=>by have:=(zqC.1 hc).1;omega);simp[h'];clear h h' hw
 all_goals
  clear hall
  have bad:∀(fr:List AV) (e:Int),qax l=(0,[],e)->aget fr 2= .int .i64 0->aget fr 3= .nil->aget fr 4= .int .i64 e->qci Tryz.prog [ResultVar.tmp 2,ResultVar.tmp 3,ResultVar.tmp 4] H'.length Q .ret fr H':=fun fr e h0 h1 h2 h3=>by
   rw[h0]at hQ;exact qaV hB (v0:= .tup [.int .i64 0,.nil,.int .i64 e]) (by simp[h1,h2,h3]) (qpa 3 _ _ rfl rfl) (by simp) hQ
  by_cases hn0:n=0
  ·have ha:qax l=(0,[],100):=by unfold qax;rw[if_pos (.inl (by rw[hr];exact hn0))]
   subst hn0;simp;exact bad _ 100 ha rfl rfl rfl
  ·have e0:((n:Int)==0)=false:=by simp;omega
   by_cases hbig:254<l.length
   ·have ha:qax l=(0,[],100):=by unfold qax;rw[if_pos (.inr hbig)]
    have hbig':(254:Int)<l.length:=by omega
    simp[e0,hbig'];exact bad _ 100 ha rfl rfl rfl
   ·have hbig':¬(254:Int)<l.length:=by omega
    obtain⟨hpl,m,hm,hml⟩:=qmy (l.drop n);rw[zqI]at hml hpl;simp[e0,hbig',hn];refine qmx E _ _ hE (l.drop n) (by rw[zqI];omega) ?_
    have ha0:qax l=if(qbx (l.drop n)).2.2≠0\/qa5 (l.drop (n+m))≠[]then(0,[],100)else if(qag 16 1099511627776 (l.take n)).2≠0 then(0,[],102)else((qag 16 1099511627776 (l.take n)).1,(qbx (l.drop n)).1,0):=by
     unfold qax;rw[hr,if_neg (by omega),hm,Int.toNat_natCast]
    rw[hm];have hw2:IntKind.i64.wrap ((n:Int)+m)=((n+m:Nat):Int):=by rw[qaE (by omega) (by omega)];omega
    by_cases he:(qbx (l.drop n)).2.2=0
    ·have hnm:n+m<=l.length:=by omega
     simp[he,hw2,hnm,-Int.natCast_add];refine qfb E _ _ (l.drop (n+m)) (by rw[zqI];simp only[cap];omega) ?_;by_cases ht:qa5 (l.drop (n+m))=[]
     ·rw[ht];simp[hn];refine qm4 E _ _ (l.take n) 1099511627776 (by rw[zqJ];simp only[cap];omega) (by omega) (by omega) ?_;by_cases hx:(qag 16 1099511627776 (l.take n)).2=0
      ·have ha:qax l=((qag 16 1099511627776 (l.take n)).1,(qbx (l.drop n)).1,0):=by rw[ha0,if_neg (by simp[he,ht]),if_neg (by simp[hx])]
       rw[ha]at hQ;simp[hx];exact qaV hB (v0:= .tup [.int .i64 (qag 16 1099511627776 (l.take n)).1,.sl false 3 (prs (qbx (l.drop n)).1),.int .i64 0]) (by simp) (qaa _) (by simp[qnR,-qrO]) hQ
      ·have hx2:((qag 16 1099511627776 (l.take n)).2 !=0)=true:=by simpa using hx
       have ha:qax l=(0,[],102):=by rw[ha0,if_neg (by simp[he,ht]),if_pos hx]
       simp[hx2];exact bad _ 102 ha rfl rfl rfl
     ·have ht2:(qa5 (l.drop (n+m)) !=[])=true:=by simpa using ht
      have ha:qax l=(0,[],100):=by rw[ha0,if_pos (.inr ht)]
      simp[ht2];exact bad _ 100 ha rfl rfl rfl
    ·have he2:((qbx (l.drop n)).2.2 !=0)=true:=by simpa using he
     have ha:qax l=(0,[],100):=by rw[ha0,if_pos (.inl he)]
     simp[he2];exact bad _ 100 ha rfl rfl rfl
end
def qbu(l:List UInt8):Bool:=decide (l.length<=128)&&tokB l
def never:List (List UInt8):=[[99,111,110,110,101,99,116,105,111,110],[99,111,110,116,101,110,116,45,101,110,99,111,100,105,110,103],[99,111,110,116,101,110,116,45,108,101,110,103,116,104],[99,111,110,116,101,110,116,45,114,97,110,103,101],[99,111,110,116,101,110,116,45,116,121,112,101],[101,120,112,101,99,116],[104,111,115,116],[107,101,101,112,45,97,108,105,118,101],[116,101],[116,114,97,105,108,101,114],[116,114,97,110,115,102,101,114,45,101,110,99,111,100,105,110,103],[117,112,103,114,97,100,101]]
def mayB(l:List UInt8):Bool:=qbu l&&!never.contains (low l)
section
variable (E:Env)(H:Hp)(Q:AV->Hp->Prop)
theorem qij(hE:SE E)(l:List UInt8)(hl:l.length<=cap)(hQ:Q (.bool (qbu l)) H):PC Tryz.prog E 104 [.str l] H Q:=by
 refine qad Tryz.func104 rfl [] [] (by kernel_rfl) (fun hB=>?_);by_cases h:l.length<=128
 ·have h':(l.length:Int)<=128:=by omega
  have e:qbu l=tokB l:=by simp[qbu,h]
  rw[e]at hQ;simp[Tryz.ntmps104,Tryz.results104,List.replicate_succ,h'];refine qbF E _ _ hE l hl ?_;simp;exact aQz hB (h6:=hQ)
 ·have h':¬(l.length:Int)<=128:=by omega
  have e:qbu l=false:=by simp[qbu,h]
  rw[e]at hQ;simp[Tryz.ntmps104,Tryz.results104,List.replicate_succ,h'];exact aQz hB (h6:=hQ)
theorem qfz(hE:SE E)(l:List UInt8)(hl:l.length<=cap)(hQ:Q (.bool (mayB l)) H):PC Tryz.prog E 78 [.str l] H Q:=by
 refine qad Tryz.func78 rfl [] [] (by kernel_rfl) (fun hB=>?_);simp[Tryz.ntmps78,Tryz.results78,List.replicate_succ];refine qbB E _ _ l hl ?_;by_cases h:low l∈never
 ·have e:mayB l=false:=by unfold mayB;rw[List.contains_iff_mem.2 h];simp
  rw[e]at hQ;simp only[never,List.mem_cons,List.not_mem_nil,or_false]at h;rcases h with h|h|h|h|h|h|h|h|h|h|h|h
  all_goals
   rw[h];simp;exact aQz hB (h6:=hQ)
 ·have e:mayB l=qbu l:=by
   unfold mayB;have:never.contains (low l)=false:=Bool.eq_false_iff.2 (fun hh=>h (List.contains_iff_mem.1 hh));rw[this];simp
  rw[e]at hQ;have hb:∀x∈never,(low l==x)=false:=fun x hx=>beq_eq_false_iff_ne.2 (fun e=>h (e▸hx));have b0:=hb [99,111,110,110,101,99,116,105,111,110] (by simp[never]);have b1:=hb [99,111,110,116,101,110,116,45,101,110,99,111,100,105,110,103] (by simp[never]);have b2:=hb [99,111,110,116,101,110,116,45,108,101,110,103,116,104] (by simp[never]);have b3:=hb [99,111,110,116,101,110,116,45,114,97,110,103,101] (by simp[never]);have b4:=hb [99,111,110,116,101,110,116,45,116,121,112,101] (by simp[never]);have b5:=hb [101,120,112,101,99,116] (by simp[never]);have b6:=hb [104,111,115,116] (by simp[never]);have b7:=hb [107,101,101,112,45,97,108,105,118,101] (by simp[never]);have b8:=hb [116,101] (by simp[never]);have b9:=hb [116,114,97,105,108,101,114] (by simp[never]);have b10:=hb [116,114,97,110,115,102,101,114,45,101,110,99,111,100,105,110,103] (by simp[never]);have b11:=hb [117,112,103,114,97,100,101] (by simp[never]);clear hb h e;simp[b0,b1,b2,b3,b4,b5,b6,b7,b8,b9,b10,b11];refine qij E _ _ hE l hl ?_;simp;exact aQz hB (h6:=hQ)
end
structure Fld where
 name:List UInt8
 value:List UInt8
deriving DecidableEq
def ncol(b:UInt8):Bool:=b !=58
def qch(l:List UInt8):Option Fld:=
 if run ncol l<l.length/\qbu (l.take (run ncol l))=true/\fldB (l.drop (run ncol l+1))=true/\(qa5 (l.drop (run ncol l+1))).length<=8192 then some ⟨l.take (run ncol l),qa5 (l.drop (run ncol l+1))⟩else none
theorem qd4(l:List UInt8):Lib.indexByte l 58=if run ncol l<l.length then(run ncol l:Int)else-1:=by
 unfold run
 induction l with
 |nil=>rfl
 |cons a r ih=>
  unfold Lib.indexByte;rw[List.takeWhile_cons];by_cases h:a=58
  ·subst h;rfl
  ·have h1:(a==58)=false:=by simpa using h
   have h2:ncol a=true:=by simp[ncol,h]
   rw[h1,if_pos h2,ih];have hle:(r.takeWhile ncol).length<=r.length:=qbY ncol r;by_cases hh:(r.takeWhile ncol).length<r.length
   ·rw[if_pos hh];have h3:(((r.takeWhile ncol).length:Int)== -1)=false:=by rw[beq_eq_false_iff_ne];omega
    simp[h3,hh]
   ·rw[if_neg hh];simp[hh]
theorem qeZ(a:UInt8):(0<=Lib.indexByte [32,9] a)=(qah a=true):=by
 unfold Lib.indexByte qah;by_cases h1:a=32
 ·subst h1;decide
 ·by_cases h2:a=9
  ·subst h2;decide
  ·have e1:((32:UInt8)==a)=false:=by rw[beq_eq_false_iff_ne];exact fun e=>h1 e.symm
   have e2:((9:UInt8)==a)=false:=by rw[beq_eq_false_iff_ne];exact fun e=>h2 e.symm
   simp[e1,e2,h1,h2,Lib.indexByte]
theorem qkV(a:UInt8)(h:qah a=true):qak a=false:=by
 unfold qah at h;simp at h;rcases h with rfl|rfl<;>decide
theorem qg7{l:List UInt8}(h:qbu (l.take (run ncol l))=false):qch l=none:=by unfold qch;rw[if_neg (by rw[h];simp)]
theorem qjp{l:List UInt8}(h:l.length<=run ncol l):qch l=none:=by unfold qch;rw[if_neg (by omega)]
theorem qh7:qbu []=false:=by decide
theorem qgy{l:List UInt8}(h:run ncol l=0):qch l=none:=qg7 (by rw[h,List.take_zero];exact qh7)
theorem qid{l:List UInt8}{i:Nat}{b:UInt8}(hi:i<run ncol l)(hb:l[i]? =some b)(hs:qak b=false):qch l=none:=by
 apply qg7;unfold qbu tokB;rw[qhw qak (l.take (run ncol l)) i b (by rw[zqG hi];exact hb) hs];simp
theorem qle{l:List UInt8}(hi:128<run ncol l):qch l=none:=by
 apply qg7;have:=qbY ncol l;unfold qbu;rw[decide_eq_false (by rw[zqJ];omega)];rfl
theorem qmS{l:List UInt8}(h:fldB (l.drop (run ncol l+1))=false):qch l=none:=by unfold qch;rw[if_neg (by rw[h];simp)]
theorem qmT{l:List UInt8}(h:8192<(qa5 (l.drop (run ncol l+1))).length):qch l=none:=by unfold qch;rw[if_neg (by omega)]
section
variable (E:Env)(H:Hp)(Q:AV->Hp->Prop)
def qql(l:List UInt8)(H:Hp)(fr:List AV)(H':Hp):Prop:=H'=H++[[.str [],.str []]]/\∃i:Nat,i<=run ncol l/\i<=128/\(l.take i).all qak=true/\∃x:Nat->AV,fr=[.str l,x 1,.ptr (some (H.length,0)),x 3,x 4,.int .i64 (run ncol l:Nat),x 6,x 7,x 8,x 9,x 10,x 11,x 12,x 13,x 14,x 15,x 16,x 17,x 18,x 19,x 20,x 21,x 22,x 23,x 24,x 25,x 26,x 27,x 28,x 29,x 30,x 31,.int .i64 (run ncol l:Nat),.int .i64 i,x 34,x 35,x 36,x 37,x 38,x 39,x 40,x 41,x 42,x 43,x 44,x 45,x 46,x 47,x 48,x 49,x 50,x 51,x 52,x 53,x 54,x 55,x 56,x 57,x 58,x 59,x 60,x 61,x 62,x 63,x 64,x 65,x 66,x 67,x 68,x 69,x 70,x 71,x 72,x 73,x 74,x 75,x 76,x 77,x 78,x 79,x 80,x 81,x 82,x 83,x 84,x 85,x 86,x 87,x 88,x 89,x 90,x 91,x 92]
def qqk(l:List UInt8)(H:Hp)(fr:List AV)(H':Hp):Prop:=H'=H++[[.str [],.str []]]/\∃i:Nat,run ncol l+1<=i/\i<=l.length/\fldB ((l.drop (run ncol l+1)).take (i-(run ncol l+1)))=true/\∃x:Nat->AV,fr=[.str l,x 1,.ptr (some (H.length,0)),x 3,x 4,.int .i64 (run ncol l:Nat),x 6,.int .i64 i,x 8,x 9,x 10,x 11,x 12,x 13,x 14,x 15,x 16,x 17,x 18,x 19,x 20,x 21,x 22,x 23,x 24,x 25,x 26,x 27,x 28,x 29,x 30,x 31,x 32,x 33,x 34,x 35,x 36,x 37,x 38,x 39,x 40,x 41,x 42,x 43,x 44,x 45,x 46,x 47,x 48,x 49,x 50,x 51,x 52,x 53,x 54,x 55,x 56,x 57,x 58,x 59,x 60,x 61,x 62,x 63,x 64,x 65,x 66,x 67,x 68,x 69,x 70,x 71,x 72,x 73,x 74,x 75,x 76,x 77,x 78,x 79,x 80,x 81,x 82,x 83,x 84,x 85,x 86,x 87,x 88,x 89,x 90,x 91,x 92]
theorem qh1(hE:SE E)(l:List UInt8)(hl:l.length<=cap)(hQ1:∀f,qch l=some f->Q (.tup [.agg [.str f.name,.str f.value],.int .i64 0,.int .i64 0]) H)(hQ2:qch l=none->∀pl e,e≠0->Q (.tup [.agg [.str [],.str []],.int .i64 pl,.int .i64 e]) H):
  PC Tryz.prog E 167 [.str l] H Q:=by
 refine qad Tryz.func167 rfl [] [] (by kernel_rfl) (fun hB=>?_);have hl':=hl;simp only[cap]at hl';obtain⟨c,hc⟩:=exz (run ncol l);have hcl:=qbY ncol l;rw[hc]at hcl;have hib:=qd4 l;rw[hc]at hib
 have bad:∀(fr:List AV) (pl e:Int),qch l=none->e≠0->aget fr 2= .ptr (some (H.length,0))->aget fr 3= .int .i64 pl->aget fr 4= .int .i64 e->qci Tryz.prog [ResultVar.cell 2 65,ResultVar.tmp 3,ResultVar.tmp 4] H.length Q .ret fr (H++[[.str [],.str []]]):=fun fr pl e h0 he h2 h3 h4=>
  qab hB (v0:= .tup [.agg [.str [],.str []],.int .i64 pl,.int .i64 e]) (by simp[h2,h3,h4]) (qaa _) (by simp) (hQ2 h0 pl e he)
 have hcase:l=[]\/(∃a r,l=a::r/\qah a=true)\/(∃a r,l=a::r/\qah a=false):=by
  cases l with
  |nil=>exact .inl rfl
  |cons a r=>
   cases hb:qah a
   ·exact .inr (.inr ⟨a,r,rfl,hb⟩)
   ·exact .inr (.inl ⟨a,r,rfl,hb⟩)
 rcases hcase with rfl|⟨a,r,rfl,hb⟩|⟨a,r,hl0,hb⟩
 ·simp[Tryz.ntmps167,Tryz.results167,List.replicate_succ];refine qau E _ _ [] 58 ?_;have e0:Lib.indexByte [] 58= -1:=rfl;rw[e0];simp;exact bad _ 0 62 (by decide) (by decide) rfl rfl rfl
 ·have hc0:qch (a::r)=none:=by
   by_cases hz:c=0
   ·exact qgy (by rw[hc];exact hz)
   ·exact qid (i:=0) (b:=a) (by omega) rfl (qkV a hb)
  have hib2:0<=Lib.indexByte [32,9] a:=by rw[qeZ];exact hb
  have hne:(a::r !=[])=true:=rfl;simp[Tryz.ntmps167,Tryz.results167,List.replicate_succ,hne];refine qau E _ _ [32,9] a ?_;simp[hib2];exact bad _ 0 63 hc0 (by decide) rfl rfl rfl
 ·have hib2:¬0<=Lib.indexByte [32,9] a:=by rw[qeZ,hb];simp
  have hne:(l !=[])=true:=by rw[hl0];rfl
  have hl1:0<l.length:=by rw[hl0];simp
  have hla:lat l 0=some a:=by rw[hl0];rfl
  simp[Tryz.ntmps167,Tryz.results167,List.replicate_succ,hne,hl1,hla];refine qau E _ _ [32,9] a ?_;simp[hib2];refine qau E _ _ l 58 ?_;rw[hib];clear hib2 hne hla hl0 hib;by_cases hcc:c<l.length;rotate_left
  ·have hno:=qjp (l:=l) (by omega);simp[hcc];exact bad _ l.length 62 hno (by decide) rfl rfl rfl
  ·by_cases hz:c=0
   ·have hno:=qgy (l:=l) (by omega);subst hz;simp[hcc];exact bad _ 0 60 hno (by decide) rfl rfl rfl
   ·have hz2:((c:Int)==0)=false:=by simp;omega
    simp[hcc,hz,hz2];subst hc;refine qbd (qql l H) (fun fr _=>run ncol l-(ai (aget fr 33)).toNat) ⟨rfl,0,by omega,by omega,by simp,friz⟩ ?_;rintro fr H' ⟨rfl,i,hi,hi2,hall,x,rfl⟩;by_cases h:i<run ncol l
    ·obtain⟨b,hbi⟩:∃b,l[i]? =some b:=⟨_,zqD (by omega)⟩
     by_cases h128:128<=i
     ·have hno:=qle (l:=l) (by omega);have h128':(128:Int)<=i:=by omega
      simp[h,h128'];exact bad _ i 60 hno (by decide) rfl rfl rfl
     ·have h128':¬(128:Int)<=i:=by omega
      have hw:IntKind.i64.wrap ((i:Int)+1)=i+1:=wiz;have t1:((i:Int)+1).toNat=i+1:=by omega
      have t2:(0:Int)<=i+1:=by omega
      have t3:(l.drop i).take 1=[b]:=by rw[qaA l i b hbi];rfl
      have t4:i+1<=l.length:=by omega
      have ht:tokB [b]=qak b:=by simp[tokB]
      simp[h,h128',hw,t1,t2,t3,t4];refine qbF E _ _ hE [b] (by simp[cap]) ?_;rw[ht];cases hs:qak b with
      |false=>
       have hno:=qid h hbi hs;simp;exact bad _ i 60 hno (by decide) rfl rfl rfl
      |true=>
       simp[hw];refine qaR ?_ ?_;rotate_left
       ·simp;omega
       refine⟨rfl,i+1,by omega,by omega,?_,friz⟩;rw[qcY qak l i b hbi,hall,hs];rfl
    ·obtain rfl:i=run ncol l:=by omega
     have hnm:qbu (l.take (run ncol l))=true:=by
      unfold qbu tokB;rw[hall,decide_eq_true (by rw[zqJ];omega)];have:l.take (run ncol l)≠[]:=by intro e;have h2:=congrArg List.length e;rw[zqJ]at h2;have h3:min (run ncol l) l.length=0:=h2;omega
      cases he:l.take (run ncol l)with
      |nil=>exact absurd he this
      |cons _ _=>rfl
     have hw1:IntKind.i64.wrap (((run ncol l:Nat):Int)+1)=((run ncol l+1:Nat):Int):=by rw[qaE (by omega) (by omega)];omega
     clear hall;simp[h,hw1,-Int.natCast_add];refine qbd (qqk l H) (fun fr _=>l.length-(ai (aget fr 7)).toNat) ⟨rfl,run ncol l+1,by omega,by omega,by rw[Nat.sub_self,List.take_zero];rfl,friz⟩ ?_;clear hw1;rintro fr H' ⟨rfl,i,hi1,hi2,hall,x,rfl⟩;by_cases h:i<l.length
     ·obtain⟨b,hbi⟩:∃b,l[i]? =some b:=⟨_,zqD h⟩
      have hbd:(l.drop (run ncol l+1))[i-(run ncol l+1)]? =some b:=by rw[zqN,show run ncol l+1+(i-(run ncol l+1))=i by omega];exact hbi
      have hw:IntKind.i64.wrap ((i:Int)+1)=i+1:=wiz;have t1:((i:Int)+1).toNat=i+1:=by omega
      have t2:(0:Int)<=i+1:=by omega
      have t3:(l.drop i).take 1=[b]:=by rw[qaA l i b hbi];rfl
      have t4:i+1<=l.length:=by omega
      have ht:fldB [b]=fcB b:=by simp[fldB]
      simp[h,hw,t1,t2,t3,t4];refine qdn E _ _ [b] (by simp[cap]) ?_;rw[ht];cases hs:fcB b with
      |false=>
       have hno:=qmS (l:=l) (qhw fcB _ _ b hbd hs);simp;exact bad _ i 61 hno (by decide) rfl rfl rfl
      |true=>
       simp[hw];refine qaR ?_ ?_;rotate_left
       ·simp;omega
       refine⟨rfl,i+1,by omega,by omega,?_,friz⟩;rw[show i+1-(run ncol l+1)=(i-(run ncol l+1))+1 by omega];unfold fldB at hall⊢;rw[qcY fcB _ _ b hbd,hall,hs];rfl
     ·obtain rfl:i=l.length:=by omega
      have hfl:fldB (l.drop (run ncol l+1))=true:=by rw[zqE (by rw[zqI];omega)]at hall;exact hall
      clear hall h;obtain⟨c,hc⟩:=exz (run ncol l);rw[hc]at hcl hcc hz hz2 hnm hfl hi1;have hw1:IntKind.i64.wrap ((c:Int)+1)=((c+1:Nat):Int):=by rw[qaE (by omega) (by omega)];omega
      have t4:c+1<=l.length:=by omega
      simp[hc,hw1,t4,-Int.natCast_add];refine qfb E _ _ (l.drop (c+1)) (by rw[zqI];simp only[cap];omega) ?_;by_cases hbig:8192<(qa5 (l.drop (c+1))).length
      ·have hbig':(8192:Int)<(qa5 (l.drop (c+1))).length:=by omega
       have hno:=qmT (l:=l) (by rw[hc];exact hbig);simp[hbig'];refine qiW E _ _ (l.drop (c+1)) (by rw[zqI];simp only[cap];omega) (fun y hy=>?_);simp;exact bad _ _ 61 hno (by decide) rfl rfl rfl
      ·have hbig':¬(8192:Int)<(qa5 (l.drop (c+1))).length:=by omega
       have hyes:qch l=some ⟨l.take c,qa5 (l.drop (c+1))⟩:=by
        unfold qch;rw[hc,if_pos ⟨hcc,hnm,hfl,by omega⟩]
       simp[hbig',hcl];exact qab hB (v0:= .tup [.agg [.str (l.take c),.str (qa5 (l.drop (c+1)))],.int .i64 0,.int .i64 0]) (by simp) (qaa _) (by simp) (hQ1 _ hyes)
end
theorem qaZ{H:Hp}(hB:BndH H.length H)(c:Nat){l:List AV}(hl:∀x∈l,Bnd H.length x):BndH (H.set c l).length (H.set c l):=by
 intro m hm x hx;rw[List.length_set];rcases List.mem_or_eq_of_mem_set hm with h|h
 ·exact hB m h x hx
 ·rw[h]at hx;exact hl x hx
theorem qeg{P:Program}{rs:List ResultVar}{Q:AV->Hp->Prop}{fr:List AV}{H J:Hp}{v0 v:AV}{c:Nat}{l:List AV}(hB:BndH H.length H)(h1:ares P fr (H.set c l++J) rs=some v0)(h2:nilV v0 v)(hl:∀x∈l,Bnd H.length x)(h5:Bnd H.length v)(h6:Q v (H.set c l)):
  qci P rs H.length Q .ret fr (H.set c l++J):=qoe h1 h2 (by simp) (qaZ hB c hl) (by simpa using h5) h6
theorem qaC{P:Program}{rs:List ResultVar}{Q:AV->Hp->Prop}{fr:List AV}{H:Hp}{v0 v:AV}{c:Nat}{l:List AV}(hB:BndH H.length H)(h1:ares P fr (H.set c l) rs=some v0)(h2:nilV v0 v)(hl:∀x∈l,Bnd H.length x)(h5:Bnd H.length v)(h6:Q v (H.set c l)):
  qci P rs H.length Q .ret fr (H.set c l):=by
 have:=qeg (J:=[]) (P:=P) (rs:=rs) (Q:=Q) (fr:=fr) hB (by rw[List.append_nil];exact h1) h2 hl h5 h6;rwa[List.append_nil]at this
section
variable {H:Hp}{c:Nat}(h:c<H.length)
include h
theorem hs0(J:Hp):(H++J)[c]? =H[c]? :=zqA h
theorem hs1(x:List AV)(J:Hp):(H.set c x++J)[c]? =some x:=by rw[zqA (by simpa using h),zqO h]
theorem hs2(x y:List AV)(J:Hp):(H.set c x++J).set c y=H.set c y++J:=by rw[List.set_append_left _ _ (by simpa using h),List.set_set]
theorem hs3(y:List AV)(J:Hp):(H++J).set c y=H.set c y++J:=List.set_append_left _ _ h
theorem hs4(x:List AV):(H.set c x)[c]? =some x:=zqO h
theorem hs5(x y:List AV):(H.set c x).set c y=H.set c y:=List.set_set ..
end
theorem qdD{P:Program}{rs:List ResultVar}{Q:AV->Hp->Prop}{fr:List AV}{H J:Hp}{v:AV}{c:Nat}{l l':List AV}(hB:BndH H.length H)(hc:c<H.length)(hn:nilL l l')(h1:ares P fr (H.set c l++J) rs=some v)(hl:∀x∈l',Bnd H.length x)(h5:Bnd H.length v)(h6:Q v (H.set c l')):
  qci P rs H.length Q .ret fr (H.set c l++J):=by
 refine⟨v,v,H.set c l'++J,H.set c l',J,h1,qaa _,?_,rfl,by simp,qaZ hB c hl,by simpa using h5,h6⟩;have:=qcm (H.set c l++J) c l l' (hs1 hc _ _) hn;rw[hs2 hc]at this;exact this
theorem qay{P:Program}{rs:List ResultVar}{Q:AV->Hp->Prop}{fr:List AV}{H:Hp}{v:AV}{c:Nat}{l l':List AV}(hB:BndH H.length H)(hc:c<H.length)(hn:nilL l l')(h1:ares P fr (H.set c l) rs=some v)(hl:∀x∈l',Bnd H.length x)(h5:Bnd H.length v)(h6:Q v (H.set c l')):
  qci P rs H.length Q .ret fr (H.set c l):=by
 have:=qdD (J:=[]) (P:=P) (rs:=rs) (Q:=Q) (fr:=fr) hB hc hn (by rw[List.append_nil];exact h1) hl h5 h6;rwa[List.append_nil]at this
def flds(l:List Fld):List (List AV):=l.map fun f=>[.str f.name,.str f.value]
@[simp] theorem qcR (l:List Fld):(flds l).length=l.length:=by simp[flds]
theorem qd7(l:List Fld)(f:Fld):flds l++[[.str f.name,.str f.value]]=flds (l++[f]):=by simp[flds]
theorem qez{l:List Fld}{i:Nat}{f:Fld}(h:l[i]? =some f):lat (flds l) i=some [.str f.name,.str f.value]:=by simp[lat,flds,h]
theorem qcp{N:Nat}(o k)(l:List Fld):Bnd N (.sl o k (flds l)):= .sl _ _ _ fun r hr x hx=>by
 obtain⟨c,_,rfl⟩:=List.mem_map.1 hr;simp at hx;rcases hx with rfl|rfl<;>exact .str _
@[simp] theorem bnd_flds' {N:Nat} (l:List Fld):(∀r∈flds l,∀x∈r,Bnd N x)=True:=eq_true fun r hr x hx=>by
 obtain⟨c,_,rfl⟩:=List.mem_map.1 hr;simp at hx;rcases hx with rfl|rfl<;>exact .str _
@[simp] theorem bnd_bts' {N:Nat} (l:List UInt8):(∀r∈bts l,∀x∈r,Bnd N x)=True:=eq_true (qjG l)
theorem qdS{H:Hp}{i:Nat}{l:List AV}(h:H[i]? =some l):H.set i l=H:=by
 apply List.ext_getElem?;intro j;by_cases hj:i=j
 ·subst hj;rw[zqO (zqC.1 h).1,h]
 ·rw[zqF hj]
theorem qfW(b:UInt8)(n:Nat)(hn:n<256)(h:b≠UInt8.ofNat n):((b.toNat:Int)==n)=false:=by
 rw[beq_eq_false_iff_ne];exact fun e=>h (UInt8.toNat_inj.1 (by rw[UInt8.toNat_ofNat',Nat.mod_eq_of_lt hn];omega))
inductive Stg where
 |size|data|first|second|trailer
deriving DecidableEq
def Stg.fid:Stg->FuncId
 | .size=>217
 | .data=>231
 | .first=>239
 | .second=>246
 | .trailer=>230
structure Dec where
 most:Int
 room:Int
 fields:Int
 st:Stg
 line:List UInt8
 left:Int
 body:List UInt8
 trailers:List Fld
 section_:Nat
 total:Nat
 done:Bool
 err:Int
deriving DecidableEq
def Dec.av(d:Dec):List AV:=[.int .i64 d.most,.int .i64 d.room,.int .i64 d.fields,.fn d.st.fid [],.sl true 1 (bts d.line),.int .i64 d.left,.sl true 1 (bts d.body),.sl true 2 (flds d.trailers),.int .i64 d.section_,.int .i64 d.total,.bool d.done,.int .i64 d.err]
theorem Dec.bnd(d:Dec)(N:Nat):∀x∈d.av,Bnd N x:=by
 intro x hx;simp[Dec.av]at hx;rcases hx with rfl|rfl|rfl|rfl|rfl|rfl|rfl|rfl|rfl|rfl|rfl|rfl<;>simp
def endL(l:List UInt8):Option (List UInt8):=if 2<=l.length/\l.drop (l.length-2)=[13,10]then some (l.take (l.length-2))else none
def qfi(d:Dec)(b:UInt8):Dec×Int:=
 if b≠10 then({d with line:=d.line++[b]},if 256<=(d.line++[b]).length then 100 else 0)
 else match endL (d.line++[b])with
  |none=>({d with line:=[]},100)
  |some s=>if(qax s).2.2≠0 then({d with line:=[]},(qax s).2.2)
   else if d.most-d.body.length<(qax s).1 then({d with line:=[]},102)
   else if(qax s).1=0 then({d with line:=[],st:= .trailer},0)
   else({d with line:=[],left:=(qax s).1,st:= .data},0)
def qfO(d:Dec)(b:UInt8):Dec×Int:=(if d.left=1 then{d with body:=d.body++[b],left:=0,st:= .first}else{d with body:=d.body++[b],left:=d.left-1},0)
def qeJ(d:Dec)(b:UInt8):Dec×Int:=if b≠13 then(d,100)else({d with st:= .second},0)
def qc4(d:Dec)(b:UInt8):Dec×Int:=if b≠10 then(d,100)else({d with st:= .size},0)
def qbk(d:Dec)(b:UInt8):Dec×Int:=
 if d.room<=d.section_ then(d,104)
 else if b≠10 then({d with section_:=d.section_+1,line:=d.line++[b]},0)
 else match endL (d.line++[b])with
  |none=>({d with section_:=d.section_+1,line:=[]},101)
  |some s=>if s=[]then({d with section_:=d.section_+1,line:=[],done:=true},0)
   else if d.fields<=d.trailers.length then({d with section_:=d.section_+1,line:=[]},104)
   else match qch s with
    |none=>({d with section_:=d.section_+1,line:=[]},101)
    |some f=>if mayB f.name=true then({d with section_:=d.section_+1,line:=[],trailers:=d.trailers++[f]},0)else({d with section_:=d.section_+1,line:=[]},101)
section
variable (E:Env)(H:Hp)(Q:AV->Hp->Prop)(i:Nat)(d:Dec)(hd:H[i]? =some d.av)
include hd
theorem qeL:i<H.length:=(zqC.1 hd).1
theorem qkw(hl:d.line.length<=1073741824)(hQ:Q (match endL d.line with|some s=> .tup [.str s,.bool true]|none=> .tup [.str [],.bool false]) (H.set i ({d with line:=[]}:Dec).av)):
  PC Tryz.prog E 228 [.ptr (some (i,0))] H Q:=by
 have hlt:=qeL H i d hd;refine qad Tryz.func228 rfl [] [] (by kernel_rfl) (fun hB=>?_);have hw:IntKind.i64.wrap ((d.line.length:Int)-2)=d.line.length-2:=wiz;have hm:d.line.length<=maxLen:=by unfold maxLen;omega
 simp[Dec.av]at hd;simp[Tryz.ntmps228,Tryz.results228,List.replicate_succ,hd,hs0 hlt,hs1 hlt,hs2 hlt,hs3 hlt,hs4 hlt,hs5 hlt,hm,hw]
 have hn:nilL [AV.int .i64 d.most,.int .i64 d.room,.int .i64 d.fields,.fn d.st.fid [],.nil,.int .i64 d.left,.sl true 1 (bts d.body),.sl true 2 (flds d.trailers),.int .i64 d.section_,.int .i64 d.total,.bool d.done,.int .i64 d.err] ({d with line:=[]}:Dec).av:=
  ⟨.inl rfl,.inl rfl,.inl rfl,.inl rfl,.inr ⟨rfl,true,1,rfl⟩,.inl rfl,.inl rfl,.inl rfl,.inl rfl,.inl rfl,.inl rfl,.inl rfl,trivial⟩
 by_cases h2:2<=d.line.length
 ·have h2':(2:Int)<=d.line.length:=by omega
  have t1:(0:Int)<=d.line.length-2:=by omega
  have t2:((d.line.length:Int)-2).toNat=d.line.length-2:=by omega
  have t3:d.line.length-2<=d.line.length:=by omega
  by_cases he:d.line.drop (d.line.length-2)=[13,10]
  ·have hE:endL d.line=some (d.line.take (d.line.length-2)):=if_pos ⟨h2,he⟩;rw[hE]at hQ;have he1:(d.line.drop (d.line.length-2)==[13,10])=true:=beq_iff_eq.2 he;simp[h2',t1,t2,t3,he1,h2];exact qay hB hlt hn (by simp) (({d with line:=[]}:Dec).bnd _) (by simp) hQ
  ·have hE:endL d.line=none:=if_neg (fun h=>he h.2);have he2:(d.line.drop (d.line.length-2)==[13,10])=false:=beq_eq_false_iff_ne.2 he;rw[hE]at hQ;simp[h2',t1,t2,t3,he2,h2];exact qay hB hlt hn (by simp) (({d with line:=[]}:Dec).bnd _) (by simp) hQ
 ·have h2':¬(2:Int)<=d.line.length:=by omega
  have hE:endL d.line=none:=if_neg (fun h=>h2 h.1);rw[hE]at hQ;simp[h2'];exact qay hB hlt hn (by simp) (({d with line:=[]}:Dec).bnd _) (by simp) hQ
variable (b:UInt8)
theorem qpy(hQ:Q (.int .i64 (qeJ d b).2) (H.set i (qeJ d b).1.av)):PC Tryz.prog E 239 [.ptr (some (i,0)),.int .u8 (b.toNat:Int)] H Q:=by
 have hlt:=qeL H i d hd;have hself:H.set i d.av=H:=qdS hd;refine qad Tryz.func239 rfl [] [] (by kernel_rfl) (fun hB=>?_);by_cases hb:b=13
 ·subst hb;have e:qeJ d 13=({d with st:= .second},0):=rfl;rw[e]at hQ;simp[Dec.av]at hd;simp[Tryz.ntmps239,Tryz.results239,List.replicate_succ,hd,hs0 hlt,hs1 hlt,hs2 hlt,hs3 hlt,hs4 hlt,hs5 hlt];exact qaC hB rfl (qaa _) (({d with st:= .second}:Dec).bnd _) (by simp) hQ
 ·have e:qeJ d b=(d,100):=if_pos hb;have hb2:((b.toNat:Int)==13)=false:=qfW b 13 (by decide) hb;rw[e]at hQ;simp only[hself]at hQ;simp[Tryz.ntmps239,Tryz.results239,List.replicate_succ,bne,hb2];exact aQz hB (h6:=hQ)
theorem qmg(hQ:Q (.int .i64 (qc4 d b).2) (H.set i (qc4 d b).1.av)):PC Tryz.prog E 246 [.ptr (some (i,0)),.int .u8 (b.toNat:Int)] H Q:=by
 have hlt:=qeL H i d hd;have hself:H.set i d.av=H:=qdS hd;refine qad Tryz.func246 rfl [] [] (by kernel_rfl) (fun hB=>?_);by_cases hb:b=10
 ·subst hb;have e:qc4 d 10=({d with st:= .size},0):=rfl;rw[e]at hQ;simp[Dec.av]at hd;simp[Tryz.ntmps246,Tryz.results246,List.replicate_succ,hd,hs0 hlt,hs1 hlt,hs2 hlt,hs3 hlt,hs4 hlt,hs5 hlt];exact qaC hB rfl (qaa _) (({d with st:= .size}:Dec).bnd _) (by simp) hQ
 ·have e:qc4 d b=(d,100):=if_pos hb;have hb2:((b.toNat:Int)==10)=false:=qfW b 10 (by decide) hb;rw[e]at hQ;simp only[hself]at hQ;simp[Tryz.ntmps246,Tryz.results246,List.replicate_succ,bne,hb2];exact aQz hB (h6:=hQ)
theorem qrK(hl:d.body.length<=1073741824)(hlf:1<=d.left/\d.left<=1099511627776)(hQ:Q (.int .i64 (qfO d b).2) (H.set i (qfO d b).1.av)):PC Tryz.prog E 231 [.ptr (some (i,0)),.int .u8 (b.toNat:Int)] H Q:=by
 have hlt:=qeL H i d hd;refine qad Tryz.func231 rfl [9] [] (by kernel_rfl) (fun hB=>?_);have hw:IntKind.i64.wrap (d.left-1)=d.left-1:=wiz;have m1:d.body.length+1<=maxLen:=by unfold maxLen;omega
 have m2:d.body.length+1<=140737488355328:=by omega
 simp[Dec.av]at hd;by_cases h1:d.left=1
 ·have e:qfO d b=({d with body:=d.body++[b],left:=0,st:= .first},0):=by unfold qfO;rw[if_pos h1]
  rw[e]at hQ;have hw1:IntKind.i64.wrap 0=0:=rfl;simp[Tryz.ntmps231,Tryz.results231,List.replicate_succ,hd,hs0 hlt,hs1 hlt,hs2 hlt,hs3 hlt,hs4 hlt,hs5 hlt,m1,m2,h1,hw1,qcU];exact qaC hB rfl (qaa _) (({d with body:=d.body++[b],left:=0,st:= .first}:Dec).bnd _) (by simp) hQ
 ·have e:qfO d b=({d with body:=d.body++[b],left:=d.left-1},0):=by unfold qfO;rw[if_neg h1]
  rw[e]at hQ;have h0:(d.left-1==0)=false:=by rw[beq_eq_false_iff_ne];omega
  simp[Tryz.ntmps231,Tryz.results231,List.replicate_succ,hd,hs0 hlt,hs1 hlt,hs2 hlt,hs3 hlt,hs4 hlt,hs5 hlt,m1,m2,hw,h0,qcU];exact qaC hB rfl (qaa _) (({d with body:=d.body++[b],left:=d.left-1}:Dec).bnd _) (by simp) hQ
end
theorem qfj(l:List UInt8)(h:(qax l).2.2=0):0<=(qax l).1/\(qax l).1<=1099511627776:=by
 unfold qax at h⊢;split at h
 ·simp at h
 ·rename_i h1;rw[if_neg h1];split at h
  ·simp at h
  ·rename_i h2;rw[if_neg h2];split at h
   ·simp at h
   ·rename_i h3;rw[if_neg h3];simp only[ne_eq,Decidable.not_not]at h3;simp only;unfold qag at h3⊢;split at h3
    ·simp at h3
    ·rename_i g1;rw[if_neg g1];split at h3
     ·simp at h3
     ·rename_i g2;rw[if_neg g2];split at h3
      ·simp at h3
      ·rename_i g3;rw[if_neg g3];have:=qbU 16 (by omega) _ (by simpa using g2);simp only;omega
section
variable (E:Env)(H:Hp)(Q:AV->Hp->Prop)(i:Nat)(d:Dec)(hd:H[i]? =some d.av)(b:UInt8)
include hd
theorem qq0(hE:SE E)(hl:d.line.length<=1000000000)(hbl:d.body.length<=1073741824)(hm:0<=d.most/\d.most<=9223372036854775807)(hQ:Q (.int .i64 (qfi d b).2) (H.set i (qfi d b).1.av)):PC Tryz.prog E 217 [.ptr (some (i,0)),.int .u8 (b.toNat:Int)] H Q:=by
 have hlt:=qeL H i d hd;refine qad Tryz.func217 rfl [14] [] (by kernel_rfl) (fun hB=>?_);have m1:d.line.length+1<=maxLen:=by unfold maxLen;omega
 have m2:d.line.length+1<=140737488355328:=by omega
 simp[Dec.av]at hd;by_cases hb:b=10
 ·subst hb
  have e0:qfi d 10=(match endL (d.line++[10])with
   |none=>({d with line:=[]},100)
   |some s=>if(qax s).2.2≠0 then({d with line:=[]},(qax s).2.2)
    else if d.most-d.body.length<(qax s).1 then({d with line:=[]},102)
    else if(qax s).1=0 then({d with line:=[],st:= .trailer},0)
    else({d with line:=[],left:=(qax s).1,st:= .data},0)):=rfl
  rw[e0]at hQ;clear e0;have hb10:[AV.int .u8 10]=[AV.int .u8 ((10:UInt8).toNat:Int)]:=rfl;have hsn:bts d.line++[[AV.int .u8 10]]=bts (d.line++[10]):=qcU d.line 10;simp[Tryz.ntmps217,Tryz.results217,List.replicate_succ,hd,hs0 hlt,hs1 hlt,hs2 hlt,hs3 hlt,hs4 hlt,hs5 hlt,m1,m2,hsn];refine qkw E _ _ i {d with line:=d.line++[10]} (by rw[zqO hlt];rfl) (by simp;omega) ?_;cases hend:endL (d.line++[10])with
  |none=>
   rw[hend]at hQ;simp;exact qaC hB rfl (qaa _) (({d with line:=[]}:Dec).bnd _) (by simp) hQ
  |some s=>
   rw[hend]at hQ;simp only at hQ
   have hsl:s.length<=cap:=by
    unfold endL at hend;split at hend
    ·cases hend;rw[zqJ,zqK];simp only[cap];simp;omega
    ·cases hend
   simp;refine qh0 E _ _ hE s hsl ?_;by_cases he:(qax s).2.2=0
   ·rw[if_neg (by simpa using he)]at hQ;have hrg:=qfj s he;have hw:IntKind.i64.wrap (d.most-d.body.length)=d.most-d.body.length:=wiz;by_cases hmu:d.most-d.body.length<(qax s).1
    ·rw[if_pos hmu]at hQ;simp[he,Dec.av,hs0 hlt,hs1 hlt,hs2 hlt,hs3 hlt,hs4 hlt,hs5 hlt,hw,hmu];exact qaC hB rfl (qaa _) (({d with line:=[]}:Dec).bnd _) (by simp) hQ
    ·rw[if_neg hmu]at hQ;by_cases hz:(qax s).1=0
     ·rw[if_pos hz]at hQ;rw[hz]at hmu;simp[he,Dec.av,hs0 hlt,hs1 hlt,hs2 hlt,hs3 hlt,hs4 hlt,hs5 hlt,hw,hmu,hz];exact qaC hB rfl (qaa _) (({d with line:=[],st:= .trailer}:Dec).bnd _) (by simp) hQ
     ·rw[if_neg hz]at hQ;have hz2:((qax s).1==0)=false:=beq_eq_false_iff_ne.2 hz;simp[he,Dec.av,hs0 hlt,hs1 hlt,hs2 hlt,hs3 hlt,hs4 hlt,hs5 hlt,hw,hmu,hz2];exact qaC hB rfl (qaa _) (({d with line:=[],left:=(qax s).1,st:= .data}:Dec).bnd _) (by simp) hQ
   ·rw[if_pos (by simpa using he)]at hQ;have he2:((qax s).2.2 !=0)=true:=by simpa using he
    simp[he2];exact qaC hB rfl (qaa _) (({d with line:=[]}:Dec).bnd _) (by simp) hQ
 ·have e0:qfi d b=({d with line:=d.line++[b]},if 256<=(d.line++[b]).length then 100 else 0):=if_pos hb;rw[e0]at hQ;have hb2:((b.toNat:Int)==10)=false:=qfW b 10 (by decide) hb;by_cases h256:256<=(d.line++[b]).length
  ·rw[if_pos h256]at hQ;have h256':(256:Int)<=d.line.length+1:=by simp at h256;omega
   simp[Tryz.ntmps217,Tryz.results217,List.replicate_succ,hd,hs0 hlt,hs1 hlt,hs2 hlt,hs3 hlt,hs4 hlt,hs5 hlt,m1,m2,qcU,bne,hb2,h256'];exact qaC hB rfl (qaa _) (({d with line:=d.line++[b]}:Dec).bnd _) (by simp) hQ
  ·rw[if_neg h256]at hQ;have h256':¬(256:Int)<=d.line.length+1:=by simp at h256;omega
   simp[Tryz.ntmps217,Tryz.results217,List.replicate_succ,hd,hs0 hlt,hs1 hlt,hs2 hlt,hs3 hlt,hs4 hlt,hs5 hlt,m1,m2,qcU,bne,hb2,h256'];exact qaC hB rfl (qaa _) (({d with line:=d.line++[b]}:Dec).bnd _) (by simp) hQ
theorem qkO(hE:SE E)(hl:d.line.length<=1000000000)(htl:d.trailers.length<=1073741824)(hsl:d.section_<=1073741824)(hQ:Q (.int .i64 (qbk d b).2) (H.set i (qbk d b).1.av)):PC Tryz.prog E 230 [.ptr (some (i,0)),.int .u8 (b.toNat:Int)] H Q:=by
 have hlt:=qeL H i d hd;have hself:H.set i d.av=H:=qdS hd;refine qad Tryz.func230 rfl [30,78] [] (by kernel_rfl) (fun hB=>?_);have m1:d.line.length+1<=maxLen:=by unfold maxLen;omega
 have m2:d.line.length+1<=140737488355328:=by omega
 have m3:d.trailers.length+1<=maxLen:=by unfold maxLen;omega
 have m4:(d.trailers.length+1)*32<=140737488355328:=by omega
 have hw:IntKind.i64.wrap ((d.section_:Int)+1)=((d.section_+1:Nat):Int):=by rw[qaE (by omega) (by omega)];omega
 simp[Dec.av]at hd;by_cases hr:d.room<=d.section_
 ·have e0:qbk d b=(d,104):=if_pos hr;rw[e0]at hQ;simp only[hself]at hQ;simp[Tryz.ntmps230,Tryz.results230,List.replicate_succ,hd,hs0 hlt,hs1 hlt,hs2 hlt,hs3 hlt,hs4 hlt,hs5 hlt,hr];exact aQz hB (h6:=hQ)
 ·by_cases hb:b=10
  ·subst hb
   have e0:qbk d 10=(match endL (d.line++[10])with
    |none=>({d with section_:=d.section_+1,line:=[]},101)
    |some s=>if s=[]then({d with section_:=d.section_+1,line:=[],done:=true},0)
     else if d.fields<=d.trailers.length then({d with section_:=d.section_+1,line:=[]},104)
     else match qch s with
      |none=>({d with section_:=d.section_+1,line:=[]},101)
      |some f=>if mayB f.name=true then({d with section_:=d.section_+1,line:=[],trailers:=d.trailers++[f]},0)else({d with section_:=d.section_+1,line:=[]},101)):=by
    unfold qbk;rw[if_neg hr];rfl
   rw[e0]at hQ;clear e0;have hsn:bts d.line++[[AV.int .u8 10]]=bts (d.line++[10]):=qcU d.line 10;simp[Tryz.ntmps230,Tryz.results230,List.replicate_succ,hd,hs0 hlt,hs1 hlt,hs2 hlt,hs3 hlt,hs4 hlt,hs5 hlt,hr,m1,m2,hsn,hw,-Int.natCast_add];refine qkw E _ _ i {d with line:=d.line++[10],section_:=d.section_+1} (by rw[zqO hlt];rfl) (by simp;omega) ?_;cases hend:endL (d.line++[10])with
   |none=>
    rw[hend]at hQ;simp;exact qaC hB rfl (qaa _) (({d with section_:=d.section_+1,line:=[]}:Dec).bnd _) (by simp) hQ
   |some s=>
    rw[hend]at hQ;simp only at hQ
    have hsl:s.length<=cap:=by
     unfold endL at hend;split at hend
     ·cases hend;rw[zqJ,zqK];simp only[cap];simp;omega
     ·cases hend
    by_cases hse:s=[]
    ·rw[if_pos hse]at hQ;subst hse;simp[Dec.av,hs0 hlt,hs1 hlt,hs2 hlt,hs3 hlt,hs4 hlt,hs5 hlt];exact qaC hB rfl (qaa _) (({d with section_:=d.section_+1,line:=[],done:=true}:Dec).bnd _) (by simp) hQ
    ·rw[if_neg hse]at hQ;have hs02:(s==[])=false:=beq_eq_false_iff_ne.2 hse;by_cases hf:d.fields<=d.trailers.length
     ·rw[if_pos hf]at hQ;simp[Dec.av,hs0 hlt,hs1 hlt,hs2 hlt,hs3 hlt,hs4 hlt,hs5 hlt,hs02,hf];exact qaC hB rfl (qaa _) (({d with section_:=d.section_+1,line:=[]}:Dec).bnd _) (by simp) hQ
     ·rw[if_neg hf]at hQ;simp[Dec.av,hs0 hlt,hs1 hlt,hs2 hlt,hs3 hlt,hs4 hlt,hs5 hlt,hs02,hf];refine qh1 E _ _ hE s hsl (fun f hlf=>?_) (fun hlf pl e he=>?_)
      ·rw[hlf]at hQ;simp only at hQ
       have hfn:f.name.length<=cap:=by
        unfold qch at hlf;split at hlf
        ·cases hlf;simp only[zqJ];omega
        ·cases hlf
       simp;refine qfz E _ _ hE f.name hfn ?_;cases hmt:mayB f.name with
       |true=>
        rw[if_pos hmt]at hQ;simp[hs0 hlt,hs1 hlt,hs2 hlt,hs3 hlt,hs4 hlt,hs5 hlt,m3,m4,qd7];exact qeg hB rfl (qaa _) (({d with section_:=d.section_+1,line:=[],trailers:=d.trailers++[f]}:Dec).bnd _) (by simp) hQ
       |false=>
        rw[if_neg (by rw[hmt];simp)]at hQ;simp;exact qeg hB rfl (qaa _) (({d with section_:=d.section_+1,line:=[]}:Dec).bnd _) (by simp) hQ
      ·rw[hlf]at hQ;have he2:(e !=0)=true:=by simpa using he
       simp[he2];exact qeg hB rfl (qaa _) (({d with section_:=d.section_+1,line:=[]}:Dec).bnd _) (by simp) hQ
  ·have e0:qbk d b=({d with section_:=d.section_+1,line:=d.line++[b]},0):=by unfold qbk;rw[if_neg hr,if_pos hb]
   rw[e0]at hQ;have hb2:((b.toNat:Int)==10)=false:=qfW b 10 (by decide) hb;simp[Tryz.ntmps230,Tryz.results230,List.replicate_succ,hd,hs0 hlt,hs1 hlt,hs2 hlt,hs3 hlt,hs4 hlt,hs5 hlt,hr,m1,m2,qcU,bne,hb2,hw,-Int.natCast_add];exact qaC hB rfl (qaa _) (({d with section_:=d.section_+1,line:=d.line++[b]}:Dec).bnd _) (by simp) hQ
end
set_option linter.unnecessarySimpa false
def qbV(d:Dec)(b:UInt8):Dec×Int:=match d.st with
 | .size=>qfi d b
 | .data=>qfO d b
 | .first=>qeJ d b
 | .second=>qc4 d b
 | .trailer=>qbk d b
def feed1(d:Dec)(b:UInt8):Dec:={(qbV {d with total:=d.total+1} b).1 with err:=(qbV {d with total:=d.total+1} b).2}
def qan(d:Dec):List UInt8->Dec×Nat
 |[]=>(d,0)
 |b::s=>if(feed1 d b).done=true\/(feed1 d b).err≠0 then(feed1 d b,1)else((qan (feed1 d b) s).1,(qan (feed1 d b) s).2+1)
def okD(d:Dec):Prop:=d.line.length<=d.total/\d.body.length<=d.total/\d.trailers.length<=d.total/\d.section_<=d.total/\(0<=d.most/\d.most<=9223372036854775807)/\(0<=d.room/\d.room<=9223372036854775807)/\(0<=d.fields/\d.fields<=9223372036854775807)/\(d.st= .data->1<=d.left/\d.left<=1099511627776)
theorem qiZ(d:Dec)(b:UInt8):(qbV d b).1.total=d.total/\(qbV d b).1.most=d.most/\(qbV d b).1.room=d.room/\(qbV d b).1.fields=d.fields:=by
 unfold qbV qfi qfO qeJ qc4 qbk
 (repeat' split)<;>exact⟨rfl,rfl,rfl,rfl⟩
theorem qoO(d:Dec)(b:UInt8)(h:okD d)(ht:1<=d.total)(h1:d.line.length+1<=d.total)(h2:d.body.length+1<=d.total)(h3:d.trailers.length+1<=d.total)(h4:d.section_+1<=d.total):okD (qbV d b).1:=by
 obtain⟨a1,a2,a3,a4,a5,a6,a7,a8⟩:=h;unfold qbV;split
 ·unfold qfi;split
  ·rename_i hst _;exact⟨by simpa using h1,a2,a3,a4,a5,a6,a7,fun e=>by simp only at e;rw[hst]at e;cases e⟩
  ·rename_i hst _;split
   ·exact⟨by simp,a2,a3,a4,a5,a6,a7,fun e=>by simp only at e;rw[hst]at e;cases e⟩
   ·rename_i s hs;split
    ·exact⟨by simp,a2,a3,a4,a5,a6,a7,fun e=>by simp only at e;rw[hst]at e;cases e⟩
    ·rename_i he;split
     ·exact⟨by simp,a2,a3,a4,a5,a6,a7,fun e=>by simp only at e;rw[hst]at e;cases e⟩
     ·split
      ·exact⟨by simp,a2,a3,a4,a5,a6,a7,fun e=>by cases e⟩
      ·rename_i hz;have:=qfj s (by simpa using he);exact⟨by simp,a2,a3,a4,a5,a6,a7,fun e=>by simp only;omega⟩
 ·rename_i hst;have hl:=a8 hst;unfold qfO;split
  ·exact⟨a1,by simpa using h2,a3,a4,a5,a6,a7,fun e=>by cases e⟩
  ·exact⟨a1,by simpa using h2,a3,a4,a5,a6,a7,fun e=>by simp only;omega⟩
 ·rename_i hst;unfold qeJ;split
  ·exact⟨a1,a2,a3,a4,a5,a6,a7,a8⟩
  ·exact⟨a1,a2,a3,a4,a5,a6,a7,fun e=>by cases e⟩
 ·rename_i hst;unfold qc4;split
  ·exact⟨a1,a2,a3,a4,a5,a6,a7,a8⟩
  ·exact⟨a1,a2,a3,a4,a5,a6,a7,fun e=>by cases e⟩
 ·rename_i hst;have nd:∀st:Stg,st=d.st->st= .data->1<=d.left/\d.left<=1099511627776:=fun st e e2=>by rw[e,hst]at e2;cases e2
  unfold qbk
  (repeat' split)
  all_goals first
   |exact⟨a1,a2,a3,a4,a5,a6,a7,nd _ rfl⟩
   |exact⟨by simpa using h1,a2,a3,h4,a5,a6,a7,nd _ rfl⟩
   |exact⟨by simp,a2,a3,h4,a5,a6,a7,nd _ rfl⟩
   |exact⟨by simp,a2,by simpa using h3,h4,a5,a6,a7,nd _ rfl⟩
theorem qkv(d:Dec)(b:UInt8)(h:okD d):okD (feed1 d b)/\(feed1 d b).total=d.total+1:=by
 obtain⟨a1,a2,a3,a4,a5,a6,a7,a8⟩:=h;have h0:okD {d with total:=d.total+1}:=⟨by simp only;omega,by simp only;omega,by simp only;omega,by simp only;omega,a5,a6,a7,a8⟩
 have:=qoO {d with total:=d.total+1} b h0 (by simp) (by simpa using a1) (by simpa using a2) (by simpa using a3) (by simpa using a4);exact⟨this,(qiZ _ b).1⟩
section
variable (E:Env)(H:Hp)(Q:AV->Hp->Prop)(i:Nat)(d:Dec)(hd:H[i]? =some d.av)(b:UInt8)
include hd
theorem qqX(hE:SE E)(hk:okD d)(ht:d.total<=1000000000)(hQ:Q (.int .i64 (qbV d b).2) (H.set i (qbV d b).1.av)):PC Tryz.prog E d.st.fid [.ptr (some (i,0)),.int .u8 (b.toNat:Int)] H Q:=by
 obtain⟨a1,a2,a3,a4,a5,a6,a7,a8⟩:=hk;unfold qbV at hQ;cases hst:d.st with
 |size=>rw[hst]at hQ;exact qq0 E H Q i d hd b hE (by omega) (by omega) a5 hQ
 |data=>rw[hst]at hQ;exact qrK E H Q i d hd b (by omega) (a8 hst) hQ
 |first=>rw[hst]at hQ;exact qpy E H Q i d hd b hQ
 |second=>rw[hst]at hQ;exact qmg E H Q i d hd b hQ
 |trailer=>rw[hst]at hQ;exact qkO E H Q i d hd b hE (by omega) (by omega) (by omega) hQ
end
def feI(H:Hp)(i:Nat)(d:Dec)(s:List UInt8)(fr:List AV)(H':Hp):Prop:=∃(n:Nat) (d':Dec),n<=s.length/\H'=H.set i d'.av/\okD d'/\d'.total=d.total+n/\d'.done=false/\d'.err=0/\qan d s=((qan d' (s.drop n)).1,(qan d' (s.drop n)).2+n)/\
 ∃x:Nat->AV,fr=[.ptr (some (i,0)),.str s,x 2,x 3,x 4,x 5,x 6,x 7,x 8,x 9,x 10,x 11,x 12,x 13,x 14,x 15,x 16,x 17,x 18,x 19,x 20,x 21,.str s,.int .i64 s.length,.int .i64 n,x 25,x 26,x 27,x 28,x 29,x 30,x 31,x 32,x 33,x 34,x 35,x 36,x 37,x 38,x 39,x 40,x 41,x 42,x 43,x 44,x 45,x 46,x 47,x 48,x 49,x 50,x 51,x 52,x 53,x 54,x 55,x 56,x 57,x 58,x 59,x 60,x 61,x 62,x 63,x 64,x 65]
section
variable (E:Env)(H:Hp)(Q:AV->Hp->Prop)(i:Nat)(d:Dec)(hd:H[i]? =some d.av)
include hd
theorem qns(hE:SE E)(s:List UInt8)(hk:okD d)(ht:d.total+s.length<=1000000000)(hQ1:d.done=false->d.err=0->Q (.tup [.int .i64 (qan d s).2,.int .i64 (qan d s).1.err]) (H.set i (qan d s).1.av))(hQ2:d.done=true\/d.err≠0->Q (.tup [.int .i64 0,.int .i64 103]) H):
  PC Tryz.prog E 218 [.ptr (some (i,0)),.str s] H Q:=by
 have hlt:=qeL H i d hd;have hself:H.set i d.av=H:=qdS hd;have hd':=hd;refine qad Tryz.func218 rfl [] [] (by kernel_rfl) (fun hB=>?_);simp[Dec.av]at hd;by_cases h1:d.done=true
 ·simp[Tryz.ntmps218,Tryz.results218,List.replicate_succ,hd,h1];exact aQz hB (h6:=(hQ2 (.inl h1)))
 ·have h1:d.done=false:=by simpa using h1
  by_cases h2:d.err=0
  ·have hQ:=hQ1 h1 h2;simp[Tryz.ntmps218,Tryz.results218,List.replicate_succ,hd,h1,h2];refine qbd (feI H i d s) (fun fr _=>s.length-(ai (aget fr 24)).toNat) ⟨0,d,by omega,hself.symm,hk,by omega,h1,h2,by simp,friz⟩ ?_;rintro fr H' ⟨n,e,hn,rfl,hke,hte,hde,hee,hfe,x,rfl⟩;have hes:(H.set i e.av)[i]? =some e.av:=zqO hlt;by_cases h:n<s.length
   ·obtain⟨b,hb⟩:∃b,s[n]? =some b:=⟨_,zqD h⟩
    have hat:lat s n=some b:=qbE hb;have hw:IntKind.i64.wrap ((e.total:Int)+1)=((e.total+1:Nat):Int):=by rw[qaE (by omega) (by omega)];omega
    have hw2:IntKind.i64.wrap ((n:Int)+1)=n+1:=wiz;have hdr:=qaA s n b hb;rw[hdr]at hfe;simp[h,hat,hw,hs0 hlt,hs1 hlt,hs2 hlt,hs3 hlt,hs4 hlt,hs5 hlt,Dec.av,-Int.natCast_add];have hes1:(H.set i ({e with total:=e.total+1}:Dec).av)[i]? =some ({e with total:=e.total+1}:Dec).av:=zqO hlt
    have hk1:okD {e with total:=e.total+1}:=by
     obtain⟨a1,a2,a3,a4,a5,a6,a7,a8⟩:=hke;exact⟨by simp only;omega,by simp only;omega,by simp only;omega,by simp only;omega,a5,a6,a7,a8⟩
    refine qqX E _ _ i {e with total:=e.total+1} hes1 b hE hk1 (by simp only;omega) ?_;obtain⟨hf1,hf2⟩:=qkv e b hke;have hfd:qan e (b::s.drop (n+1))=if(feed1 e b).done=true\/(feed1 e b).err≠0 then(feed1 e b,1)else((qan (feed1 e b) (s.drop (n+1))).1,(qan (feed1 e b) (s.drop (n+1))).2+1):=rfl
    rw[hfd]at hfe;clear hfd hk1 hes1;have hfeq:feed1 e b={(qbV {e with total:=e.total+1} b).1 with err:=(qbV {e with total:=e.total+1} b).2}:=rfl;obtain⟨⟨e2,r⟩,he2⟩:=exz (qbV {e with total:=e.total+1} b);rw[he2]at hfeq⊢;rw[hfeq]at hfe hf1 hf2;clear hfeq he2;simp only at hfe hf1 hf2;by_cases hdn:e2.done=true
    ·rw[if_pos (.inl hdn)]at hfe;rw[hfe]at hQ;simp[hs0 hlt,hs1 hlt,hs2 hlt,hs3 hlt,hs4 hlt,hs5 hlt,Dec.av,hdn,hw2];refine qaC hB rfl (qaa _) (({e2 with err:=r,done:=true}:Dec).bnd _) (by simp) ?_;simp only at hQ;rw[show((1+n:Nat):Int)=(n:Int)+1 by omega]at hQ;have hav:({e2 with err:=r}:Dec).av=({e2 with err:=r,done:=true}:Dec).av:=by rw[<-hdn]
     rw[hav]at hQ;exact hQ
    ·have hdn:e2.done=false:=by simpa using hdn
     by_cases hr:r=0
     ·rw[if_neg (by rw[hdn,hr];simp)]at hfe;simp[hs0 hlt,hs1 hlt,hs2 hlt,hs3 hlt,hs4 hlt,hs5 hlt,Dec.av,hdn,hr,hw2];refine qaR ?_ ?_;rotate_left
      ·simp;omega
      have hav:({e2 with err:=r}:Dec).av=({e2 with err:=0,done:=false}:Dec).av:=by rw[<-hdn,<-hr]
      subst hr;refine⟨n+1,{e2 with err:=0},by omega,?_,hf1,by rw[hf2];omega,hdn,rfl,?_,friz⟩
      ·rw[hav];rfl
      ·rw[hfe];simp only;rw[Nat.add_assoc,Nat.add_comm 1 n]
     ·have hr2:(r !=0)=true:=by simpa using hr
      rw[if_pos (.inr hr)]at hfe;rw[hfe]at hQ;simp[hs0 hlt,hs1 hlt,hs2 hlt,hs3 hlt,hs4 hlt,hs5 hlt,Dec.av,hdn,hr2,hw2];refine qaC hB rfl (qaa _) (({e2 with err:=r,done:=false}:Dec).bnd _) (by simp) ?_;simp only at hQ;rw[show((1+n:Nat):Int)=(n:Int)+1 by omega]at hQ;have hav:({e2 with err:=r}:Dec).av=({e2 with err:=r,done:=false}:Dec).av:=by rw[<-hdn]
      rw[hav]at hQ;exact hQ
   ·obtain rfl:n=s.length:=by omega
    rw[List.drop_length]at hfe;have hfd:qan e []=(e,0):=rfl;rw[hfd]at hfe;rw[hfe]at hQ;simp only[hee,Nat.zero_add]at hQ;simp[h];exact qaC hB rfl (qaa _) (e.bnd _) (by simp) hQ
  ·have h22:(d.err !=0)=true:=by simpa using h2
   simp[Tryz.ntmps218,Tryz.results218,List.replicate_succ,hd,h1,h22];exact aQz hB (h6:=(hQ2 (.inr h2)))
end
theorem Tryz.info65:(Tryz.prog.info? 65).map (fun i=>(i.zero,i.size,i.bytes))=some (some (.agg #[.string ⟨#[]⟩,.string ⟨#[]⟩]),2,32):=by kernel_rfl
theorem qmk{w:World}{k n:Nat}{v:Value}{xs:List Value}(h:RSl w k v n xs)(o:Obj):RSl (w.alloc o) k v n xs:=by
 obtain⟨h1,ao,cap,rfl,h2,h3,h4⟩:=h;refine⟨h1,ao,cap,rfl,h2,h3,fun hn=>?_⟩;obtain⟨g,o',rfl,h5⟩:=h4 hn;refine⟨g,o',rfl,fun j hj=>?_⟩;have h0:=h5 j hj;have hx:xs[j]? =some (xs[j]'(by omega)):=zqD _;rw[hx]at h0⊢;exact Lib.cell?_alloc_some _ h0
theorem qpK{w:World}{ao:Option Addr}{n c:Nat}{xs:List Value}(h:RSl w 2 (.slice ao n c) n xs)(h1:∀u∈xs,u.oneCell'=true)(hn:n<=1073741824):
  Calls Tryz.prog 232 #[.slice ao n c] w fun e w'=>∃bo m d,e= .returned (.slice bo m d)/\((bo=none/\m=0/\d=0/\n=0/\w'=w)\/(m=n/\OSl w' 2 (.slice bo n d) n xs/\(∀g',(Value.slice bo n d).ownBlock=some g'->w.heap.size<=g')/\Frm (fun _=>False) w w')):=by
 obtain⟨i0,hi,hz0,hz1,hz2⟩:=info_parts Tryz.info65;have q22:∀(w:World) (a:Option Addr) (n c n' c':Nat),(binOp .eql 24 (.slice a n c) (.slice none n' c')).run Tryz.prog w= .ok (.bool a.isNone) w:=fun w a n c n' c'=>Lib.run_eql_slice_nil w _ _ a n c n' c' Tryz.underlying24;have HR:=Lib.hid h;have H1:=Lib.hid h1;clear h h1
 go_enter Tryz.func232,Tryz.ntmps232
 cases ao with
 |none=>
  go_wp2
  go_ret
  refine⟨none,0,0,rfl,.inl ⟨rfl,rfl,rfl,?_,rfl⟩⟩;obtain⟨_,_,_,he,_,_,hc⟩:=HR.out;cases he;rcases Nat.eq_zero_or_pos n with h|h
  ·exact h
  ·obtain⟨_,_,h,_⟩:=hc h;cases h
 |some a=>
  have hE:OSl (w.alloc (.cells #[] 65)) 2 (.slice (some ⟨w.heap.size,0,none⟩) 0 0) 0 []:=OSl.new w #[] 65 2 0 0 [] rfl (Nat.le_refl _) (Nat.zero_le _) rfl (fun j hj=>by simp at hj);have HE:=Lib.hid hE;clear hE
  go_wp2_with (at_builtin;refine qei _ rfl (.tmp 5) (.tmp 6) 24 24 rfl 65 i0 (.agg #[.string ⟨#[]⟩,.string ⟨#[]⟩]) 2 32 Tryz.underlying24 hi hz0 hz1 hz2 rfl _ 0 [] rfl HE.out (.slice (some a) n c) n xs rfl (qfg (P:=Tryz.prog) (qmk HR.out _) H1.out Tryz.underlying24) (by unfold maxLen;omega) (by omega) ?_)
  intro ao4 c4 w4 hs hf hv;have HN4:=Lib.hid (qne (w:=w) (v':= .slice ao4 n c4) (H:=w.heap.size+1) (Frm.alloc _ w _) (fun g hg=>by simp[Value.ownBlock]at hg;omega) hf (by simpa using hv) (by omega));have hs':=hs
  try simp only[List.nil_append,Nat.zero_add]at hs'
  have HO4:=Lib.hid hs';clear hs' hs hf hv
  go_wp2
  go_ret
  exact⟨ao4,n,c4,by simp,.inr ⟨rfl,HO4.out,HN4.out.1,HN4.out.2⟩⟩
theorem qpw{l:List Fld}{j:Nat}{x:AV}(h:(flds l).flatten[j]? =some x):∃s,x= .str s:=by
 obtain⟨r,hr,hx⟩:=List.mem_flatten.1 (zqH h);obtain⟨f,_,rfl⟩:=List.mem_map.1 hr;simp at hx;rcases hx with rfl|rfl<;>exact⟨_,rfl⟩
theorem qpJ(E:Env)(H:Hp)(Q:AV->Hp->Prop)(own:Bool)(l:List Fld)(hl:l.length<=1073741824)(hf:own=false)(hQ:Q (.sl false 2 (flds l)) H):PC Tryz.prog E 232 [.sl own 2 (flds l)] H Q:=by
 refine⟨by kernel_rfl,fun w β Rd Ow cargs hHR hOw hsz hargs=>?_⟩;obtain⟨u,rfl,hu⟩:=args1 hsz (fun t x u hx hu=>(hargs t x u hx hu).1);obtain⟨xs,hk,hx,hd,hfr,hr⟩:=qeE hu;obtain⟨hxl,ao,c,rfl,h2,h3,h4⟩:=id hx;rw[qcR]at hx hxl h2 h4;have hone:∀u∈xs,u.oneCell'=true:=Rel.slOne (own:=own) hk (by rw[qcR];exact hxl) hfr hr;rw[qcR];refine(qpK (ao:=ao) (c:=c) hx hone hl).mono ?_;rintro e w' ⟨bo,m,d,rfl,⟨rfl,rfl,rfl,hn0,rfl⟩|⟨rfl,ho,hnew,hF⟩⟩
 ·have:l=[]:=List.length_eq_zero_iff.1 hn0;subst this
  have hrel:Rel w' β (fun g o=>Rd g o\/False) (.sl false 2 (flds [])) (.slice none 0 0):=
   .sl false 2 _ _ [] (fun r hr=>by simp[flds]at hr) ⟨by simp[flds],none,0,rfl,Nat.le_refl _,Nat.zero_le _,fun h=>by simp[flds]at h⟩ (fun g o n c hv j hj=>by cases hv) (fun h=>by cases h) (fun r hr=>by simp[flds]at hr) (fun j x u hx=>by simp[flds]at hx)
  exact⟨_,_,H,β,_,Ow,rfl,hQ,qcc hHR (Frm.refl _ _) (fun _ _=>False) (fun _ _ h=>h.elim) hrel (by simp[flds]) rfl⟩
 ·have hrel:Rel w' β (fun g o=>Rd g o\/(Value.slice bo l.length d).ownBlock=some g) (.sl false 2 (flds l)) (.slice bo l.length d):=by
   refine .sl false 2 _ _ xs hk (by rw[qcR];exact ho.toR) (fun g o n c hv j hj=> .inr (by rw[hv];rfl)) (fun h=>by cases h) hfr (fun j x u hx' hu'=>?_);obtain⟨t,rfl⟩:=qpw hx';obtain⟨b,rfl,hb1,hb2⟩:=qat (hr j _ u hx' hu');exact .str _ _ hb1 hb2
  exact⟨_,_,H,β,_,Ow,rfl,hQ,qcc hHR hF (fun g _=>(Value.slice bo l.length d).ownBlock=some g) (fun g o h=>⟨hnew g h,ho.lt g h⟩) hrel (qcp _ _ _) rfl⟩
def newD(most room fields:Int):Dec:=⟨most,room,fields,.size,[],0,[],[],0,0,false,0⟩
section
variable (E:Env)(H:Hp)(Q:AV->Hp->Prop)
theorem qhp(most room fields:Int)(hQ1:0<=most->0<=room->0<=fields->Q (.tup [.ptr (some (H.length,0)),.int .i64 0]) (H++[(newD most room fields).av]))(hQ2:most<0\/room<0\/fields<0->Q (.tup [.ptr none,.int .i64 1]) H):
  PC Tryz.prog E 196 [.int .i64 most,.int .i64 room,.int .i64 fields] H Q:=by
 refine qad Tryz.func196 rfl [] [] (by kernel_rfl) (fun hB=>?_);by_cases h1:most<0
 ·simp[Tryz.ntmps196,Tryz.results196,List.replicate_succ,h1];exact aQz hB (h6:=(hQ2 (.inl h1)))
 ·by_cases h2:room<0
  ·simp[Tryz.ntmps196,Tryz.results196,List.replicate_succ,h1,h2];exact aQz hB (h6:=(hQ2 (.inr (.inl h2))))
  ·by_cases h3:fields<0
   ·simp[Tryz.ntmps196,Tryz.results196,List.replicate_succ,h1,h2,h3];exact aQz hB (h6:=(hQ2 (.inr (.inr h3))))
   ·have hQ:=hQ1 (by omega) (by omega) (by omega);simp[Tryz.ntmps196,Tryz.results196,List.replicate_succ,h1,h2,h3]
    have hbn:BndH (H.length+1) (H++[(newD most room fields).av]):=fun l hl x hx=>by
     rcases List.mem_append.1 hl with h'|h'
     ·exact(hB l h' x hx).mono (by omega)
     ·simp at h';subst h';exact(newD most room fields).bnd _ x hx
    exact⟨.tup [.ptr (some (H.length,0)),.int .i64 0],_,H++[(newD most room fields).av],H++[(newD most room fields).av],[],rfl,qaa _,
     qg2 H ⟨⟨.inl rfl,.inl rfl,.inl rfl,.inl rfl,.inr ⟨rfl,true,1,rfl⟩,.inl rfl,.inr ⟨rfl,true,1,rfl⟩,.inr ⟨rfl,true,2,rfl⟩,.inl rfl,.inl rfl,.inl rfl,.inl rfl,trivial⟩,trivial⟩,
     (List.append_nil _).symm,by simp,by simpa using hbn,by simp,hQ⟩
theorem qpB(s:List UInt8)(hQ:Q (.tup [.int .i64 0,.int .i64 103]) H):PC Tryz.prog E 218 [.ptr none,.str s] H Q:=by
 refine qad Tryz.func218 rfl [] [] (by kernel_rfl) (fun hB=>?_);simp[Tryz.ntmps218,Tryz.results218,List.replicate_succ];exact aQz hB (h6:=hQ)
variable (i:Nat)(d:Dec)(hd:H[i]? =some d.av)
include hd
theorem qrE(hQ:Q (.bool d.done) H):PC Tryz.prog E 219 [.ptr (some (i,0))] H Q:=by
 have hlt:=qeL H i d hd;refine qad Tryz.func219 rfl [] [] (by kernel_rfl) (fun hB=>?_);simp[Dec.av]at hd;simp[Tryz.ntmps219,Tryz.results219,List.replicate_succ,hd];exact aQz hB (h6:=hQ)
theorem qrN(hl:d.body.length<=1073741824)(hQ:Q (.str d.body) H):PC Tryz.prog E 220 [.ptr (some (i,0))] H Q:=by
 have hm:d.body.length<=maxLen:=by unfold maxLen;omega
 refine qad Tryz.func220 rfl [] [] (by kernel_rfl) (fun hB=>?_);simp[Dec.av]at hd;simp[Tryz.ntmps220,Tryz.results220,List.replicate_succ,hd,hm];exact aQz hB (h6:=hQ)
theorem qiX(hl:d.trailers.length<=1073741824)(hQ:Q (.sl false 2 (flds d.trailers)) H):PC Tryz.prog E 221 [.ptr (some (i,0))] H Q:=by
 refine qad Tryz.func221 rfl [] [] (by kernel_rfl) (fun hB=>?_);simp[Dec.av]at hd;simp[Tryz.ntmps221,Tryz.results221,List.replicate_succ,hd];refine qpJ E _ _ false d.trailers hl rfl ?_;simp;exact aQz hB (h6:=hQ)
end
theorem qrj(most room fields:Int)(h1:0<=most/\most<=9223372036854775807)(h2:0<=room/\room<=9223372036854775807)(h3:0<=fields/\fields<=9223372036854775807):okD (newD most room fields):=
 ⟨by simp[newD],by simp[newD],by simp[newD],by simp[newD],h1,h2,h3,fun e=>by cases e⟩
theorem qpA(s:List UInt8):∀d,(qan d s).2<=s.length:=by
 induction s with
 |nil=>intro d;exact Nat.le_refl _
 |cons b s ih=>
  intro d;have hfd:qan d (b::s)=if(feed1 d b).done=true\/(feed1 d b).err≠0 then(feed1 d b,1)else((qan (feed1 d b) s).1,(qan (feed1 d b) s).2+1):=rfl
  rw[hfd];split
  ·simp
  ·have:=ih (feed1 d b);simp;omega
theorem qhh(s:List UInt8):∀d,okD d->okD (qan d s).1/\(qan d s).1.total=d.total+(qan d s).2:=by
 induction s with
 |nil=>intro d h;exact⟨h,rfl⟩
 |cons b s ih=>
  intro d h;have hfd:qan d (b::s)=if(feed1 d b).done=true\/(feed1 d b).err≠0 then(feed1 d b,1)else((qan (feed1 d b) s).1,(qan (feed1 d b) s).2+1):=rfl
  obtain⟨h1,h2⟩:=qkv d b h;rw[hfd];split
  ·exact⟨h1,h2⟩
  ·obtain⟨g1,g2⟩:=ih (feed1 d b) h1;exact⟨g1,by rw[g2,h2];simp only;omega⟩
section
variable (E:Env)(H:Hp)(Q:AV->Hp->Prop)
end
section
variable (E:Env)(H:Hp)(Q:AV->Hp->Prop)
end
section
variable (E:Env)(H:Hp)(Q:AV->Hp->Prop)
end
section
variable (E:Env)(H:Hp)(Q:AV->Hp->Prop)
end
end Go.Proofs.YtnnhdehmlkkfjaaGreatDoor
namespace Go.Proofs.YtnnhdehmlkkfjaaGreatDoor
open Go Go.RowKit
inductive NilD:AV->AV->Prop
 |same (x):NilD x x
 |nil (k):NilD .nil (.sl false k [])
 |agg (l m:List AV) (hl:l.length=m.length) (h:∀(i:Nat) x y,l[i]? =some x->m[i]? =some y->NilD x y):NilD (.agg l) (.agg m)
 |tup (l m:List AV) (hl:l.length=m.length) (h:∀(i:Nat) x y,l[i]? =some x->m[i]? =some y->NilD x y):NilD (.tup l) (.tup m)
 |sl (k:Nat) (l m:List (List AV)) (hl:l.length=m.length) (hk:∀(i:Nat) r s,l[i]? =some r->m[i]? =some s->r.length=s.length) (h:∀(i j:Nat) r s x y,l[i]? =some r->m[i]? =some s->r[j]? =some x->s[j]? =some y->NilD x y):NilD (.sl false k l) (.sl false k m)
def NilL:List AV->List AV->Prop
 |[],[]=>True
 |x::l,y::m=>NilD x y/\NilL l m
 |_,_=>False
theorem NilL.at:∀{l m:List AV},NilL l m->l.length=m.length/\∀(i:Nat) x y,l[i]? =some x->m[i]? =some y->NilD x y
 |[],[],_=>⟨rfl,fun i x y hx=>by simp at hx⟩
 |x::l,y::m,h=>by
  obtain⟨h1,h2⟩:=NilL.at h.2;refine⟨by simp[h1],fun i a b ha hb=>?_⟩;cases i with
  |zero=>simp at ha hb;subst ha;subst hb;exact h.1
  |succ i=>exact h2 i a b (by simpa using ha) (by simpa using hb)
 |[],_::_,h=>h.elim
 |_::_,[],h=>h.elim
@[simp] theorem NilL_nil:NilL [] []=True:=rfl
@[simp] theorem NilL_cons (x y:AV) (l m:List AV):NilL (x::l) (y::m)=(NilD x y/\NilL l m):=rfl
@[simp] theorem NilD_same (x:AV):NilD x x=True:=eq_true (.same x)
@[simp] theorem NilD_nil (k:Nat):NilD .nil (.sl false k [])=True:=eq_true (.nil k)
theorem qe6{l m:List AV}(h:NilL l m):NilD (.agg l) (.agg m):= .agg l m h.at.1 h.at.2
theorem qe5{l m:List AV}(h:NilL l m):NilD (.tup l) (.tup m):= .tup l m h.at.1 h.at.2
theorem NilD.one{x y:AV}(h:NilD x y):x.one=true->y.one=true:=by
 cases h with
 |same=>exact id
 |nil=>exact fun _=>rfl
 |agg=>intro h;simp[AV.one]at h
 |tup=>intro h;simp[AV.one]at h
 |sl=>exact fun _=>rfl
theorem NilD.free{x y:AV}(h:NilD x y):x.free=true->y.free=true:=by
 cases h with
 |same=>exact id
 |nil=>exact fun _=>rfl
 |agg=>exact fun _=>rfl
 |tup=>exact fun _=>rfl
 |sl=>exact fun _=>rfl
theorem NilD.own{x y:AV}(h:NilD x y)(v:Value)(g:Nat):own0 y v=some g->own0 x v=some g:=by
 cases h with
 |same=>exact id
 |nil=>intro e;cases e
 |agg=>intro e;cases e
 |tup=>intro e;cases e
 |sl=>intro e;cases e
theorem NilD.dis{x y:AV}(h:NilD x y):x.dis.free=true->y.dis.free=true:=by
 cases h with
 |same=>exact id
 |nil=>exact fun _=>rfl
 |agg=>exact fun _=>rfl
 |tup=>exact fun _=>rfl
 |sl=>exact fun _=>rfl
theorem qbW{α β:Type}{l:List α}{m:List β}(h:l.length=m.length){i:Nat}{y:β}(hy:m[i]? =some y):∃x,l[i]? =some x:=by
 have:=(zqC.1 hy).1;exact⟨l[i],zqD (by omega)⟩
theorem NilD.bnd{N:Nat}{x y:AV}(h:NilD x y):Bnd N x->Bnd N y:=by
 induction h with
 |same=>exact id
 |nil k=>exact fun _=> .sl _ _ _ (by simp)
 |agg l m hl h ih=>
  intro hb;cases hb with
  |agg _ hb=>
   refine .agg _ fun y hy=>?_;obtain⟨i,hi⟩:=List.getElem?_of_mem hy;obtain⟨x,hx⟩:=qbW hl hi;exact ih i x y hx hi (hb x (qaj hx))
 |tup l m hl h ih=>
  intro hb;cases hb with
  |tup _ hb=>
   refine .tup _ fun y hy=>?_;obtain⟨i,hi⟩:=List.getElem?_of_mem hy;obtain⟨x,hx⟩:=qbW hl hi;exact ih i x y hx hi (hb x (qaj hx))
 |sl k l m hl hk h ih=>
  intro hb;cases hb with
  |sl _ _ _ hb=>
   refine .sl _ _ _ fun s hs y hy=>?_;obtain⟨i,hi⟩:=List.getElem?_of_mem hs;obtain⟨j,hj⟩:=List.getElem?_of_mem hy;obtain⟨r,hr⟩:=qbW hl hi;obtain⟨x,hx⟩:=qbW (hk i r s hr hi) hj;exact ih i j r s x y hr hi hx hj (hb r (qaj hr) x (qaj hx))
theorem qiu:∀{l m:List (List AV)},l.length=m.length->(∀(i:Nat) (r s:List AV),l[i]? =some r->m[i]? =some s->r.length=s.length)->l.flatten.length=m.flatten.length/\
  ∀(t:Nat) x y,l.flatten[t]? =some x->m.flatten[t]? =some y->∃(i j:Nat) (r s:List AV),l[i]? =some r/\m[i]? =some s/\r[j]? =some x/\s[j]? =some y
 |[],[],_,_=>⟨rfl,fun t x y hx=>by simp at hx⟩
 |a::l,b::m,hl,hk=>by
  have hab:a.length=b.length:=hk 0 a b rfl rfl;obtain⟨h1,h2⟩:=qiu (l:=l) (m:=m) (by simpa using hl) (fun i r s hr hs=>hk (i+1) r s (by simpa using hr) (by simpa using hs));refine⟨by simp[h1,hab],fun t x y hx hy=>?_⟩;rw[List.flatten_cons]at hx hy;by_cases ht:t<a.length
  ·rw[zqA ht]at hx;rw[zqA (by omega)]at hy;exact⟨0,t,a,b,rfl,rfl,hx,hy⟩
  ·rw[zqB (by omega)]at hx hy;rw[<-hab]at hy;obtain⟨i,j,r,s,e1,e2,e3,e4⟩:=h2 _ x y hx hy;exact⟨i+1,j,r,s,by simpa using e1,by simpa using e2,e3,e4⟩
 |[],_::_,h,_=>by simp at h
 |_::_,[],h,_=>by simp at h
theorem NilD.rel{w:World}{β:Nat->Nat}{Rd:Nat->Nat->Prop}{x y:AV}(h:NilD x y):∀{v:Value},Rel w β Rd x v->Rel w β Rd y v:=by
 induction h with
 |same=>exact id
 |nil k=>
  intro v hr;obtain rfl:=qgW hr;exact .sl false k [] _ [] (by simp) (OSl.nil w k).toR (fun g o n c hv=>by cases hv) (fun h=>by cases h) (by simp) (fun j x u hx=>by simp at hx)
 |agg l m hl h ih=>
  intro v hr;cases hr with
  |agg _ vs hs hf hr=>
   refine .agg _ vs (by omega) (fun y hy=>?_) (fun j y u hy hu=>?_)
   ·obtain⟨i,hi⟩:=List.getElem?_of_mem hy;obtain⟨x,hx⟩:=qbW hl hi;obtain⟨f1,f2⟩:=hf x (qaj hx);exact⟨(h i x y hx hi).free f1,(h i x y hx hi).one f2⟩
   ·obtain⟨x,hx⟩:=qbW hl hy;exact ih j x y hx hy (hr j x u hx hu)
 |tup l m hl h ih=>
  intro v hr;cases hr with
  |tup _ vs hs hf hr=>
   refine .tup _ vs (by omega) (fun y hy=>?_) (fun j y u hy hu=>?_)
   ·obtain⟨i,hi⟩:=List.getElem?_of_mem hy;obtain⟨x,hx⟩:=qbW hl hi;exact(h i x y hx hi).free (hf x (qaj hx))
   ·obtain⟨x,hx⟩:=qbW hl hy;exact ih j x y hx hy (hr j x u hx hu)
 |sl k l m hl hkl h ih=>
  intro v hr;cases hr with
  |sl _ _ _ _ xs hk hx hd ho hf hr=>
   obtain⟨hfl,hfp⟩:=qiu hl hkl;refine .sl false k m v xs (fun s hs=>?_) (by rw[<-hl];exact hx) (fun g o n c hv j hj=>hd g o n c hv j (by rw[hl];exact hj)) (fun h=>by cases h) (fun s hs y hy=>?_) (fun t y u hy hu=>?_)
   ·obtain⟨i,hi⟩:=List.getElem?_of_mem hs;obtain⟨r,hr⟩:=qbW hl hi;rw[<-hkl i r s hr hi];exact hk r (qaj hr)
   ·obtain⟨i,hi⟩:=List.getElem?_of_mem hs;obtain⟨j,hj⟩:=List.getElem?_of_mem hy;obtain⟨r,hr⟩:=qbW hl hi;obtain⟨x,hx⟩:=qbW (hkl i r s hr hi) hj;obtain⟨f1,f2⟩:=hf r (qaj hr) x (qaj hx);have hn:=h i j r s x y hr hi hx hj;exact⟨hn.free f1,hn.one f2⟩
   ·obtain⟨x,hx⟩:=qbW hfl hy;obtain⟨i,j,r,s,e1,e2,e3,e4⟩:=hfp t x y hx hy;exact ih i j r s x y e1 e2 e3 e4 (hr t x u hx hu)
theorem PC.nilD{P:Program}{E:Env}{f:FuncId}{args:List AV}{H:Hp}{Q:AV->Hp->Prop}(h:PC P E f args H (fun v H'=>∃v',NilD v v'/\Q v' H')):PC P E f args H Q:=
 ⟨h.1,fun w β Rd Ow cargs h1 h2 h3 h4=>(h.2 w β Rd Ow cargs h1 h2 h3 h4).mono fun e w' ⟨u,v,H',β',Rd',Ow',he,⟨v',hn,hQ⟩,hp⟩=>
  ⟨u,v',H',β',Rd',Ow',he,hQ,hn.rel hp.rel,hn.bnd hp.bnd,fun g hg=>hp.own g (hn.own u g hg),hn.dis hp.ne,hp.hr,hp.old,hp.len,hp.keep,hp.frame,hp.os,hp.tape,hp.output,hp.size⟩⟩
end Go.Proofs.YtnnhdehmlkkfjaaGreatDoor
namespace Go.Proofs.YtnnhdehmlkkfjaaGreatDoor
open Go Go.RowKit Go.Proofs
def goD(d:Dec):Prop:=d.done=false/\d.err=0
theorem qbH(d:Dec)(b:UInt8)(s:List UInt8):qan d (b::s)=if(feed1 d b).done=true\/(feed1 d b).err≠0 then(feed1 d b,1)else((qan (feed1 d b) s).1,(qan (feed1 d b) s).2+1):=rfl
theorem qhi{d:Dec}{b:UInt8}(s:List UInt8)(h:goD (feed1 d b)):qan d (b::s)=((qan (feed1 d b) s).1,(qan (feed1 d b) s).2+1):=by
 rw[qbH,if_neg];rintro(h1|h1)
 ·rw[h.1]at h1;cases h1
 ·exact h1 h.2
theorem qd9:∀(a:List UInt8) (d e:Dec) (s:List UInt8),qan d a=(e,a.length)->goD e->qan d (a++s)=((qan e s).1,(qan e s).2+a.length)
 |[],d,e,s,h,_=>by cases h;simp
 |b::a,d,e,s,h,hg=>by
  rw[List.cons_append,qbH];rw[qbH]at h;split at h
  ·rename_i hs;have h1:=(Prod.mk.inj h).1;rw[h1]at hs;rcases hs with hs|hs
   ·rw[hg.1]at hs;cases hs
   ·exact absurd hg.2 hs
  ·rename_i hs;rw[if_neg hs];have h1:=Prod.mk.inj h;have h2:(qan (feed1 d b) a).2=a.length:=by have:=h1.2;simp at this;omega
   rw[qd9 a (feed1 d b) e s (by rw[<-h1.1,<-h2]) hg];simp;omega
theorem qj0:∀(a:List UInt8) (d:Dec),d.st= .size->goD d->(∀b∈a,b≠10)->d.line.length+a.length<=255->qan d a=({d with line:=d.line++a,total:=d.total+a.length},a.length)
 |[],d,_,_,_,_=>by simp[qan]
 |b::a,d,hs,hg,ha,hl=>by
  have hb:b≠10:=ha b (by simp);simp only[zqL]at hl
  have h1:feed1 d b={d with line:=d.line++[b],total:=d.total+1}:=by
   unfold feed1 qbV;simp only[hs,qfi,hb,if_pos,ne_eq,not_false_eq_true];rw[if_neg (by simp;omega),<-hg.2]
  have hg':goD (feed1 d b):=by rw[h1];exact hg
  rw[qhi _ hg',h1,qj0 a {d with line:=d.line++[b],total:=d.total+1} hs hg (fun c hc=>ha c (by simp[hc])) (by simp;omega)];simp;omega
theorem qj4:∀(a:List UInt8) (d:Dec),d.st= .data->goD d->(a.length:Int)<d.left->qan d a=({d with body:=d.body++a,left:=d.left-a.length,total:=d.total+a.length},a.length)
 |[],d,_,_,_=>by simp[qan]
 |b::a,d,hs,hg,hl=>by
  simp only[zqL]at hl
  have h1:feed1 d b={d with body:=d.body++[b],left:=d.left-1,total:=d.total+1}:=by
   unfold feed1 qbV;simp only[hs,qfO];rw[if_neg (by omega)];simp only[hs,<-hg.2]
  have hg':goD (feed1 d b):=by rw[h1];exact hg
  rw[qhi _ hg',h1,qj4 a {d with body:=d.body++[b],left:=d.left-1,total:=d.total+1} hs hg (by simp;omega)];simp;exact⟨by omega,by omega⟩
theorem qna(a:List UInt8)(d:Dec)(hs:d.st= .data)(hg:goD d)(h0:a≠[])(hl:(a.length:Int)=d.left):qan d a=({d with body:=d.body++a,left:=0,st:= .first,total:=d.total+a.length},a.length):=by
 obtain⟨x,b,rfl⟩:∃x b,a=x++[b]:=⟨a.dropLast,a.getLast h0,(List.dropLast_concat_getLast h0).symm⟩
 rw[zqK]at hl;simp at hl;have hr:=qj4 x d hs hg (by omega);rw[qd9 x d _ [b] hr hg]
 have h1:feed1 {d with body:=d.body++x,left:=d.left-x.length,total:=d.total+x.length} b={d with body:=d.body++(x++[b]),left:=0,st:= .first,total:=d.total+(x++[b]).length}:=by
  unfold feed1 qbV;simp only[hs,qfO];rw[if_pos (by omega)];simp[<-hg.2];omega
 rw[qhi [] (by rw[h1];exact hg),h1];simp[qan];omega
def not10(b:UInt8):Bool:=b !=10
section
variable (E:Env)(H:Hp)(Q:AV->Hp->Prop)
end
section
variable (E:Env)(H:Hp)(Q:AV->Hp->Prop)
variable (t e:Int)(d:Bool)(b:List UInt8)(z:AV)(z1:z.dis=z)(z2:z.free=true)(z3:Bnd H.length z)
include z1 z2 z3
end
section
variable (m r f:Int)
def szD(B:List UInt8)(a:Nat):Dec:=⟨m,r,f,.size,[],0,B,[],0,a,false,0⟩
def trD(B:List UInt8)(T:List Fld)(sec:Nat)(a:Nat):Dec:=⟨m,r,f,.trailer,[],0,B,T,sec,a,false,0⟩
def Fw(s:List UInt8)(d:Dec)(a:Nat):Prop:=qan (newD m r f) s=((qan d (s.drop a)).1,(qan d (s.drop a)).2+a)
variable {m r f}{s:List UInt8}{d d1:Dec}{a n:Nat}{b:UInt8}{B:List UInt8}{T:List Fld}{sec:Nat}
section
variable (h:Fw m r f s (szD m r f B a) a)(hj:a+n<s.length)(hn:run not10 (s.drop a)=n)(h256:n<256)
include h hj hn h256
variable {l:List UInt8}(hx:endL ((s.drop a).take n++[10])=some l)
include hx
variable (he:(qax l).2.2=0)
include he
end
section
variable (h:Fw m r f s (trD m r f B T sec a) a)(hj:a+n<s.length)(hn:run not10 (s.drop a)=n)(hr:((sec+n:Nat):Int)<r)
include h hj hn hr
variable {l:List UInt8}(hx:endL ((s.drop a).take n++[10])=some l)(hl:l≠[])
include hx hl
variable (hf:¬f<=T.length)
include hf
end
end
section
variable (E:Env)(H:Hp)(Q:AV->Hp->Prop)
end
section
variable (E:Env)(H:Hp)(Q:AV->Hp->Prop)
end
section
variable (E:Env)(H:Hp)(Q:AV->Hp->Prop)
end
theorem qeY{x:AV}(h:qeP (.int .i64) x):∃z,x= .int .i64 z/\ -9223372036854775808<=z/\z<=9223372036854775807:=by
 cases x<;>simp[qeP]at h;obtain⟨rfl,h⟩:=h;refine⟨_,rfl,?_⟩;simpa[Lit.wf,IntKind.min,IntKind.max,IntKind.signed,IntKind.bits]using h
theorem qkl{x:AV}(h:qeP .str x):∃z,x= .str z:=by
 cases x<;>simp[qeP]at h;exact⟨_,rfl⟩
def dptr(p:Option Nat):AV:= .ptr (p.map fun i=>(i,0))
theorem qp2{P:Program}{rs:List ResultVar}{n:Nat}{Q:AV->Hp->Prop}{fr:List AV}{H':Hp}{v:AV}(h1:ares P fr H' rs=some v)(h3:n<=H'.length)(h4:BndH H'.length H')(h5:Bnd H'.length v)(h6:Q v H'):
  qci P rs n Q .ret fr H':=⟨v,v,H',H',[],h1,qaa _,qby _,(List.append_nil H').symm,h3,h4,h5,h6⟩
theorem qmw{P:Program}{E:Env}(S:Nat->Prop){f:FuncId}{fn:Func}{c:Code}(hf:P.funcs[f]? =some fn)(hb:fn.body=some c)(B:List Tmp)(ND:List (Nat×List Nat))(hok:okB P B ND fn=true){args:List AV}{H:Hp}{Q:AV->Hp->Prop}
  (h:∀E':Env,E'.S=S->E'.w0=E.w0->E'.Fix=E.Fix->BndH H.length H->vc P E' B ND c (qci P fn.results.toList H.length Q) (args++List.replicate (fn.ntmps-args.length) (.raw undef)) H):PC P E f args H Q:=
 PC.env (E:=E) (E':={E with S:=S}) rfl rfl (qad hf hb B ND hok (h _ rfl rfl rfl))
section
variable (E:Env)(H:Hp)(Q:AV->Hp->Prop)
structure COp where
 k:Int
 s:List UInt8
def COp.av(o:COp):List AV:=[.int .i64 o.k,.str o.s]
end
@[simp] theorem dptr_dis (p:Option Nat):(dptr p).dis=dptr p:=rfl
@[simp] theorem dptr_free (p:Option Nat):(dptr p).free=true:=rfl
@[simp] theorem dptr_one (p:Option Nat):(dptr p).one=true:=rfl
def cops(l:List COp):List (List AV):=l.map COp.av
@[simp] theorem cops_len (l:List COp):(cops l).length=l.length:=by simp[cops]
section
variable (E:Env)(H:Hp)(Q:AV->Hp->Prop)
variable {H}
variable (H)
end
def ints(l:List Int):List (List AV):=l.map fun z=>[.int .i64 z]
@[simp] theorem ints_len (l:List Int):(ints l).length=l.length:=by simp[ints]
theorem qm3{l:List Int}{i:Nat}{z:Int}(h:l[i]? =some z):lat (ints l) i=some [.int .i64 z]:=by simp[lat,ints,h]
section
variable (E:Env)(H:Hp)(Q:AV->Hp->Prop)
end
def hx(n:Nat):UInt8:=if n<10 then UInt8.ofNat (48+n)else UInt8.ofNat (87+n)
def hexD(n:Nat):List UInt8:=if h:n<16 then [hx n]else hexD (n/16)++[hx (n%16)]
termination_by n
decreasing_by omega
theorem qbN{n:Nat}(h:n<16):hexD n=[hx n]:=by rw[hexD,dif_pos h]
theorem qd5{n:Nat}(h:¬n<16):hexD n=hexD (n/16)++[hx (n%16)]:=by rw[hexD,dif_neg h]
theorem qgD:∀n,n<16->qcd (hx n)=true/\dig (hx n)=n/\hx n≠10:=by decide
theorem qha:∀(n:Nat),∀b∈hexD n,qcd b=true/\b≠10:=by
 intro n
 induction n using Nat.strongRecOn with
 |_ n ih=>
  intro b hb;by_cases h:n<16
  ·rw[qbN h]at hb;simp at hb;subst hb;exact⟨(qgD n h).1,(qgD n h).2.2⟩
  ·rw[qd5 h]at hb;rcases List.mem_append.1 hb with hb|hb
   ·exact ih _ (by omega) b hb
   ·simp at hb;subst hb;exact⟨(qgD _ (Nat.mod_lt _ (by omega))).1,(qgD _ (Nat.mod_lt _ (by omega))).2.2⟩
theorem qkp(n:Nat):1<=(hexD n).length:=by
 by_cases h:n<16
 ·rw[qbN h];simp
 ·rw[qd5 h];simp
theorem qkq:∀(k n:Nat),n<16^(k+1)->(hexD n).length<=k+1
 |0,n,h=>by rw[qbN (by simpa using h)];simp
 |k+1,n,h=>by
  by_cases h1:n<16
  ·rw[qbN h1];simp
  ·rw[qd5 h1,zqK];have:=qkq k (n/16) (by rw[Nat.pow_succ]at h;omega);simp;omega
theorem qbG(n:Nat)(h:n<=1099511627776):(hexD n).length<=11:=qkq 10 n (by simp;omega)
theorem qpq:∀(n:Nat),qcD 16 (hexD n)=n:=by
 intro n
 induction n using Nat.strongRecOn with
 |_ n ih=>
  by_cases h:n<16
  ·rw[qbN h];simp[qcD,(qgD n h).2.1]
  ·rw[qd5 h];have h1:=ih (n/16) (by omega);unfold qcD at h1⊢;rw[List.foldl_append,h1];simp[(qgD _ (Nat.mod_lt n (by omega:0<16))).2.1];omega
theorem qmi(p:UInt8->Bool):∀(l:List UInt8),(∀b∈l,p b=true)->run p l=l.length
 |[],_=>rfl
 |a::l,h=>by
  have:=qmi p l (fun b hb=>h b (by simp[hb]));unfold run at this⊢;rw[List.takeWhile_cons,if_pos (h a (by simp))];simp[this]
theorem qhM(n:Nat)(h:n<=1099511627776):qax (hexD n)=((n:Int),[],0):=by
 have hr:run qcd (hexD n)=(hexD n).length:=qmi _ _ (fun b hb=>(qha n b hb).1);have hl:=qbG n h;have hp:=qkp n;have hd:(hexD n).drop (hexD n).length=[]:=List.drop_of_length_le (Nat.le_refl _);have hpar:qbx []=([],0,0):=by unfold qbx;rw[qdX qak [] (by simp)];rfl
 have hnum:qag 16 1099511627776 (hexD n)=((n:Int),0):=by
  unfold qag;have hne:hexD n≠[]:=fun e=>by rw[e]at hp;simp at hp
  have hok:qbT 16 (hexD n)=true:=by
   unfold qbT;rw[List.all_eq_true];intro b hb;have:=(qha n b hb).1;rw[qik]at this;exact this
  rw[if_neg hne,if_neg (by rw[hok];simp),qpq,if_neg (by omega)]
 unfold qax;rw[hr,if_neg (by omega),hd,hpar];rw[if_neg]
 ·rw[zqE (Nat.le_refl _),hnum];simp
 ·simp[hd];rfl
def qbj(p:List UInt8):List UInt8:=hexD p.length++[13,10]++p++[13,10]
theorem qfN(l:List UInt8):endL (l++[13]++[10])=some l:=by
 unfold endL;have e:(l++[13]++[10]).length-2=l.length:=by simp
 rw[e,if_pos]
 ·simp
 ·refine⟨by simp,?_⟩;rw[List.append_assoc,List.drop_append_of_le_length (Nat.le_refl _),List.drop_of_length_le (Nat.le_refl _)];rfl
theorem qbq{a s:List UInt8}{d e g:Dec}(h:qan d a=(e,a.length))(hg:goD e)(h2:qan e s=(g,s.length)):qan d (a++s)=(g,(a++s).length):=by
 rw[qd9 a d e s h hg,h2];simp[Nat.add_comm]
theorem qce{d e:Dec}{b:UInt8}(h:feed1 d b=e):qan d [b]=(e,1):=by
 subst h;unfold qan;split
 ·rfl
 ·simp[qan]
theorem qgV(n:Nat)(d:Dec)(hs:d.st= .size)(hg:goD d)(hl:d.line=[])(hn:n<=1099511627776):qan d (hexD n++[13])=({d with line:=hexD n++[13],total:=d.total+(hexD n).length+1},(hexD n++[13]).length):=by
 have h11:=qbG n hn
 rw[qj0 (hexD n++[13]) d hs hg (fun b hb=>by
  rcases List.mem_append.1 hb with hb|hb
  ·exact(qha n b hb).2
  ·simp at hb;subst hb;decide) (by rw[hl];simp;omega)]
 rw[hl];simp[Nat.add_assoc]
theorem qmd(n:Nat)(d:Dec)(hs:d.st= .size)(hl:d.line=hexD n++[13])(hn:n<=1099511627776):feed1 d 10=
  if d.most-d.body.length<n then{d with line:=[],total:=d.total+1,err:=102}
  else if n=0 then{d with line:=[],st:= .trailer,total:=d.total+1,err:=0}
  else{d with line:=[],left:=n,st:= .data,total:=d.total+1,err:=0}:=by
 have e:qfi {d with total:=d.total+1} 10=if d.most-d.body.length<(n:Int)then({d with line:=[],total:=d.total+1},102)else if(n:Int)=0 then({d with line:=[],st:= .trailer,total:=d.total+1},0)else({d with line:=[],left:=n,st:= .data,total:=d.total+1},0):=by
  unfold qfi;rw[if_neg (by simp)];have he:endL (({d with total:=d.total+1}:Dec).line++[10])=some (hexD n):=by show endL (d.line++[10])=_;rw[hl,qfN]
  rw[he];simp only[qhM n hn];rw[if_neg (by simp)]
 have e2:qbV {d with total:=d.total+1} 10=qfi {d with total:=d.total+1} 10:=by unfold qbV;rw[show({d with total:=d.total+1}:Dec).st= .size from hs]
 unfold feed1;rw[e2,e];by_cases h1:d.most-d.body.length<(n:Int)
 ·rw[if_pos h1,if_pos h1]
 ·rw[if_neg h1,if_neg h1];by_cases h2:n=0
  ·rw[if_pos (by omega),if_pos h2]
  ·rw[if_neg (by omega),if_neg h2]
theorem qmh(p:List UInt8)(d:Dec)(hs:d.st= .size)(hg:goD d)(hl:d.line=[])(h0:p≠[])(hm:(p.length:Int)<=d.most-d.body.length)(hn:p.length<=1099511627776):
  qan d (qbj p)=({d with body:=d.body++p,left:=0,total:=d.total+(qbj p).length},(qbj p).length):=by
 have hp0:p.length≠0:=fun e=>h0 (List.length_eq_zero_iff.1 e);have e1:=qgV p.length d hs hg hl hn;have e2:=qmd p.length {d with line:=hexD p.length++[13],total:=d.total+(hexD p.length).length+1} hs rfl hn;rw[if_neg (by simp;omega),if_neg hp0]at e2;have e3:=qna p {d with line:=[],left:=p.length,st:= .data,total:=d.total+(hexD p.length).length+1+1,err:=0} rfl ⟨hg.1,rfl⟩ h0 rfl
 have e4:feed1 {d with line:=[],body:=d.body++p,left:=0,st:= .first,total:=d.total+(hexD p.length).length+1+1+p.length,err:=0} 13={d with line:=[],body:=d.body++p,left:=0,st:= .second,total:=d.total+(hexD p.length).length+1+1+p.length+1,err:=0}:=by
  unfold feed1 qbV;simp[qeJ]
 have e5:feed1 {d with line:=[],body:=d.body++p,left:=0,st:= .second,total:=d.total+(hexD p.length).length+1+1+p.length+1,err:=0} 10={d with line:=[],body:=d.body++p,left:=0,st:= .size,total:=d.total+(hexD p.length).length+1+1+p.length+1+1,err:=0}:=by
  unfold feed1 qbV;simp[qc4]
 have key:=qbq e1 hg (qbq (qce e2) ⟨hg.1,rfl⟩ (qbq e3 ⟨hg.1,rfl⟩ (qbq (qce e4) ⟨hg.1,rfl⟩ (qce e5))));have ht:qbj p=(hexD p.length++[13])++([10]++(p++([13]++[10]))):=by simp[qbj]
 rw[<-ht]at key;rw[key];refine Prod.ext ?_ rfl;have hlen:(qbj p).length=(hexD p.length).length+1+1+p.length+1+1:=by rw[ht];simp;omega
 rw[hlen];cases d;simp only at hs hl;have:=hg.2;simp only at this;subst hs;subst hl;subst this;simp;omega
def qaq(ps:List (List UInt8)):List UInt8:=ps.flatMap qbj
theorem qgj:∀(ps:List (List UInt8)) (d:Dec),d.st= .size->goD d->d.line=[]->(∀p∈ps,p≠[])->(ps.flatten.length:Int)<=d.most-d.body.length->ps.flatten.length<=1099511627776->
  ∃lf,qan d (qaq ps)=({d with body:=d.body++ps.flatten,left:=lf,total:=d.total+(qaq ps).length},(qaq ps).length)
 |[],d,_,_,_,_,_,_=>⟨d.left,by simp[qaq,qan]⟩
 |p::ps,d,hs,hg,hl,h0,hm,hn=>by
  simp only[List.flatten_cons,zqK]at hm hn;have e1:=qmh p d hs hg hl (h0 p (by simp)) (by omega) (by omega);obtain⟨lf,e2⟩:=qgj ps {d with body:=d.body++p,left:=0,total:=d.total+(qbj p).length} hs hg hl (fun q hq=>h0 q (by simp[hq])) (by simp only[zqK];omega) (by omega);have key:=qbq e1 hg e2;have ht:qaq (p::ps)=qbj p++qaq ps:=by simp[qaq]
  refine⟨lf,?_⟩;rw[ht,key];simp[Nat.add_assoc]
def qar(f:Fld):List UInt8:=f.name++58::(if f.value=[]then []else 32::f.value)
def qca(l:List UInt8):Bool:=decide (l.length<=8192)&&fldB l&&decide (qa5 l=l)
def qbv(f:Fld):Bool:=mayB f.name&&qca f.value
theorem qku{l:List UInt8}(h:fldB l=true):∀b∈l,b≠10:=by
 intro b hb e;subst e;have:=List.all_eq_true.1 h 10 hb;exact absurd this (by decide)
theorem qdN{l:List UInt8}(h:tokB l=true):∀b∈l,qak b=true:=by
 unfold tokB at h;simp at h;exact h.1
theorem qq1:∀n,n<256->qak (UInt8.ofNat n)=true->ncol (UInt8.ofNat n)=true/\UInt8.ofNat n≠10:=by decide
theorem qeV{b:UInt8}(h:qak b=true):ncol b=true/\b≠10:=by
 have:=qq1 b.toNat b.toNat_lt;rw[qeS]at this;exact this h
theorem qh9{l:List UInt8}(h:mayB l=true):qbu l=true:=by
 unfold mayB at h;simp at h;exact h.1
theorem qc9{l:List UInt8}(h:qbu l=true):tokB l=true:=by
 unfold qbu at h;simp at h;exact h.2
theorem qfn(p:UInt8->Bool):∀(l:List UInt8) (c:UInt8) (r:List UInt8),(∀b∈l,p b=true)->p c=false->run p (l++c::r)=l.length
 |[],c,r,_,hc=>by unfold run;simp[hc]
 |a::l,c,r,h,hc=>by
  have:=qfn p l c r (fun b hb=>h b (by simp[hb])) hc;unfold run at this⊢;rw[List.cons_append,List.takeWhile_cons,if_pos (h a (by simp))];simp[this]
theorem ql5(v:List UInt8):qa5 (32::v)=qa5 v:=by
 unfold qa5 Lib.trimS Lib.trimRightS Lib.trimLeftS;rw[List.reverse_cons,List.dropWhile_append];split
 ·rename_i h;rw[List.isEmpty_iff.1 h];decide
 ·rw[List.reverse_append];show List.dropWhile _ (32::_)=_;rw[List.dropWhile_cons,if_pos (by decide)];rfl
theorem qjq(f:Fld)(h:qbv f=true):qch (qar f)=some f:=by
 unfold qbv qca at h;simp at h;obtain⟨h1,⟨h2,h3⟩,h4⟩:=h;have hn:=qh9 h1;have hr:run ncol (qar f)=f.name.length:=qfn ncol f.name 58 _ (fun b hb=>(qeV (qdN (qc9 hn) b hb)).1) (by decide);have ht:(qar f).take f.name.length=f.name:=by unfold qar;rw[List.take_append_of_le_length (Nat.le_refl _),zqE (Nat.le_refl _)]
 have hd:(qar f).drop (f.name.length+1)=if f.value=[]then []else 32::f.value:=by
  unfold qar;rw[List.drop_append,List.drop_of_length_le (by omega)];simp
 have hlt:f.name.length<(qar f).length:=by unfold qar;simp
 unfold qch;rw[hr,ht,hd]
 have htr:qa5 (if f.value=[]then []else 32::f.value)=f.value:=by
  split
  ·rename_i h5;rw[h5]at h4⊢;exact h4
  ·rw[ql5];exact h4
 have hfl:fldB (if f.value=[]then []else 32::f.value)=true:=by
  split
  ·rfl
  ·unfold fldB at h3⊢;rw[List.all_cons,h3];decide
 rw[htr,if_pos ⟨hlt,hn,hfl,h2⟩]
theorem qld(f:Fld)(h:qbv f=true):∀b∈qar f,b≠10:=by
 unfold qbv qca at h;simp at h;obtain⟨h1,⟨h2,h3⟩,h4⟩:=h;intro b hb;unfold qar at hb;rcases List.mem_append.1 hb with hb|hb
 ·exact(qeV (qdN (qc9 (qh9 h1)) b hb)).2
 ·rcases List.mem_cons.1 hb with rfl|hb
  ·decide
  ·split at hb
   ·cases hb
   ·rcases List.mem_cons.1 hb with rfl|hb
    ·decide
    ·exact qku h3 b hb
def qas(ts:List Fld):List UInt8:=ts.flatMap fun f=>qar f++[13,10]
def encT(ps:List (List UInt8))(ts:List Fld):List UInt8:=qaq ps++([48,13,10]++(qas ts++[13,10]))
theorem hexD0:hexD 0=[48]:=by rw[qbN (by omega)];rfl
def qal:List UInt8->List Int->List (List UInt8)
 |b,[]=>if b=[]then []else [b]
 |b,n::ns=>if b=[]then []else b.take n.toNat::qal (b.drop n.toNat) ns
theorem qdx:∀(ns:List Int) (b:List UInt8),(qal b ns).flatten=b
 |[],b=>by unfold qal;split<;>simp_all
 |n::ns,b=>by
  unfold qal;split
  ·simp_all
  ·rw[List.flatten_cons,qdx ns,List.take_append_drop]
theorem qfr:∀(ns:List Int) (b:List UInt8),(∀n∈ns,1<=n)->∀p∈qal b ns,p≠[]
 |[],b,_,p,hp=>by
  unfold qal at hp;split at hp
  ·cases hp
  ·rename_i h;simp at hp;subst hp;exact h
 |n::ns,b,hn,p,hp=>by
  unfold qal at hp;split at hp
  ·cases hp
  ·rename_i h;rcases List.mem_cons.1 hp with rfl|hp
   ·have h1:=hn n (by simp);intro e;have:=congrArg List.length e;rw[zqJ]at this;have hb:b.length≠0:=fun e=>h (List.length_eq_zero_iff.1 e);have h3:([]:List UInt8).length=0:=rfl;omega
   ·exact qfr ns _ (fun x hx=>hn x (by simp[hx])) p hp
theorem qeq:∀(ns:List Int),qal [] ns=[]
 |[]=>rfl
 |_::_=>rfl
def psz:List Par->Nat
 |[]=>0
 |p::l=>p.name.length+p.value.length+psz l
theorem qo1(l:List Par)(i:Nat):psz (l.take i)<=psz l:=by
 induction l generalizing i with
 |nil=>simp
 |cons p l ih=>
  cases i with
  |zero=>simp[psz]
  |succ i=>have:=ih i;simp[psz];omega
theorem qrb{l:List Par}{i:Nat}{p:Par}(h:l[i]? =some p):p.name.length+p.value.length<=psz l:=by
 induction l generalizing i with
 |nil=>simp at h
 |cons q l ih=>
  cases i with
  |zero=>simp at h;subst h;simp[psz]
  |succ i=>have:=ih (i:=i) (by simpa using h);simp[psz];omega
theorem qrc(v:List UInt8):(prtV qak v).length<=2*v.length+2:=by
 unfold prtV;have:=qfp v;split<;>omega
theorem qqj(l:List Par):(prt qak l).length<=2*psz l+5*l.length:=by
 induction l with
 |nil=>simp[prt,psz]
 |cons p l ih=>
  have e:prt qak (p::l)=prt1 qak p++prt qak l:=by simp[prt]
  have:=qrc p.value;rw[e,zqK]
  have h1:(prt1 qak p).length<=p.name.length+2*p.value.length+5:=by
   unfold prt1;split<;>simp<;>omega
  simp[psz];omega
theorem qo2(l:List Par)(i:Nat)(p:Par)(h:l[i]? =some p):prt qak (l.take (i+1))=prt qak (l.take i)++prt1 qak p:=by
 rw[List.take_add_one,h];simp[prt]
def qdu(l:List Par):List UInt8×Int:=if l.all (qdZ qak)=true then(prt qak l,0)else([],15)
theorem qcz(l:List UInt8):tokP qak l=tokB l:=rfl
section
variable (E:Env)(H:Hp)(Q:AV->Hp->Prop)
def qo4(l:List Par)(H:Hp)(fr:List AV)(H':Hp):Prop:=∃(J:Hp) (i:Nat),H'=H++J/\i<=l.length/\(l.take i).all (qdZ qak)=true/\∃x:Nat->AV,fr=[x 0,x 1,x 2,x 3,.str (prt qak (l.take i)),x 5,x 6,x 7,.sl false 3 (prs l),.int .i64 l.length,.int .i64 i,x 11,x 12,x 13,x 14,x 15,x 16,x 17,x 18,x 19,x 20,x 21,x 22,x 23,x 24,x 25,x 26,x 27,x 28,x 29,x 30,x 31,x 32,x 33,x 34,x 35,x 36,x 37,x 38,x 39,x 40,x 41,x 42,x 43,x 44,x 45,x 46,x 47,x 48,x 49,x 50,x 51,x 52,x 53,x 54,x 55,x 56,x 57]
theorem qo3(hE:SE E)(l:List Par)(hl:psz l+l.length<=1048577)(hQ:Q (.tup [.str (qdu l).1,.int .i64 (qdu l).2]) H):PC Tryz.prog E 139 [.sl false 3 (prs l)] H Q:=by
 refine qad Tryz.func139 rfl [] [] (by kernel_rfl) (fun hB=>?_);simp[Tryz.ntmps139,Tryz.results139,List.replicate_succ];refine qbd (qo4 l H) (fun fr _=>l.length-(ai (aget fr 10)).toNat) ⟨[],0,by simp,by omega,by simp,qaD (by simp[prt])⟩ ?_;rintro fr H' ⟨J,i,rfl,hi,hall,x,rfl⟩;obtain⟨out,hout⟩:=exz (prt qak (l.take i))
 have hol:out.length<=7*1048577:=by
  rw[<-hout];have h1:=qqj (l.take i);have h2:=qo1 l i;rw[zqJ]at h1;omega
 rw[hout];by_cases h:i<l.length
 ·obtain⟨p,hp⟩:∃u,l[i]? =some u:=⟨_,zqD h⟩
  have hat:=prs_at hp;have hw:IntKind.i64.wrap ((i:Int)+1)=i+1:=wiz;have hpw:=qrb hp;have hst:=qo2 l i p hp;rw[hout]at hst;have hstep:=qcs (qdZ qak) l i p hp;have hstop:=qdp (qdZ qak) l i p hp;obtain⟨nm,vl,hs⟩:=p;simp only at hat hpw hst hstep hstop
  have bad:qdZ qak ⟨nm,vl,hs⟩=false->Q (.tup [.str [],.int .i64 15]) H:=fun hb=>by
   have:qdu l=([],15):=by unfold qdu;rw[if_neg (by rw[hstop hb];simp)]
   rw[this]at hQ;exact hQ
  have ncap:nm.length<=cap:=by simp only[cap];omega
  have vcap:vl.length<=cap:=by simp only[cap];omega
  simp[h,hat];refine qbF E _ _ hE nm ncap ?_;cases htk:tokB nm
  ·simp;exact qab hB rfl (qaa _) (by simp) (bad (by simp[qdZ,qcz,htk]))
  ·simp;refine qdn E _ _ vl vcap ?_;cases hfd:fldB vl
   ·simp;exact qab hB rfl (qaa _) (by simp) (bad (by simp[qdZ,qcz,htk,hfd]))
   ·have hm1:nm.length+2<=maxLen/\2+nm.length<=maxLen/\nm.length+1+1<=maxLen/\out.length+(nm.length+1+1)<=maxLen/\out.length+(nm.length+2)<=maxLen:=by unfold maxLen;omega
    cases hs with
    |false=>
     by_cases hv:vl=[]
     ·subst hv;have hok:qdZ qak ⟨nm,[],false⟩=true:=by simp[qdZ,qcz,htk];rfl
      have hst2:prt qak (l.take (i+1))=out++59::32::nm:=by rw[hst];simp[prt1]
      simp[hm1,hw];exact Klz ⟨_,i+1,by simp;rfl,by omega,by rw[hstep,hall,hok];rfl,qaD (by rw[hst2];simp)⟩
     ·have hne:(vl !=[])=true:=by simpa using hv
      simp[hne];exact qab hB rfl (qaa _) (by simp) (bad (by simp[qdZ,hv]))
    |true=>
     have hok:qdZ qak ⟨nm,vl,true⟩=true:=by simp[qdZ,qcz,htk,hfd]
     have hst2:prt qak (l.take (i+1))=out++59::32::(nm++61::prtV qak vl):=by rw[hst];simp[prt1]
     simp[hm1];refine qbF E _ _ hE vl vcap ?_;cases htv:tokB vl
     ·have hpv:prtV qak vl=quoted vl:=by unfold prtV;rw[qcz,htv];simp
      have hqa:qbn vl=(quoted vl,0):=by rw[qbn,if_pos hfd]
      have hql:=qfp vl;rw[hpv]at hst2;have hm2:(quoted vl).length+1<=maxLen/\1+(quoted vl).length<=maxLen/\out.length+(nm.length+1+1)+((quoted vl).length+1)<=maxLen/\out.length+(nm.length+1+1+((quoted vl).length+1))<=maxLen:=by unfold maxLen;omega
      simp;refine qoX E _ _ vl (by omega) ?_;simp[hqa,hm2,hw];exact Klz ⟨_,i+1,by simp;rfl,by omega,by rw[hstep,hall,hok];rfl,qaD (by rw[hst2];simp)⟩
     ·have hpv:prtV qak vl=vl:=by unfold prtV;rw[qcz,htv];simp
      rw[hpv]at hst2;have hm2:vl.length+1<=maxLen/\1+vl.length<=maxLen/\out.length+(nm.length+1+1)+(vl.length+1)<=maxLen/\out.length+(nm.length+1+1+(vl.length+1))<=maxLen:=by unfold maxLen;omega
      simp[hm2,hw];exact Klz ⟨_,i+1,by simp;rfl,by omega,by rw[hstep,hall,hok];rfl,qaD (by rw[hst2];simp)⟩
 ·have ha:l.take i=l:=zqE (by omega);rw[ha]at hall hout;have:qdu l=(out,0):=by unfold qdu;rw[if_pos hall,hout]
  rw[this]at hQ;simp[h];exact qab hB rfl (qaa _) (by simp) hQ
end
section
variable (E:Env)(H:Hp)(Q:AV->Hp->Prop)
end
def Tz(w:World):Prop:=w.cell? ⟨4,15,none⟩=some (.int .u8 4)
def SZ(E:Env):Prop:=SE E/\E.Fix 4/\Tz E.w0
theorem SZ.tz{E:Env}(h:SZ E){w:World}(hw:∀b,E.Fix b->w.heap[b]? =E.w0.heap[b]?):Tz w:=by
 unfold Tz;rw[World.cell?_of_block (a:=⟨4,15,none⟩) (hw _ h.2.1)];exact h.2.2
theorem qqV(W:World)(hT:Tz W):Calls Tryz.prog 206 #[.int .u64 16] W fun e w'=>e= .returned (.int .i64 4)/\w'=W:=by
 unfold Tz at hT;have hq:IntKind.u64.wrap (bits BinOp.and IntKind.u64 16 (IntKind.u64.wrap (-16))*285870213051353865)/288230376151711744=15:=by decide
 go_enter Tryz.func206,Tryz.ntmps206
 go_wp2
 go_ret
 exact⟨rfl,rfl⟩
@[simp] theorem tzc65:tzc Tryz.prog 222=some (List.replicate 65 (.int .u8 0)):=by kernel_rfl
section
variable (E:Env)(H:Hp)(Q:AV->Hp->Prop)
theorem qqU(hE:SZ E)(hQ:Q (.int .i64 4) H):PC Tryz.prog E 206 [.int .u64 16] H Q:=by
 refine qav (v:= .int .i64 4) (by kernel_rfl) Tz (fun w hw=>hE.tz hw) (fun w β Rd cargs hS hsz hargs=>?_) (.int _ _) rfl hQ;obtain⟨u,rfl,hu⟩:=args1 hsz hargs;obtain rfl:=qaw hu;refine(qqV w hS).mono ?_;rintro e w' ⟨rfl,rfl⟩;exact⟨_,rfl,Frm.refl _ _,.int _ _⟩
theorem tz_pc(hE:SZ E)(hQ:Q (.int .i64 4) H):PC Tryz.prog E 185 [.int .u64 16] H Q:=by
 refine qad Tryz.func185 rfl [] [] (by kernel_rfl) (fun hB=>?_);simp[Tryz.ntmps185,Tryz.results185,List.replicate_succ];refine qqU E _ _ hE ?_;simp;exact aQz hB (h6:=hQ)
theorem qre(hQ:Q (.bool true) H):PC Tryz.prog E 184 [.int .i64 16] H Q:=by
 refine qad Tryz.func184 rfl [] [] (by kernel_rfl) (fun hB=>?_);simp[Tryz.ntmps184,Tryz.results184,List.replicate_succ];exact aQz hB (h6:=hQ)
def digL:List UInt8:=[48,49,50,51,52,53,54,55,56,57,97,98,99,100,101,102,103,104,105,106,107,108,109,110,111,112,113,114,115,116,117,118,119,120,121,122]
theorem qnC:∀k,k<16->digL[k]? =some (hx k):=by decide
theorem qjT{n:Int}(h0:0<=n)(h1:n<18446744073709551616):IntKind.u64.wrap n=n:=by
 show n%(2^64)=n;omega
theorem and15(u:Nat)(h:u<=1099511627776):IntKind.u64.wrap ((u%2^IntKind.u64.bits&&&15%2^IntKind.u64.bits:Nat):Int)=((u%16:Nat):Int):=by
 have e1:u%2^IntKind.u64.bits=u:=Nat.mod_eq_of_lt (by show u<18446744073709551616;omega);have e2:15%2^IntKind.u64.bits=15:=rfl;have e3:u&&&15=u%16:=Nat.and_two_pow_sub_one_eq_mod u 4;rw[e1,e2,e3];exact qjT (by omega) (by omega)
def fbInv(n:Nat)(H:Hp)(fr:List AV)(H':Hp):Prop:=∃(u i:Nat) (tail:List UInt8) (row:List AV),H'=H++[row]/\row.length=65/\hexD u++tail=hexD n/\u<=n/\i+tail.length=65/\row.drop i=tail.map (fun b=> .int .u8 (b.toNat:Int))/\
 ∃x:Nat->AV,fr=[.nil,.int .u64 u,.int .i64 16,.bool false,.bool false,x 5,x 6,x 7,x 8,x 9,.nil,.str [],.ptr (some (H.length,0)),.int .i64 i,.int .u64 4,.int .u64 16,.int .u64 15,x 17,x 18,x 19,x 20,x 21,x 22,x 23,x 24,x 25,x 26,x 27,x 28,x 29,x 30,x 31,x 32,x 33,x 34,x 35,x 36,x 37,x 38,x 39,x 40,x 41,x 42,x 43,x 44,x 45,x 46,x 47,x 48,x 49,x 50,x 51,x 52,x 53,x 54,x 55,x 56,x 57,x 58,x 59,x 60,x 61,x 62,x 63,x 64,x 65,x 66,x 67,x 68,x 69,x 70,x 71,x 72,x 73,x 74,x 75,x 76,x 77,x 78,x 79,x 80,x 81,x 82,x 83,x 84,x 85,x 86,x 87,x 88,x 89,x 90,x 91,x 92,x 93,x 94,x 95,x 96,x 97,x 98,x 99,x 100,x 101]
theorem qhd(hE:SZ E)(n:Nat)(hn:n<=1099511627776)(hQ:Q (.tup [.nil,.str (hexD n)]) H):PC Tryz.prog E 161 [.nil,.int .u64 n,.int .i64 16,.bool false,.bool false] H Q:=by
 refine qad Tryz.func161 rfl [95] [(30,[0,0,3])] (by kernel_rfl) (fun hB=>?_);simp[Tryz.ntmps161,Tryz.results161,List.replicate_succ];refine qre E _ _ ?_;simp;refine tz_pc E _ _ hE ?_;simp;refine qbd (fbInv n H) (fun fr _=>(ai (aget fr 1)).toNat) ⟨n,65,[],List.replicate 65 (.int .u8 0),by simp,by simp,by simp,by omega,by simp,by simp,qaD (by simp;exact⟨rfl,rfl,rfl⟩)⟩ ?_;rintro fr H' ⟨u,i,tail,row,rfl,hrow,hu,hun,hi,hdr,x,rfl⟩;have hlu:=qkp u;have hln:=qbG n hn;have hcat:=congrArg List.length hu;rw[zqK]at hcat;obtain⟨j,rfl⟩:∃j,i=j+1:=⟨i-1,by omega⟩
 have hw:IntKind.i64.wrap (j:Int)=j:=wiz;have hw1:IntKind.i64.wrap (((j+1:Nat):Int)-1)=j:=by rw[qaE (by omega) (by omega)];omega
 by_cases h:16<=u
 ·have h':(16:Int)<=u:=by omega
  have ha:=and15 u (by omega);have hat:lat [48,49,50,51,52,53,54,55,56,57,97,98,99,100,101,102,103,104,105,106,107,108,109,110,111,112,113,114,115,116,117,118,119,120,121,122] (u%16)=some (hx (u%16)):=qnC _ (Nat.mod_lt _ (by omega));have hj:j<=64:=by omega
  have hj2:j<65:=by omega
  simp[h',hw,hw1,ha,hat,hj,hj2,hrow,-Int.natCast_emod]
  have hsh:(u:Int).fdiv (2^min 4 IntKind.u64.bits)=((u/16:Nat):Int):=by
   show(u:Int).fdiv 16=_;rw[Int.fdiv_eq_ediv_of_nonneg _ (by omega)];omega
  refine qaR ⟨u/16,j,hx (u%16)::tail,_,rfl,by simp[hrow];omega,by rw[<-hu,qd5 (show ¬u<16 by omega)];simp,by omega,by simp;omega,?_,qaD (by simp[hsh])⟩ (by simp[hsh];omega);rw[List.drop_append_of_le_length (by rw[zqJ];omega),List.drop_of_length_le (by rw[zqJ];omega),hdr];simp
 ·have h':¬(16:Int)<=u:=by omega
  have hat:lat [48,49,50,51,52,53,54,55,56,57,97,98,99,100,101,102,103,104,105,106,107,108,109,110,111,112,113,114,115,116,117,118,119,120,121,122] u=some (hx u):=qnC _ (by omega);have hj:j<=64:=by omega
  have hj2:j<65:=by omega
  have hm:65-j<=maxLen:=by unfold maxLen;omega
  have m65:65<=maxLen:=by unfold maxLen;omega
  have hj3:j<=65:=by omega
  have hj4:¬65=j:=by omega
  have e1:65<=j+(64-j+1):=by omega
  have e2:List.take (65-j) ([AV.int .u8 (hx u).toNat]::List.drop (j+1) (List.map (fun x=>[x]) row))=bts (hx u::tail):=by
   rw[<-List.map_drop,hdr,List.map_map,zqE (by simp;omega)];rfl
  have e3:hexD n=hx u::tail:=by rw[<-hu,qbN (by omega)];rfl
  rw[e3]at hQ;simp[h',hw,hw1,hat,hj,hj2,hj3,hj4,m65,hrow,hm,e1,e2];exact qab hB rfl (qaa _) (by simp) hQ
theorem qhc(hE:SZ E)(n:Nat)(hn:n<=1099511627776)(hQ:Q (.str (hexD n)) H):PC Tryz.prog E 141 [.int .i64 n,.int .i64 16] H Q:=by
 refine qad Tryz.func141 rfl [] [] (by kernel_rfl) (fun hB=>?_);have hw:IntKind.u64.wrap (n:Int)=n:=qjT (by omega) (by omega);simp[Tryz.ntmps141,Tryz.results141,List.replicate_succ,hw];refine qhd E _ _ hE n hn ?_;simp;exact aQz hB (h6:=hQ)
theorem qis(hE:SZ E)(n:Nat)(hn:n<=1099511627776)(hQ:Q (.str (hexD n)) H):PC Tryz.prog E 140 [.int .i64 n,.int .i64 16] H Q:=by
 refine qad Tryz.func140 rfl [] [] (by kernel_rfl) (fun hB=>?_);simp[Tryz.ntmps140,Tryz.results140,List.replicate_succ];refine qhc E _ _ hE n hn ?_;simp;exact aQz hB (h6:=hQ)
def qdR(n:Int)(l:List Par):List UInt8×Int:=
 if n<0\/1099511627776<n then([],1)
 else if l.all (qdZ qak)=false then([],15)
 else if 254<(hexD n.toNat++prt qak l).length then([],100)else(hexD n.toNat++prt qak l,0)
theorem qhV(hE:SZ E)(n:Int)(l:List Par)(hl:psz l+l.length<=1048577)(hQ:Q (.tup [.str (qdR n l).1,.int .i64 (qdR n l).2]) H):PC Tryz.prog E 111 [.int .i64 n,.sl false 3 (prs l)] H Q:=by
 refine qad Tryz.func111 rfl [] [] (by kernel_rfl) (fun hB=>?_);by_cases h1:n<0
 ·have e:qdR n l=([],1):=by unfold qdR;rw[if_pos (.inl h1)]
  rw[e]at hQ;simp[Tryz.ntmps111,Tryz.results111,List.replicate_succ,h1];exact aQz hB (h6:=hQ)
 ·by_cases h2:1099511627776<n
  ·have e:qdR n l=([],1):=by unfold qdR;rw[if_pos (.inr h2)]
   rw[e]at hQ;simp[Tryz.ntmps111,Tryz.results111,List.replicate_succ,h1,h2];exact aQz hB (h6:=hQ)
  ·obtain⟨m,rfl⟩:∃m:Nat,n=m:=⟨n.toNat,by omega⟩
   have h3:¬1099511627776<(m:Int):=h2;have hln:=qbG m (by omega);have hpl:=qqj l;simp[Tryz.ntmps111,Tryz.results111,List.replicate_succ,h1,h3];refine qo3 E _ _ hE.1 l (by omega) ?_;cases hall:l.all (qdZ qak)with
   |false=>
    have e:qdR m l=([],15):=by unfold qdR;rw[if_neg (by omega),if_pos hall]
    have e2:qdu l=([],15):=by unfold qdu;rw[if_neg (by rw[hall];simp)]
    rw[e]at hQ;simp[e2];exact aQz hB (h6:=hQ)
   |true=>
    have e2:qdu l=(prt qak l,0):=by unfold qdu;rw[if_pos hall]
    have hm:(hexD m).length+(prt qak l).length<=maxLen:=by unfold maxLen;omega
    simp[e2];refine qis E _ _ hE m (by omega) ?_;by_cases h4:254<(hexD m++prt qak l).length
    ·have e:qdR m l=([],100):=by unfold qdR;rw[if_neg (by omega),if_neg (by rw[hall];simp),if_pos (by simpa using h4)]
     have h4':(254:Int)<(hexD m).length+(prt qak l).length:=by rw[zqK]at h4;omega
     rw[e]at hQ;simp[hm,h4'];exact aQz hB (h6:=hQ)
    ·have e:qdR m l=(hexD m++prt qak l,0):=by unfold qdR;rw[if_neg (by omega),if_neg (by rw[hall];simp),if_neg (by simpa using h4)];simp
     have h4':¬(254:Int)<(hexD m).length+(prt qak l).length:=by rw[zqK]at h4;omega
     rw[e]at hQ;simp[hm,h4'];exact aQz hB (h6:=hQ)
end
section
variable (E:Env)(H:Hp)(Q:AV->Hp->Prop)
end
end Go.Proofs.YtnnhdehmlkkfjaaGreatDoor
