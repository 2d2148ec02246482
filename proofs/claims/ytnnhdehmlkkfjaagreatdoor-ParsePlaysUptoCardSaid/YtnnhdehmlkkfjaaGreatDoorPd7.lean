/- Part 7 of the texts below the law. -/
import Derived.Test.YtnnhdehmlkkfjaaGreatDoorPd6
import Derived.Lib.IndexLaws
import Derived.Lib.ItoaLen
import Derived.Stop.LaidErr
set_option maxRecDepth 100000
set_option maxHeartbeats 16000000
set_option linter.unusedVariables false
set_option linter.unnecessarySimpa false
set_option linter.unusedSimpArgs false
set_option linter.unusedSectionVars false
namespace Go.Proofs.YtnnhdehmlkkfjaaGreatDoor
open Go Go.RowKit Go.Proofs
section
variable (E:Env)(H:Hp)(Q:AV->Hp->Prop)
def qqO(l:List UInt8)(H:Hp)(fr:List AV)(H':Hp):Prop:=∃(J:Hp) (e:Nat) (out:List Par),H'=H++J/\e<=l.length/\out.length<=e/\qda l out e/\∃x:Nat->AV,fr=[.str l,x 1,x 2,x 3,x 4,.sl true 3 (prs out),.int .i64 e,x 7,x 8,x 9,x 10,x 11,x 12,x 13,x 14,x 15,x 16,x 17,x 18,x 19,x 20,x 21,x 22,x 23,x 24,x 25,x 26,x 27,x 28,x 29,x 30,x 31,x 32,x 33,x 34,x 35,x 36,x 37,x 38,x 39,x 40,x 41,x 42,x 43,x 44,x 45,x 46,x 47,x 48,x 49,x 50,x 51,x 52,x 53,x 54,x 55,x 56,x 57,x 58,x 59,x 60,x 61,x 62,x 63,x 64,x 65,x 66,x 67,x 68,x 69,x 70,x 71,x 72,x 73,x 74,x 75,x 76,x 77,x 78,x 79,x 80,x 81,x 82,x 83,x 84,x 85,x 86,x 87,x 88,x 89,x 90,x 91,x 92]
theorem qmH(l:List UInt8)(hl:l.length<=8388608)(hQ:Q (.tup [.sl false 3 (prs (qbd l).1),.int .i64 (qbd l).2.1,.bool (decide ((qbd l).2.2=0))]) H):PC Tryz.prog E 152 [.str l] H Q:=by
 refine qac Tryz.func152 rfl [89] [] (by kernel_rfl) (fun hB=>?_);simp[Tryz.ntmps152,Tryz.results152,List.replicate_succ];refine qek 5 3 (by rfl) ?_;simp only[List.set_cons_succ,List.set_cons_zero];refine qaB (qqO l H) (fun fr _=>l.length-(ai (aget fr 6)).toNat) ⟨[],0,[],by simp,by omega,by simp,qfL l,qam (by simp[prs])⟩ ?_;rintro fr H' ⟨J,e,out,rfl,he,hout,hp,x,rfl⟩;have hcap:l.length<=cap:=by simp only[cap];omega
 have hm:out.length+1<=maxLen/\(out.length+1)*40<=140737488355328:=by unfold maxLen;omega
 have bad:∀(fr:List AV) (J':Hp),qbd l=([],0,15)->aget fr 2= .nil->aget fr 3= .int .i64 0->aget fr 4= .bool false->qbU Tryz.prog [ResultVar.tmp 2,ResultVar.tmp 3,ResultVar.tmp 4] H.length Q .ret fr (H++J'):=fun fr J' h0 h2 h3 h4=>by
  rw[h0]at hQ;exact qab hB (v0:= .tup [.nil,.int .i64 0,.bool false]) (by simp[h2,h3,h4]) (qdd 3 _ _ rfl rfl) (by simp) hQ
 simp;refine qnW E _ _ l e hcap he ?_;obtain⟨b,hb⟩:=exz (run qah (l.drop e));have hbl:=qbh qah (l.drop e);rw[zqI]at hbl;rw[hb]at hbl⊢;obtain⟨a,ha⟩:∃a,a=e+b:=⟨_,rfl⟩
 rw[<-ha]
 have hcase:l[a]? =some 59\/l[a]? ≠some 59:=by
  by_cases h:l[a]? =some 59
  ·exact .inl h
  ·exact .inr h
 rcases hcase with h59|h59
 ·have halt:=(zqC.1 h59).1;have t1':¬l.length<=a:=by omega
  have hat:=qaq h59;obtain⟨a1,ha1⟩:∃a1,a1=a+1:=⟨_,rfl⟩
  have hw2:IntKind.i64.wrap ((a:Int)+1)=(a1:Int):=by rw[qai (by omega) (by omega)];omega
  simp[t1',hat,hw2];refine qnW E _ _ l a1 hcap (by omega) ?_;obtain⟨m,hmm⟩:=exz (run qah (l.drop a1));have hml:=qbh qah (l.drop a1);rw[zqI]at hml;rw[hmm]at hml⊢;obtain⟨a2,ha2⟩:∃a2,a2=a1+m:=⟨_,rfl⟩
  rw[<-ha2];simp;refine qnA E _ _ l a2 hcap (by omega) ?_;obtain⟨n,hn⟩:=exz (run qap (l.drop a2));have hnl:=qbh qap (l.drop a2);rw[zqI]at hnl;rw[hn]at hnl⊢;obtain⟨a3,ha3⟩:∃a3,a3=a2+n:=⟨_,rfl⟩
  have hw4:IntKind.i64.wrap ((a2:Int)+n)=(a3:Int):=by rw[qai (by omega) (by omega)];omega
  have x0:l[e+b]? =some 59:=by rw[<-ha];exact h59
  have x1:run qah (l.drop (e+b+1))=m:=by rw[<-ha,<-ha1];exact hmm
  have x2:run qap (l.drop (e+b+1+m))=n:=by rw[<-ha,<-ha1,<-ha2];exact hn
  have ee:e+b+1+m+n=a3:=by omega
  by_cases hz:n=0
  ·have hsk:=qgB hp hb x0 x1 x2 hz;rw[show e+b+1=a1 by omega]at hsk;simp[hz];exact Klz ⟨J,a1,out,rfl,by omega,by omega,hsk,friz⟩
  ·have t0:((n:Int)==0)=false:=by simp;omega
   have hnm:(l.drop a2).take (a3-a2)=(l.drop a2).take n:=by rw[show a3-a2=n by omega]
   have hle1:a2<=a3:=by omega
   have hle2:a3<=l.length:=by omega
   by_cases h61:l[a3]? =some 61
   ·have h3:=(zqC.1 h61).1;have hat2:=qaq h61;obtain⟨a4,ha4⟩:∃a4,a4=a3+1:=⟨_,rfl⟩
    have hw5:IntKind.i64.wrap ((a3:Int)+1)=(a4:Int):=by rw[qai (by omega) (by omega)];omega
    have ha4l:a4<=l.length:=by omega
    have hdl:(l.drop a4).length<=cap:=by rw[zqI];simp only[cap];omega
    simp[t0,hw4,hle1,hle2,hnm,h3,hat2,hw5,ha4l];refine qnA E _ _ (l.drop a4) 0 hdl (by omega) ?_;rw[List.drop_zero];obtain⟨k0,hk0⟩:=exz (run qap (l.drop a4));have hkl:=qbh qap (l.drop a4);rw[zqI]at hkl;rw[hk0]at hkl⊢;by_cases hk:k0=0
    ·have hpv:pval qap (l.drop a4)=unquote (l.drop a4):=by unfold pval;rw[hk0,if_neg (by omega)]
     have hnb:unquote (l.drop a4)=none->qbd l=([],0,15):=fun hv=>qhA hp hb x0 x1 x2 hz (by rw[ee];exact h61) (by rw[ee,<-ha4,hpv];exact hv)
     have hc3:l.drop a4=[]\/(∃c,(l.drop a4)[0]? =some c/\c≠34)\/(l.drop a4)[0]? =some 34:=by
      cases hd:l.drop a4 with
      |nil=>exact .inl rfl
      |cons c r=>
       by_cases hc:c=34
       ·exact .inr (.inr (by rw[hc];rfl))
       ·exact .inr (.inl ⟨c,rfl,hc⟩)
     rcases hc3 with hd|⟨c,hc,hcn⟩|hc
     ·have hbad:=hnb (by rw[hd];rfl);have hlen0:l.length=a4:=by have:=congrArg List.length hd;rw[zqI]at this;simp at this;omega
      simp[hk,hd];exact bad _ _ hbad rfl rfl rfl
     ·have hbad:=hnb (by
       rw[show l.drop a4=c::(l.drop a4).drop 1 from qas _ 0 c hc,unquote,if_neg hcn])
      have hcl:=(zqC.1 hc).1;have hne:(l.drop a4==[])=false:=by rw[beq_eq_false_iff_ne];intro e;rw[e]at hcl;simp at hcl
      have hat0:lat (l.drop a4) 0=some c:=qaq hc;have t34:((c.toNat:Int)==34)=false:=qcZ c 34 (by decide) hcn;simp[hk,hne,hat0,t34,bne];exact bad _ _ hbad rfl rfl rfl
     ·have hcl:=(zqC.1 hc).1;have hne:(l.drop a4==[])=false:=by rw[beq_eq_false_iff_ne];intro e;rw[e]at hcl;simp at hcl
      have hat0:lat (l.drop a4) 0=some 34:=qaq hc;simp[hk,hne,hat0];refine qi8 E _ _ (l.drop a4) (by rw[zqI];omega) hc ?_;cases hv:unquote (l.drop a4)with
      |none=>
       have hva:qaQ (l.drop a4)=([],0,13):=by unfold qaQ;rw[hv]
       have hbad:=hnb hv;simp[hva];exact bad _ _ hbad rfl rfl rfl
      |some q=>
       obtain⟨y,k⟩:=q;have hva:qaQ (l.drop a4)=(y,(k:Int),0):=by unfold qaQ;rw[hv]
       have hk2:=qbD hv;rw[zqI]at hk2;have hvv:=qdR hp hb x0 x1 x2 hz (by rw[ee];exact h61) (x:=y) (k:=k) (by rw[ee,<-ha4,hpv];exact hv);have hk0':((k:Int)==0)=false:=by simp;omega
       obtain⟨a6,ha6⟩:∃a6,a6=a3+1+k:=⟨_,rfl⟩
       have hw7:IntKind.i64.wrap (1+(k:Int))=((1+k:Nat):Int):=by rw[qai (by omega) (by omega)];omega
       have hw8:IntKind.i64.wrap ((a3:Int)+((1+k:Nat):Int))=(a6:Int):=by rw[qai (by omega) (by omega)];omega
       rw[show e+b+1+m=a2 by omega,show a2+n+1+k=a6 by omega]at hvv;simp[hva,hk0'];refine qsj E _ _ (l.drop a4) y k (by rw[zqI];omega) hc hv ?_;simp[hw7,hw8,hm,-Int.natCast_add];exact Klz ⟨J++[[.str ((l.drop a2).take n),.str y,.bool true]],a6,_,by simp,by omega,by simp;omega,hvv,qam (by simp[prs,qeV])⟩
    ·have tk:(0:Int)<(k0:Int):=by omega
     have tk':0<k0:=by omega
     have hpv:pval qap (l.drop a4)=some ((l.drop a4).take k0,k0):=by unfold pval;rw[hk0,if_pos (by omega)]
     have hvv:=qdR hp hb x0 x1 x2 hz (by rw[ee];exact h61) (x:=(l.drop a4).take k0) (k:=k0) (by rw[ee,<-ha4];exact hpv);obtain⟨a5,ha5⟩:∃a5,a5=a3+1+k0:=⟨_,rfl⟩
     have hw7:IntKind.i64.wrap (1+(k0:Int))=((1+k0:Nat):Int):=by rw[qai (by omega) (by omega)];omega
     have hw8:IntKind.i64.wrap ((a3:Int)+((1+k0:Nat):Int))=(a5:Int):=by rw[qai (by omega) (by omega)];omega
     have hkd:k0<=l.length-a4:=by omega
     rw[show e+b+1+m=a2 by omega,show a2+n+1+k0=a5 by omega]at hvv;simp[tk',hkd,hw7,hw8,hm,-Int.natCast_add];exact Klz ⟨J++[[.str ((l.drop a2).take n),.str ((l.drop a4).take k0),.bool true]],a5,_,by simp,by omega,by simp;omega,hvv,qam (by simp[prs,qeV])⟩
   ·have hpl:=qfM hp hb x0 x1 x2 hz (by rw[ee];exact h61);rw[show e+b+1+m=a2 by omega,show a2+n=a3 by omega]at hpl
    have hcase:a3=l.length\/(a3<l.length/\∃c,l[a3]? =some c/\c.toNat≠61):=by
     by_cases h:a3<l.length
     ·obtain⟨c,hc⟩:∃b,l[a3]? =some b:=⟨_,zqD h⟩
      exact .inr ⟨h,c,hc,fun hh=>h61 (by rw[hc,UInt8.toNat_inj.1 (show c.toNat=(61:UInt8).toNat from hh)])⟩
     ·exact .inl (by omega)
    rcases hcase with hE3|⟨h,c,hc,hcn⟩
    ·have hnl3:¬a3<l.length:=by omega
     simp[t0,hw4,hle1,hle2,hnm,hnl3,hm];exact Klz ⟨J++[[.str ((l.drop a2).take n),.str [],.bool false]],a3,_,by simp,by omega,by simp;omega,hpl,qam (by simp[prs,qeV])⟩
    ·have t2:((c.toNat:Int)==61)=false:=by simp;omega
     have hat2:=qaq hc;simp[t0,hw4,hle1,hle2,hnm,h,hat2,t2,hm];exact Klz ⟨J++[[.str ((l.drop a2).take n),.str [],.bool false]],a3,_,by simp,by omega,by simp;omega,hpl,qam (by simp[prs,qeV])⟩
 ·have hans:=qhz hp hb (by rw[<-ha];exact h59);rw[hans]at hQ
  have hcase:a=l.length\/(a<l.length/\∃c,l[a]? =some c/\c.toNat≠59):=by
   by_cases h:a<l.length
   ·obtain⟨c,hc⟩:∃b,l[a]? =some b:=⟨_,zqD h⟩
    exact .inr ⟨h,c,hc,fun hh=>h59 (by rw[hc,UInt8.toNat_inj.1 (show c.toNat=(59:UInt8).toNat from hh)])⟩
   ·exact .inl (by omega)
  rcases hcase with rfl|⟨h,c,hc,hcn⟩
  ·simp;exact qab hB rfl (qaa _) (by simp) hQ
  ·have t1:¬l.length<=a:=by omega
   have t2:((c.toNat:Int) !=59)=true:=by simp;omega
   have hat:=qaq hc;simp[t1,hat,t2];exact qab hB rfl (qaa _) (by simp) hQ
end
theorem qlz(l:List UInt8)(c:UInt8)(i:Nat)(h:l[i]? =some c)(hn:∀j,j<i->l[j]? ≠some c):Lib.indexByte l c=i:=by
 have h1:=Lib.indexByte_ge l c;by_cases h0:Lib.indexByte l c= -1
 ·exact absurd h (Lib.indexByte_none h0 i)
 ·obtain⟨o,ho⟩:∃o:Nat,Lib.indexByte l c=o:=⟨(Lib.indexByte l c).toNat,by omega⟩
  obtain⟨g1,g2⟩:=Lib.indexByte_some ho;rw[ho];by_cases hlt:o<i
  ·exact absurd g1 (hn o hlt)
  ·by_cases hgt:i<o
   ·exact absurd h (g2 i hgt)
   ·omega
theorem qly(l:List UInt8)(c:UInt8)(hn:∀j,j<l.length->l[j]? ≠some c):Lib.indexByte l c= -1:=by
 have h1:=Lib.indexByte_ge l c;by_cases h0:Lib.indexByte l c= -1
 ·exact h0
 ·obtain⟨o,ho⟩:∃o:Nat,Lib.indexByte l c=o:=⟨(Lib.indexByte l c).toNat,by omega⟩
  obtain⟨g1,g2⟩:=Lib.indexByte_some ho;exact absurd g1 (hn o (zqC.1 g1).1)
theorem qhS(b:UInt8):(0<=dig b)=(qaT b=true):=by
 have h:=qcI b;have hl:=qhZ b;rw[h];simp only[decide_eq_true_eq,eq_iff_iff];omega
theorem qhD(l:List UInt8)(h:l.all qaT=true):qaU 16 l=true:=by
 unfold qaU;rw[List.all_eq_true]at h⊢;intro b hb;have:=h b hb;rw[qcI]at this;exact this
section
variable (E:Env)(H:Hp)(Q:AV->Hp->Prop)
def hxInv(c:UInt8)(H:Hp)(fr:List AV)(H':Hp):Prop:=H'=H/\∃i:Nat,i<=16/\(∀j,j<i->digs[j]? ≠some (lowB c))/\∃x:Nat->AV,fr=[.int .u8 (c.toNat:Int),x 1,x 2,.str digs,.int .i64 i,x 5,x 6,x 7,x 8,x 9,x 10,x 11,x 12,x 13,x 14,x 15,x 16,x 17,x 18,x 19]
theorem qkE(c:UInt8)(hQ:Q (.int .i64 (dig c)) H):PC Tryz.prog E 151 [.int .u8 (c.toNat:Int)] H Q:=by
 refine qac Tryz.func151 rfl [] [] (by kernel_rfl) (fun hB=>?_);have fin:∀z:Int,dig c=z->Q (.int .i64 z) H:=fun z hz=>hz▸hQ;simp[Tryz.ntmps151,Tryz.results151,List.replicate_succ];refine qaB (hxInv c H) (fun fr _=>16-(ai (aget fr 4)).toNat) ⟨rfl,0,by omega,(fun j hj=>by omega),qam (by simp[digs])⟩ ?_;rintro fr H' ⟨rfl,i,hi,hno,x,rfl⟩;have hlen:digs.length=16:=rfl;by_cases h:i<16
 ·obtain⟨d,hd⟩:∃d,digs[i]? =some d:=⟨_,zqD (by rw[hlen];exact h)⟩
  have h16:(i:Int)<16:=by omega
  have hw:IntKind.i64.wrap ((i:Int)+1)=i+1:=wiz;have hbt:[[AV.int .u8 (c.toNat:Int)]]=bts [c]:=by simp[bts]
  have t1:((i:Int)+1).toNat=i+1:=by omega
  have t2:(0:Int)<=i+1:=by omega
  have t3:(digs.drop i).take 1=[d]:=by rw[qas digs i d hd];rfl
  have t4:i+1<=16:=by omega
  simp[h16,hw,hbt,t1,t2,t3,t4,hlen];refine qcf E _ _ [c] (by simp[cap]) ?_;have hlow:low [c]=[lowB c]:=rfl;rw[hlow];by_cases he:lowB c=d
  ·have t5:([lowB c]==[d])=true:=by rw[he];simp
   simp[t5,t3,t4,hlen,h16,hw,t1,t2];exact aQz hB (h6:=(fin i (qlz digs (lowB c) i (by rw[hd,he]) hno)))
  ·have t5:([lowB c]==[d])=false:=by rw[beq_eq_false_iff_ne];intro hh;cases hh;exact he rfl
   simp[t5,t3,t4,hlen,h16,hw,t1,t2];refine Klz ⟨rfl,i+1,by omega,fun j hj=>?_,friz⟩;by_cases hji:j<i
   ·exact hno j hji
   ·obtain rfl:j=i:=by omega
    rw[hd];exact fun hh=>he (Option.some.inj hh).symm
 ·obtain rfl:i=16:=by omega
  simp;exact aQz hB (h6:=(fin (-1) (qly digs (lowB c) (fun j hj=>hno j (by rw[hlen]at hj;exact hj)))))
def dszInv(l:List UInt8)(H:Hp)(fr:List AV)(H':Hp):Prop:=H'=H/\∃(k:Nat) (n:Int),k<=l.length/\(l.take k).all qaT=true/\0<=n/\n<=17592186044432/\(qbe 16 (l.take k)<=1099511627776->n=qbe 16 (l.take k))/\(1099511627776<qbe 16 (l.take k)->1099511627776<n)/\
 ∃x:Nat->AV,fr=[.str l,x 1,x 2,x 3,x 4,.int .i64 n,.int .i64 k,x 7,x 8,x 9,x 10,x 11,x 12,x 13,x 14,x 15,x 16,x 17,x 18,x 19,x 20,x 21,x 22,x 23,x 24,x 25,x 26,x 27,x 28,x 29,x 30,x 31,x 32,x 33,x 34,x 35,x 36,x 37,x 38,x 39,x 40,x 41,x 42,x 43,x 44,x 45,x 46,x 47,x 48,x 49,x 50,x 51,x 52,x 53,x 54,x 55,x 56,x 57,x 58,x 59,x 60,x 61]
theorem qqL(l:List UInt8)(hl:l.length<=cap)(hQ:Q (.tup [.int .i64 (qak l).1,.sl false 3 (prs (qak l).2.1),.int .i64 (qak l).2.2]) H):PC Tryz.prog E 132 [.str l] H Q:=by
 refine qac Tryz.func132 rfl [] [] (by kernel_rfl) (fun hB=>?_);have hl':=hl;simp only[cap]at hl'
 have bad:∀(fr:List AV) (e:Int),qak l=(0,[],e)->aget fr 2= .int .i64 0->aget fr 3= .nil->aget fr 4= .int .i64 e->qbU Tryz.prog [ResultVar.tmp 2,ResultVar.tmp 3,ResultVar.tmp 4] H.length Q .ret fr H:=fun fr e h0 h1 h2 h3=>by
  rw[h0]at hQ;exact qat hB (v0:= .tup [.int .i64 0,.nil,.int .i64 e]) (by simp[h1,h2,h3]) (qls 3 _ _ rfl rfl) (by simp) hQ
 by_cases hbig:254<l.length
 ·have ha:qak l=(0,[],100):=by unfold qak;rw[if_pos (.inr hbig)]
  have hbig':(254:Int)<l.length:=by omega
  simp[Tryz.ntmps132,Tryz.results132,List.replicate_succ,hbig'];exact bad _ 100 ha rfl rfl rfl
 ·have hbig':¬(254:Int)<l.length:=by omega
  simp[Tryz.ntmps132,Tryz.results132,List.replicate_succ,hbig'];refine qaB (dszInv l H) (fun fr _=>l.length-(ai (aget fr 6)).toNat) ⟨rfl,0,0,by omega,by simp,by omega,by omega,fun _=>rfl,(fun h=>by simp[qbe]at h),friz⟩ ?_;rintro fr H' ⟨rfl,k,n,hk,hall,hn0,hn1,hs1,hs2,x,rfl⟩;have hw:IntKind.i64.wrap ((k:Int)+1)=k+1:=wiz
  have hcase:(∃b,l[k]? =some b/\qaT b=true)\/(∃b,l[k]? =some b/\qaT b=false)\/l.length<=k:=by
   cases hb:l[k]? with
   |none=>exact .inr (.inr (List.getElem?_eq_none_iff.1 hb))
   |some b=>
    cases hx:qaT b
    ·exact .inr (.inl ⟨b,rfl,hx⟩)
    ·exact .inl ⟨b,rfl,hx⟩
  rcases hcase with⟨b,hb,hx⟩|⟨b,hb,hx⟩|h
  ·have h:k<l.length:=(zqC.1 hb).1;have hat:=qaq hb;have hd0:0<=dig b:=by rw[qhS];exact hx
   have hd16:=(qhZ b).2;have hst:=qcw 16 l k b hb;have hnn:=qbl 16 (by omega) (l.take k) (qhD _ hall);simp[h,hat];refine qkE E _ _ b ?_;by_cases hle:n<=1099511627776
   ·have hwm:IntKind.i64.wrap (16*n)=16*n:=wiz;have hwa:IntKind.i64.wrap (16*n+dig b)=16*n+dig b:=wiz;simp[hd0,hle,hwm,hat];refine qkE E _ _ b ?_;simp[hwa,hw];refine Klz ⟨rfl,k+1,16*n+dig b,by omega,by rw[qbg qaT l k b hb,hall,hx];rfl,by omega,by omega,fun hh=>?_,fun hh=>?_,friz⟩
    ·rw[hst]at hh⊢;have:=hs1 (by omega);omega
    ·rw[hst]at hh;by_cases hh2:qbe 16 (l.take k)<=1099511627776
     ·have:=hs1 hh2;omega
     ·have:=hs2 (by omega);omega
   ·simp[hd0,hle,hw]
    have hbg:1099511627776<qbe 16 (l.take k):=by
     by_cases hh2:qbe 16 (l.take k)<=1099511627776
     ·have:=hs1 hh2;omega
     ·omega
    refine Klz ⟨rfl,k+1,n,by omega,by rw[qbg qaT l k b hb,hall,hx];rfl,hn0,hn1,fun hh=>?_,fun _=>by omega,friz⟩;rw[hst]at hh;omega
  case' inr.inl=>
   have h:k<l.length:=(zqC.1 hb).1;have hat:=qaq hb;have hd0:¬0<=dig b:=by rw[qhS,hx];simp
   have hr:run qaT l=k:=qbn qaT l k hall hk (fun c hc=>by rw[hb]at hc;cases hc;exact hx);simp[h,hat];refine qkE E _ _ b ?_;simp[hd0,hk]
  case' inr.inr=>
   have h':¬k<l.length:=by omega
   have hr:run qaT l=k:=qbn qaT l k hall hk (fun c hc=>by have:=(zqC.1 hc).1;omega);simp[h',hk]
  all_goals
   obtain⟨hpl,m,hm,hml⟩:=qjg (l.drop k);rw[zqI]at hml hpl;refine qmH E _ _ (l.drop k) (by rw[zqI];omega) ?_;rw[hm];have hw2:IntKind.i64.wrap ((k:Int)+m)=((k+m:Nat):Int):=by rw[qai (by omega) (by omega)];omega
   by_cases hn0k:k=0
   ·have ha:qak l=(0,[],100):=by unfold qak;rw[if_pos (.inl (by rw[hr];exact hn0k))]
    simp[hn0k];exact bad _ 100 ha rfl rfl rfl
   ·have e0:((k:Int)==0)=false:=by simp;omega
    have ha0:qak l=if(qbd (l.drop k)).2.2≠0\/qaI (l.drop (k+m))≠[]then(0,[],100)else if(qae 16 1099511627776 (l.take k)).2≠0 then(0,[],102)else((qae 16 1099511627776 (l.take k)).1,(qbd (l.drop k)).1,0):=by
     unfold qak;rw[hr,if_neg (by omega),hm,Int.toNat_natCast]
    have hna:qae 16 1099511627776 (l.take k)=if 1099511627776<qbe 16 (l.take k)then(0,12)else(qbe 16 (l.take k),0):=by
     have hne:l.take k≠[]:=by intro e;have:=congrArg List.length e;rw[zqJ]at this;have h3:min k l.length=0:=this;omega
     unfold qae;rw[if_neg hne,if_neg (by rw[qhD _ hall];simp)];by_cases hg:1099511627776<qbe 16 (l.take k)
     ·rw[if_pos (.inr hg),if_pos hg]
     ·rw[if_neg (by omega),if_neg hg]
    by_cases he:(qbd (l.drop k)).2.2=0
    ·have hnm:k+m<=l.length:=by omega
     simp[e0,he,hw2,hnm,-Int.natCast_add];refine qcD E _ _ (l.drop (k+m)) (by rw[zqI];simp only[cap];omega) ?_;by_cases ht:qaI (l.drop (k+m))=[]
     ·by_cases hg:1099511627776<n
      ·have hgg:1099511627776<qbe 16 (l.take k):=by
        by_cases hh2:qbe 16 (l.take k)<=1099511627776
        ·have:=hs1 hh2;omega
        ·omega
       have ha:qak l=(0,[],102):=by rw[ha0,if_neg (by simp[he,ht]),hna,if_pos hgg];rfl
       simp[ht,hg];exact bad _ 102 ha rfl rfl rfl
      ·have hgg:¬1099511627776<qbe 16 (l.take k):=fun hh=>hg (hs2 hh);have hnn:=hs1 (by omega);have ha:qak l=(n,(qbd (l.drop k)).1,0):=by rw[ha0,if_neg (by simp[he,ht]),hna,if_neg hgg,hnn];rfl
       rw[ha]at hQ;simp[ht,hg];exact qat hB (v0:= .tup [.int .i64 n,.sl false 3 (prs (qbd (l.drop k)).1),.int .i64 0]) (by simp) (qaa _) (by simp[qkR,-qo5]) hQ
     ·have ht2:(qaI (l.drop (k+m)) !=[])=true:=by simpa using ht
      have ha:qak l=(0,[],100):=by rw[ha0,if_pos (.inr ht)]
      simp[ht2];exact bad _ 100 ha rfl rfl rfl
    ·have ha:qak l=(0,[],100):=by rw[ha0,if_pos (.inl he)]
     simp[e0,he];exact bad _ 100 ha rfl rfl rfl
end
end Go.Proofs.YtnnhdehmlkkfjaaGreatDoor
namespace Go.Proofs.YtnnhdehmlkkfjaaGreatDoor
open Go Go.RowKit
inductive NilD:AV->AV->Prop
 |same (x):NilD x x
 |nil (k):NilD .nil (.sl false k [])
 |agg (l m:List AV) (hl:l.length=m.length) (h:∀(i:Nat) x y,l[i]? =some x->m[i]? =some y->NilD x y):NilD (.agg l) (.agg m)
 |tup (l m:List AV) (hl:l.length=m.length) (h:∀(i:Nat) x y,l[i]? =some x->m[i]? =some y->NilD x y):NilD (.tup l) (.tup m)
 |sl (k:Nat) (l m:List (List AV)) (hl:l.length=m.length) (hk:∀(i:Nat) r s,l[i]? =some r->m[i]? =some s->r.length=s.length) (h:∀(i j:Nat) r s x y,l[i]? =some r->m[i]? =some s->r[j]? =some x->s[j]? =some y->NilD x y):NilD (.sl false k l) (.sl false k m)
def NilL:List AV->List AV->Prop
 |[],[]=>True
 |x::l,y::m=>NilD x y/\NilL l m
 |_,_=>False
theorem NilL.at:∀{l m:List AV},NilL l m->l.length=m.length/\∀(i:Nat) x y,l[i]? =some x->m[i]? =some y->NilD x y
 |[],[],_=>⟨rfl,fun i x y hx=>by simp at hx⟩
 |x::l,y::m,h=>by
  obtain⟨h1,h2⟩:=NilL.at h.2;refine⟨by simp[h1],fun i a b ha hb=>?_⟩;cases i with
  |zero=>simp at ha hb;subst ha;subst hb;exact h.1
  |succ i=>exact h2 i a b (by simpa using ha) (by simpa using hb)
 |[],_::_,h=>h.elim
 |_::_,[],h=>h.elim
@[simp] theorem NilL_nil:NilL [] []=True:=rfl
@[simp] theorem NilL_cons (x y:AV) (l m:List AV):NilL (x::l) (y::m)=(NilD x y/\NilL l m):=rfl
@[simp] theorem NilD_same (x:AV):NilD x x=True:=eq_true (.same x)
@[simp] theorem NilD_nil (k:Nat):NilD .nil (.sl false k [])=True:=eq_true (.nil k)
theorem qaP{l m:List AV}(h:NilL l m):NilD (.agg l) (.agg m):= .agg l m h.at.1 h.at.2
theorem qdI{l m:List AV}(h:NilL l m):NilD (.tup l) (.tup m):= .tup l m h.at.1 h.at.2
theorem NilD.one{x y:AV}(h:NilD x y):x.one=true->y.one=true:=by
 cases h with
 |same=>exact id
 |nil=>exact fun _=>rfl
 |agg=>intro h;simp[AV.one]at h
 |tup=>intro h;simp[AV.one]at h
 |sl=>exact fun _=>rfl
theorem NilD.free{x y:AV}(h:NilD x y):x.free=true->y.free=true:=by
 cases h with
 |same=>exact id
 |nil=>exact fun _=>rfl
 |agg=>exact fun _=>rfl
 |tup=>exact fun _=>rfl
 |sl=>exact fun _=>rfl
theorem NilD.own{x y:AV}(h:NilD x y)(v:Value)(g:Nat):own0 y v=some g->own0 x v=some g:=by
 cases h with
 |same=>exact id
 |nil=>intro e;cases e
 |agg=>intro e;cases e
 |tup=>intro e;cases e
 |sl=>intro e;cases e
theorem NilD.dis{x y:AV}(h:NilD x y):x.dis.free=true->y.dis.free=true:=by
 cases h with
 |same=>exact id
 |nil=>exact fun _=>rfl
 |agg=>exact fun _=>rfl
 |tup=>exact fun _=>rfl
 |sl=>exact fun _=>rfl
theorem qb7{α β:Type}{l:List α}{m:List β}(h:l.length=m.length){i:Nat}{y:β}(hy:m[i]? =some y):∃x,l[i]? =some x:=by
 have:=(zqC.1 hy).1;exact⟨l[i],zqD (by omega)⟩
theorem NilD.bnd{N:Nat}{x y:AV}(h:NilD x y):Bnd N x->Bnd N y:=by
 induction h with
 |same=>exact id
 |nil k=>exact fun _=> .sl _ _ _ (by simp)
 |agg l m hl h ih=>
  intro hb;cases hb with
  |agg _ hb=>
   refine .agg _ fun y hy=>?_;obtain⟨i,hi⟩:=List.getElem?_of_mem hy;obtain⟨x,hx⟩:=qb7 hl hi;exact ih i x y hx hi (hb x (qan hx))
 |tup l m hl h ih=>
  intro hb;cases hb with
  |tup _ hb=>
   refine .tup _ fun y hy=>?_;obtain⟨i,hi⟩:=List.getElem?_of_mem hy;obtain⟨x,hx⟩:=qb7 hl hi;exact ih i x y hx hi (hb x (qan hx))
 |sl k l m hl hk h ih=>
  intro hb;cases hb with
  |sl _ _ _ hb=>
   refine .sl _ _ _ fun s hs y hy=>?_;obtain⟨i,hi⟩:=List.getElem?_of_mem hs;obtain⟨j,hj⟩:=List.getElem?_of_mem hy;obtain⟨r,hr⟩:=qb7 hl hi;obtain⟨x,hx⟩:=qb7 (hk i r s hr hi) hj;exact ih i j r s x y hr hi hx hj (hb r (qan hr) x (qan hx))
theorem qjF:∀{l m:List (List AV)},l.length=m.length->(∀(i:Nat) (r s:List AV),l[i]? =some r->m[i]? =some s->r.length=s.length)->l.flatten.length=m.flatten.length/\
  ∀(t:Nat) x y,l.flatten[t]? =some x->m.flatten[t]? =some y->∃(i j:Nat) (r s:List AV),l[i]? =some r/\m[i]? =some s/\r[j]? =some x/\s[j]? =some y
 |[],[],_,_=>⟨rfl,fun t x y hx=>by simp at hx⟩
 |a::l,b::m,hl,hk=>by
  have hab:a.length=b.length:=hk 0 a b rfl rfl;obtain⟨h1,h2⟩:=qjF (l:=l) (m:=m) (by simpa using hl) (fun i r s hr hs=>hk (i+1) r s (by simpa using hr) (by simpa using hs));refine⟨by simp[h1,hab],fun t x y hx hy=>?_⟩;rw[List.flatten_cons]at hx hy;by_cases ht:t<a.length
  ·rw[zqA ht]at hx;rw[zqA (by omega)]at hy;exact⟨0,t,a,b,rfl,rfl,hx,hy⟩
  ·rw[zqB (by omega)]at hx hy;rw[<-hab]at hy;obtain⟨i,j,r,s,e1,e2,e3,e4⟩:=h2 _ x y hx hy;exact⟨i+1,j,r,s,by simpa using e1,by simpa using e2,e3,e4⟩
 |[],_::_,h,_=>by simp at h
 |_::_,[],h,_=>by simp at h
theorem NilD.rel{w:World}{β:Nat->Nat}{Rd:Nat->Nat->Prop}{x y:AV}(h:NilD x y):∀{v:Value},Rel w β Rd x v->Rel w β Rd y v:=by
 induction h with
 |same=>exact id
 |nil k=>
  intro v hr;obtain rfl:=qid hr;exact .sl false k [] _ [] (by simp) (OSl.nil w k).toR (fun g o n c hv=>by cases hv) (fun h=>by cases h) (by simp) (fun j x u hx=>by simp at hx)
 |agg l m hl h ih=>
  intro v hr;cases hr with
  |agg _ vs hs hf hr=>
   refine .agg _ vs (by omega) (fun y hy=>?_) (fun j y u hy hu=>?_)
   ·obtain⟨i,hi⟩:=List.getElem?_of_mem hy;obtain⟨x,hx⟩:=qb7 hl hi;obtain⟨f1,f2⟩:=hf x (qan hx);exact⟨(h i x y hx hi).free f1,(h i x y hx hi).one f2⟩
   ·obtain⟨x,hx⟩:=qb7 hl hy;exact ih j x y hx hy (hr j x u hx hu)
 |tup l m hl h ih=>
  intro v hr;cases hr with
  |tup _ vs hs hf hr=>
   refine .tup _ vs (by omega) (fun y hy=>?_) (fun j y u hy hu=>?_)
   ·obtain⟨i,hi⟩:=List.getElem?_of_mem hy;obtain⟨x,hx⟩:=qb7 hl hi;exact(h i x y hx hi).free (hf x (qan hx))
   ·obtain⟨x,hx⟩:=qb7 hl hy;exact ih j x y hx hy (hr j x u hx hu)
 |sl k l m hl hkl h ih=>
  intro v hr;cases hr with
  |sl _ _ _ _ xs hk hx hd ho hf hr=>
   obtain⟨hfl,hfp⟩:=qjF hl hkl;refine .sl false k m v xs (fun s hs=>?_) (by rw[<-hl];exact hx) (fun g o n c hv j hj=>hd g o n c hv j (by rw[hl];exact hj)) (fun h=>by cases h) (fun s hs y hy=>?_) (fun t y u hy hu=>?_)
   ·obtain⟨i,hi⟩:=List.getElem?_of_mem hs;obtain⟨r,hr⟩:=qb7 hl hi;rw[<-hkl i r s hr hi];exact hk r (qan hr)
   ·obtain⟨i,hi⟩:=List.getElem?_of_mem hs;obtain⟨j,hj⟩:=List.getElem?_of_mem hy;obtain⟨r,hr⟩:=qb7 hl hi;obtain⟨x,hx⟩:=qb7 (hkl i r s hr hi) hj;obtain⟨f1,f2⟩:=hf r (qan hr) x (qan hx);have hn:=h i j r s x y hr hi hx hj;exact⟨hn.free f1,hn.one f2⟩
   ·obtain⟨x,hx⟩:=qb7 hfl hy;obtain⟨i,j,r,s,e1,e2,e3,e4⟩:=hfp t x y hx hy;exact ih i j r s x y e1 e2 e3 e4 (hr t x u hx hu)
theorem PC.nilD{P:Program}{E:Env}{f:FuncId}{args:List AV}{H:Hp}{Q:AV->Hp->Prop}(h:PC P E f args H (fun v H'=>∃v',NilD v v'/\Q v' H')):PC P E f args H Q:=
 ⟨h.1,fun w β Rd Ow cargs h1 h2 h3 h4=>(h.2 w β Rd Ow cargs h1 h2 h3 h4).mono fun e w' ⟨u,v,H',β',Rd',Ow',he,⟨v',hn,hQ⟩,hp⟩=>
  ⟨u,v',H',β',Rd',Ow',he,hQ,hn.rel hp.rel,hn.bnd hp.bnd,fun g hg=>hp.own g (hn.own u g hg),hn.dis hp.ne,hp.hr,hp.old,hp.len,hp.keep,hp.frame,hp.os,hp.tape,hp.output,hp.size⟩⟩
end Go.Proofs.YtnnhdehmlkkfjaaGreatDoor
namespace Go.Proofs.YtnnhdehmlkkfjaaGreatDoor
open Go Go.RowKit Go.Proofs
def goD(d:Dec):Prop:=d.done=false/\d.err=0
theorem qcz(d:Dec)(b:UInt8)(s:List UInt8):qav d (b::s)=if(feed1 d b).done=true\/(feed1 d b).err≠0 then(feed1 d b,1)else((qav (feed1 d b) s).1,(qav (feed1 d b) s).2+1):=rfl
theorem qe7{d:Dec}{b:UInt8}(s:List UInt8)(h:goD (feed1 d b)):qav d (b::s)=((qav (feed1 d b) s).1,(qav (feed1 d b) s).2+1):=by
 rw[qcz,if_neg];rintro(h1|h1)
 ·rw[h.1]at h1;cases h1
 ·exact h1 h.2
theorem qmB{d:Dec}{b:UInt8}(s:List UInt8)(h:(feed1 d b).done=true\/(feed1 d b).err≠0):qav d (b::s)=(feed1 d b,1):=by rw[qcz,if_pos h]
theorem qe8:∀(a:List UInt8) (d e:Dec) (s:List UInt8),qav d a=(e,a.length)->goD e->qav d (a++s)=((qav e s).1,(qav e s).2+a.length)
 |[],d,e,s,h,_=>by cases h;simp
 |b::a,d,e,s,h,hg=>by
  rw[List.cons_append,qcz];rw[qcz]at h;split at h
  ·rename_i hs;have h1:=(Prod.mk.inj h).1;rw[h1]at hs;rcases hs with hs|hs
   ·rw[hg.1]at hs;cases hs
   ·exact absurd hg.2 hs
  ·rename_i hs;rw[if_neg hs];have h1:=Prod.mk.inj h;have h2:(qav (feed1 d b) a).2=a.length:=by have:=h1.2;simp at this;omega
   rw[qe8 a (feed1 d b) e s (by rw[<-h1.1,<-h2]) hg];simp;omega
theorem qfZ:∀(a:List UInt8) (d:Dec),d.st= .size->goD d->(∀b∈a,b≠10)->d.line.length+a.length<=255->qav d a=({d with line:=d.line++a,total:=d.total+a.length},a.length)
 |[],d,_,_,_,_=>by simp[qav]
 |b::a,d,hs,hg,ha,hl=>by
  have hb:b≠10:=ha b (by simp);simp only[zqL]at hl
  have h1:feed1 d b={d with line:=d.line++[b],total:=d.total+1}:=by
   unfold feed1 qb5;simp only[hs,qhe,hb,if_pos,ne_eq,not_false_eq_true];rw[if_neg (by simp;omega),<-hg.2]
  have hg':goD (feed1 d b):=by rw[h1];exact hg
  rw[qe7 _ hg',h1,qfZ a {d with line:=d.line++[b],total:=d.total+1} hs hg (fun c hc=>ha c (by simp[hc])) (by simp;omega)];simp;omega
theorem qeO:∀(a:List UInt8) (d:Dec),d.st= .trailer->goD d->(∀b∈a,b≠10)->(d.section_:Int)+a.length<=d.room->qav d a=({d with line:=d.line++a,section_:=d.section_+a.length,total:=d.total+a.length},a.length)
 |[],d,_,_,_,_=>by simp[qav]
 |b::a,d,hs,hg,ha,hl=>by
  have hb:b≠10:=ha b (by simp);simp only[zqL]at hl
  have h1:feed1 d b={d with line:=d.line++[b],section_:=d.section_+1,total:=d.total+1}:=by
   unfold feed1 qb5;simp only[hs,qbE,hb,if_pos,ne_eq,not_false_eq_true];rw[if_neg (by omega)];simp only[hs,<-hg.2]
  have hg':goD (feed1 d b):=by rw[h1];exact hg
  rw[qe7 _ hg',h1,qeO a {d with line:=d.line++[b],section_:=d.section_+1,total:=d.total+1} hs hg (fun c hc=>ha c (by simp[hc])) (by simp;omega)];simp;omega
theorem qib:∀(a:List UInt8) (d:Dec),d.st= .data->goD d->(a.length:Int)<d.left->qav d a=({d with body:=d.body++a,left:=d.left-a.length,total:=d.total+a.length},a.length)
 |[],d,_,_,_=>by simp[qav]
 |b::a,d,hs,hg,hl=>by
  simp only[zqL]at hl
  have h1:feed1 d b={d with body:=d.body++[b],left:=d.left-1,total:=d.total+1}:=by
   unfold feed1 qb5;simp only[hs,qgU];rw[if_neg (by omega)];simp only[hs,<-hg.2]
  have hg':goD (feed1 d b):=by rw[h1];exact hg
  rw[qe7 _ hg',h1,qib a {d with body:=d.body++[b],left:=d.left-1,total:=d.total+1} hs hg (by simp;omega)];simp;exact⟨by omega,by omega⟩
theorem qor(a:List UInt8)(d:Dec)(hs:d.st= .data)(hg:goD d)(h0:a≠[])(hl:(a.length:Int)=d.left):qav d a=({d with body:=d.body++a,left:=0,st:= .first,total:=d.total+a.length},a.length):=by
 obtain⟨x,b,rfl⟩:∃x b,a=x++[b]:=⟨a.dropLast,a.getLast h0,(List.dropLast_concat_getLast h0).symm⟩
 rw[zqK]at hl;simp at hl;have hr:=qib x d hs hg (by omega);rw[qe8 x d _ [b] hr hg]
 have h1:feed1 {d with body:=d.body++x,left:=d.left-x.length,total:=d.total+x.length} b={d with body:=d.body++(x++[b]),left:=0,st:= .first,total:=d.total+(x++[b]).length}:=by
  unfold feed1 qb5;simp only[hs,qgU];rw[if_pos (by omega)];simp[<-hg.2];omega
 rw[qe7 [] (by rw[h1];exact hg),h1];simp[qav];omega
theorem qjK(l:List UInt8)(a n:Nat)(h:a+n<=l.length):endL ((l.drop a).take n++[10])=if n=0\/l[a+n-1]? ≠some 13 then none else some ((l.drop a).take (n-1)):=by
 have hlen:((l.drop a).take n).length=n:=by rw[zqJ,zqI];omega
 unfold endL;rw[zqK,hlen];by_cases h0:n=0
 ·subst h0;simp
 ·obtain⟨m,rfl⟩:∃m,n=m+1:=⟨n-1,by omega⟩
  have hat:((l.drop a).take (m+1))[m]? =l[a+m]? :=by rw[zqG (by omega),zqN]
  obtain⟨c,hc⟩:∃c,l[a+m]? =some c:=⟨_,zqD (by omega)⟩
  have hsn:(l.drop a).take (m+1)=(l.drop a).take m++[c]:=by
   rw[List.take_add_one,zqN,hc];rfl
  have hml:((l.drop a).take m).length=m:=by rw[zqJ,zqI];omega
  have e1:m+1+[(10:UInt8)].length-2=m:=by simp
  have e2:a+(m+1)-1=a+m:=by omega
  rw[e1,e2,hc,hsn,List.append_assoc,List.drop_append_of_le_length (by omega),List.drop_of_length_le (by omega),List.take_append_of_le_length (by omega),zqE (by omega)];by_cases hcc:c=13
  ·subst hcc;simp
  ·simp[hcc]
def qmd(d:Dec)(x:Option (List UInt8)):Dec×Int:=match x with
 |none=>({d with line:=[]},100)
 |some s=>if(qak s).2.2≠0 then({d with line:=[]},(qak s).2.2)
  else if d.most-d.body.length<(qak s).1 then({d with line:=[]},102)
  else if(qak s).1=0 then({d with line:=[],st:= .trailer},0)
  else({d with line:=[],left:=(qak s).1,st:= .data},0)
theorem qdh(d:Dec)(hs:d.st= .size):feed1 d 10={(qmd {d with total:=d.total+1} (endL (d.line++[10]))).1 with err:=(qmd {d with total:=d.total+1} (endL (d.line++[10]))).2}:=by
 unfold feed1 qb5;simp only[hs,qhe,ne_eq,not_true_eq_false,if_false];cases endL (d.line++[10])<;>rfl
def qdJ(d:Dec)(x:Option (List UInt8)):Dec×Int:=match x with
 |none=>({d with section_:=d.section_+1,line:=[]},101)
 |some s=>if s=[]then({d with section_:=d.section_+1,line:=[],done:=true},0)
  else if d.fields<=d.trailers.length then({d with section_:=d.section_+1,line:=[]},104)
  else match qbw s with
   |none=>({d with section_:=d.section_+1,line:=[]},101)
   |some f=>if mayB f.name=true then({d with section_:=d.section_+1,line:=[],trailers:=d.trailers++[f]},0)else({d with section_:=d.section_+1,line:=[]},101)
theorem qgQ(d:Dec)(hs:d.st= .trailer)(hr:(d.section_:Int)<d.room):feed1 d 10={(qdJ {d with total:=d.total+1} (endL (d.line++[10]))).1 with err:=(qdJ {d with total:=d.total+1} (endL (d.line++[10]))).2}:=by
 unfold feed1 qb5;simp only[hs,qbE,ne_eq,not_true_eq_false,if_false];rw[if_neg (by omega)];cases endL (d.line++[10])<;>rfl
theorem qiP(l:List UInt8)(h:l.all qah=true):qaI l=[]:=by
 induction l with
 |nil=>rfl
 |cons c l ih=>
  simp only[List.all_cons,Bool.and_eq_true]at h;rw[qgi c h.1,ih h.2]
theorem qgh(l:List UInt8):(qaI l).length<=l.length:=by
 rw[qeJ];unfold rt lt;rw[List.length_reverse];refine Nat.le_trans (List.dropWhile_sublist _).length_le ?_;rw[List.length_reverse];exact(List.dropWhile_sublist _).length_le
def not10(b:UInt8):Bool:=b !=10
theorem qle{p:UInt8->Bool}{l:List UInt8}(h:run p l<l.length):∃b,l[run p l]? =some b/\p b=false:=by
 unfold run at h⊢
 induction l with
 |nil=>simp at h
 |cons a l ih=>
  by_cases ha:p a=true
  ·rw[List.takeWhile_cons_of_pos ha]at h⊢;obtain⟨b,h1,h2⟩:=ih (by simpa using h);exact⟨b,by simpa using h1,h2⟩
  ·rw[List.takeWhile_cons_of_neg ha];exact⟨a,rfl,by simpa using ha⟩
theorem qld{p:UInt8->Bool}{l:List UInt8}{k:Nat}(h:k<=run p l):(l.take k).all p=true:=by
 induction l generalizing k with
 |nil=>simp
 |cons a l ih=>
  cases k with
  |zero=>simp
  |succ k=>
   by_cases ha:p a=true
   ·unfold run at h;rw[List.takeWhile_cons_of_pos ha]at h;simp only[List.take_succ_cons,List.all_cons,ha,Bool.true_and];exact ih (by simpa[run]using h)
   ·unfold run at h;rw[List.takeWhile_cons_of_neg ha]at h;simp at h
theorem run_at{p:UInt8->Bool}{l:List UInt8}{k:Nat}{b:UInt8}(h:k<run p l)(hb:l[k]? =some b):p b=true:=by
 have:=qld (k:=k+1) (p:=p) (l:=l) (by omega);rw[qbg p l k b hb]at this;simpa using(Bool.and_eq_true _ _▸this).2
section
variable (E:Env)(H:Hp)(Q:AV->Hp->Prop)
def qsL(l:List UInt8)(c:UInt8)(H:Hp)(fr:List AV)(H':Hp):Prop:=H'=H/\∃i:Nat,i<=l.length/\(∀j,j<i->l[j]? ≠some c)/\∃x:Nat->AV,fr=[.str l,.int .u8 (c.toNat:Int),x 2,x 3,x 4,.int .i64 i,x 6,x 7,x 8,x 9,x 10,x 11,x 12,x 13,x 14,x 15,x 16,x 17]
theorem qgN(l:List UInt8)(c:UInt8)(hl:l.length<=cap)(hQ:Q (.int .i64 (Lib.indexByte l c)) H):PC Tryz.prog E 99 [.str l,.int .u8 (c.toNat:Int)] H Q:=by
 simp only[cap]at hl;refine qac Tryz.func99 rfl [] [] (by kernel_rfl) (fun hB=>?_);have fin:∀z:Int,Lib.indexByte l c=z->Q (.int .i64 z) H:=fun z hz=>hz▸hQ;simp[Tryz.ntmps99,Tryz.results99,List.replicate_succ];refine qaB (qsL l c H) (fun fr _=>l.length-(ai (aget fr 5)).toNat) ⟨rfl,0,by omega,(fun j hj=>by omega),friz⟩ ?_;rintro fr H' ⟨rfl,i,hi,hno,x,rfl⟩;by_cases h:i<l.length
 ·obtain⟨b,hb⟩:∃b,l[i]? =some b:=⟨_,zqD h⟩
  have hat:=qaq hb;have hw:IntKind.i64.wrap ((i:Int)+1)=i+1:=wiz;by_cases he:b=c
  ·subst he;simp[h,hat];exact aQz hB (h6:=(fin _ (qlz l b i hb hno)))
  ·have t1:((b.toNat:Int)==(c.toNat:Int))=false:=by
    rw[beq_eq_false_iff_ne];intro hh;exact he (UInt8.toNat_inj.1 (by omega))
   simp[h,hat,t1,hw];refine Klz ⟨rfl,i+1,by omega,(fun j hj=>?_),friz⟩;by_cases hji:j=i
   ·subst hji;rw[hb];intro e;cases e;exact he rfl
   ·exact hno j (by omega)
 ·simp[h];exact aQz hB (h6:=(fin _ (qly l c (fun j hj=>hno j (by omega)))))
def qrK(l:List UInt8)(c:Nat)(H:Hp)(fr:List AV)(H':Hp):Prop:=H'=H++[[.str [],.str []]]/\∃i:Nat,i<=c/\i<=128/\(l.take i).all qap=true/\∃x:Nat->AV,fr=[.str l,x 1,.ptr (some (H.length,0)),x 3,x 4,.int .i64 c,.int .i64 i,x 7,x 8,x 9,x 10,x 11,x 12,x 13,x 14,x 15,x 16,x 17,x 18,x 19,x 20,x 21,x 22,x 23,x 24,x 25,x 26,x 27,x 28,x 29,x 30,x 31,x 32,x 33,x 34,x 35,x 36,x 37,x 38,x 39,x 40,x 41,x 42,x 43,x 44,x 45,x 46,x 47,x 48,x 49,x 50,x 51,x 52,x 53,x 54,x 55,x 56,x 57,x 58,x 59,x 60,x 61,x 62,x 63,x 64,x 65,x 66,x 67,x 68,x 69,x 70,x 71,x 72,x 73,x 74,x 75,x 76,x 77,x 78,x 79,x 80,x 81,x 82]
def qrJ(l:List UInt8)(c:Nat)(H:Hp)(fr:List AV)(H':Hp):Prop:=H'=H++[[.str [],.str []]]/\∃i:Nat,i<=l.length/\c+1<=i/\fldB ((l.drop (c+1)).take (i-(c+1)))=true/\∃x:Nat->AV,fr=[.str l,x 1,.ptr (some (H.length,0)),x 3,x 4,.int .i64 c,x 6,.int .i64 i,x 8,x 9,x 10,x 11,x 12,x 13,x 14,x 15,x 16,x 17,x 18,x 19,x 20,x 21,x 22,x 23,x 24,x 25,x 26,x 27,x 28,x 29,x 30,x 31,x 32,x 33,x 34,x 35,x 36,x 37,x 38,x 39,x 40,x 41,x 42,x 43,x 44,x 45,x 46,x 47,x 48,x 49,x 50,x 51,x 52,x 53,x 54,x 55,x 56,x 57,x 58,x 59,x 60,x 61,x 62,x 63,x 64,x 65,x 66,x 67,x 68,x 69,x 70,x 71,x 72,x 73,x 74,x 75,x 76,x 77,x 78,x 79,x 80,x 81,x 82]
def qrI(l:List UInt8)(c:Nat)(H:Hp)(fr:List AV)(H':Hp):Prop:=H'=H++[[.str [],.str []]]/\∃i:Nat,i<=l.length/\c+1<=i/\((l.drop (c+1)).take (i-(c+1))).all qah=true/\∃x:Nat->AV,fr=[.str l,x 1,.ptr (some (H.length,0)),x 3,x 4,x 5,x 6,x 7,x 8,.int .i64 i,x 10,x 11,x 12,x 13,x 14,x 15,x 16,x 17,x 18,x 19,x 20,x 21,x 22,x 23,x 24,x 25,x 26,x 27,x 28,x 29,x 30,x 31,x 32,x 33,x 34,x 35,x 36,x 37,x 38,x 39,x 40,x 41,x 42,x 43,x 44,x 45,x 46,x 47,x 48,x 49,x 50,x 51,x 52,x 53,x 54,x 55,x 56,x 57,x 58,x 59,x 60,x 61,x 62,x 63,x 64,x 65,x 66,x 67,x 68,x 69,x 70,x 71,x 72,x 73,x 74,x 75,x 76,x 77,x 78,x 79,x 80,x 81,x 82]
theorem qqM(l:List UInt8)(hl:l.length<=cap)(hQ1:∀f,qbw l=some f->Q (.tup [.agg [.str f.name,.str f.value],.int .i64 0,.int .i64 0]) H)(hQ2:qbw l=none->∀pl e,e≠0->Q (.tup [.agg [.str [],.str []],.int .i64 pl,.int .i64 e]) H):
  PC Tryz.prog E 70 [.str l] H Q:=by
 refine qac Tryz.func70 rfl [] [] (by kernel_rfl) (fun hB=>?_);have hl':=hl;simp only[cap]at hl'
 have bad:∀(fr:List AV) (pl e:Int),qbw l=none->e≠0->aget fr 2= .ptr (some (H.length,0))->aget fr 3= .int .i64 pl->aget fr 4= .int .i64 e->qbU Tryz.prog [ResultVar.cell 2 89,ResultVar.tmp 3,ResultVar.tmp 4] H.length Q .ret fr (H++[[.str [],.str []]]):=fun fr pl e h0 he h2 h3 h4=>
  qab hB (v0:= .tup [.agg [.str [],.str []],.int .i64 pl,.int .i64 e]) (by simp[h2,h3,h4]) (qaa _) (by simp) (hQ2 h0 pl e he)
 obtain⟨c,hc⟩:=exz (run ncol l);have hcl:=qbh ncol l;rw[hc]at hcl;have hib:=qcq l;rw[hc]at hib
 have hcase:(∃a r,l=a::r/\qah a=true)\/(l=[]\/∃a r,l=a::r/\qah a=false):=by
  cases l with
  |nil=>exact .inr (.inl rfl)
  |cons a r=>
   cases hb:qah a
   ·exact .inr (.inr ⟨a,r,rfl,hb⟩)
   ·exact .inl ⟨a,r,rfl,hb⟩
 have key:∀fr:List AV,(∃x:Nat->AV,fr=[.str l,x 1,.ptr (some (H.length,0)),x 3,x 4,x 5,x 6,x 7,x 8,x 9,x 10,x 11,x 12,x 13,x 14,x 15,x 16,x 17,x 18,x 19,x 20,x 21,x 22,x 23,x 24,x 25,x 26,x 27,x 28,x 29,x 30,x 31,x 32,x 33,x 34,x 35,x 36,x 37,x 38,x 39,x 40,x 41,x 42,x 43,x 44,x 45,x 46,x 47,x 48,x 49,x 50,x 51,x 52,x 53,x 54,x 55,x 56,x 57,x 58,x 59,x 60,x 61,x 62,x 63,x 64,x 65,x 66,x 67,x 68,x 69,x 70,x 71,x 72,x 73,x 74,x 75,x 76,x 77,x 78,x 79,x 80,x 81,x 82])->True:=fun _ _=>trivial;rcases hcase with⟨a,r,rfl,hb⟩|hcase
 ·have hc0:qbw (a::r)=none:=by
   by_cases hz:c=0
   ·exact qeb (by rw[hc];exact hz)
   ·exact qeY (i:=0) (b:=a) (by omega) rfl (qht a hb)
  have hne:(a::r !=[])=true:=rfl;simp[Tryz.ntmps70,Tryz.results70,List.replicate_succ,hne];refine qa3 E _ _ a ?_;simp[hb];exact bad _ 0 63 hc0 (by decide) rfl rfl rfl
 case' inr=>
  rcases hcase with rfl|⟨a,r,hl0,hb⟩
  case' inl=>
   simp[Tryz.ntmps70,Tryz.results70,List.replicate_succ]
  case' inr=>
   have hne:(l !=[])=true:=by rw[hl0];rfl
   have hl1:0<l.length:=by rw[hl0];simp
   have hla:lat l 0=some a:=by rw[hl0];rfl
   simp[Tryz.ntmps70,Tryz.results70,List.replicate_succ,hne,hl1,hla];refine qa3 E _ _ a ?_;simp[hb];clear hne hla hl0
 rotate_left
 ·refine qgN E _ _ [] 58 (by simp[cap]) ?_;rw[show Lib.indexByte [] 58= -1 from rfl];simp;exact bad _ 0 62 (qes (by simp)) (by decide) rfl rfl rfl
 ·refine qgN E _ _ l 58 hl ?_;rw[hib];by_cases hcc:c<l.length;rotate_left
  ·have hno:=qes (l:=l) (by omega);simp[hcc];exact bad _ l.length 62 hno (by decide) rfl rfl rfl
  ·by_cases hz:c=0
   ·have hno:=qeb (l:=l) (by omega);subst hz;simp[hcc];exact bad _ 0 60 hno (by decide) rfl rfl rfl
   ·have hz2:((c:Int)==0)=false:=by simp;omega
    simp[hcc,hz,hz2];refine qaB (qrK l c H) (fun fr _=>c-(ai (aget fr 6)).toNat) ⟨rfl,0,by omega,by omega,by simp,friz⟩ ?_;rintro fr H' ⟨rfl,i,hi,hi2,hall,x,rfl⟩;by_cases h:i<c
    ·obtain⟨b,hbi⟩:∃b,l[i]? =some b:=⟨_,zqD (by omega)⟩
     have hat:=qaq hbi;by_cases h128:i=128
     ·have hno:=qhM (l:=l) (by omega);subst h128;have h':(128:Int)<c:=by omega
      simp[h'];exact bad _ 128 60 hno (by decide) rfl rfl rfl
     ·have h128':((i:Int)==128)=false:=by simp;omega
      have hw:IntKind.i64.wrap ((i:Int)+1)=i+1:=wiz;have hil:i<l.length:=by omega
      simp[h,h128',hat,hil];refine qdt E _ _ b ?_;cases hs:qap b with
      |false=>
       have hno:=qeY (by rw[hc];exact h) hbi hs;simp;exact bad _ i 60 hno (by decide) rfl rfl rfl
      |true=>
       simp[hw];exact Klz ⟨rfl,i+1,by omega,by omega,by rw[qbg qap l i b hbi,hall,hs];rfl,friz⟩
    ·obtain rfl:i=c:=by omega
     have hnm:qbK (l.take i)=true:=by
      have:l.take i≠[]:=by intro e;have h2:=congrArg List.length e;rw[zqJ]at h2;have h3:min i l.length=0:=h2;omega
      unfold qbK tokB;rw[hall,decide_eq_true (by rw[zqJ];omega)];simpa using this
     have hw:IntKind.i64.wrap ((i:Int)+1)=((i+1:Nat):Int):=by rw[qai (by omega) (by omega)];omega
     simp[hw,-Int.natCast_add];refine qaB (qrJ l i H) (fun fr _=>l.length-(ai (aget fr 7)).toNat) ⟨rfl,i+1,by omega,by omega,by simp[fldB],friz⟩ ?_;rintro fr H' ⟨rfl,k,hk,hk2,hfl,y,rfl⟩;by_cases hkl:k<l.length
     ·obtain⟨b,hbk⟩:∃b,l[k]? =some b:=⟨_,zqD hkl⟩
      have hat:=qaq hbk;have hwk:IntKind.i64.wrap ((k:Int)+1)=k+1:=wiz;have hdk:(l.drop (i+1))[k-(i+1)]? =some b:=by rw[zqN,show i+1+(k-(i+1))=k by omega];exact hbk
      simp[hkl,hat];refine qe2 E _ _ b ?_;cases hs:fcB b with
      |false=>
       have hno:qbw l=none:=qjs (by rw[hc];exact qez fcB _ _ b hdk hs);simp;exact bad _ k 61 hno (by decide) rfl rfl rfl
      |true=>
       simp[hwk];refine Klz ⟨rfl,k+1,by omega,by omega,?_,friz⟩;rw[show k+1-(i+1)=k-(i+1)+1 by omega,fldB,qbg fcB _ _ b hdk];rw[fldB]at hfl;rw[hfl,hs];rfl
     ·have hfl':fldB (l.drop (i+1))=true:=by
       rw[zqE (by rw[zqI];omega)]at hfl;exact hfl
      have hi1:i+1<=l.length:=by omega
      simp[hkl,hw,hi1,-Int.natCast_add];refine qcD E _ _ (l.drop (i+1)) (by rw[zqI];omega) ?_;have htl:=qgh (l.drop (i+1));rw[zqI]at htl;by_cases hbig:8192<(qaI (l.drop (i+1))).length
      ·have hno:qbw l=none:=qjt (by rw[hc];exact hbig);have hbig':(8192:Int)<(qaI (l.drop (i+1))).length:=by omega
       simp[hbig',hw,-Int.natCast_add];refine qaB (qrI l i H) (fun fr _=>l.length-(ai (aget fr 9)).toNat) ⟨rfl,i+1,by omega,by omega,by simp,friz⟩ ?_;rintro fr H' ⟨rfl,m,hm,hm2,hbl,z,rfl⟩
       have hml:m<l.length:=by
        apply Nat.lt_of_not_le;intro hge;rw[zqE (by rw[zqI];omega)]at hbl;rw[qiP _ hbl]at hbig;simp at hbig
       obtain⟨b,hbm⟩:∃b,l[m]? =some b:=⟨_,zqD hml⟩
       have hat:=qaq hbm;have hwm:IntKind.i64.wrap ((m:Int)+1)=m+1:=wiz;have hwm2:IntKind.i64.wrap ((m:Int)+8192)=m+8192:=wiz;have hdm:(l.drop (i+1))[m-(i+1)]? =some b:=by rw[zqN,show i+1+(m-(i+1))=m by omega];exact hbm
       simp[hml,hat];refine qa3 E _ _ b ?_;cases hs:qah b with
       |false=>
        simp[hwm2];exact bad _ (m+8192) 61 hno (by decide) rfl rfl rfl
       |true=>
        simp[hwm];refine Klz ⟨rfl,m+1,by omega,by omega,?_,friz⟩;rw[show m+1-(i+1)=m-(i+1)+1 by omega,qbg qah _ _ b hdm,hbl,hs];rfl
      ·have hbig':¬(8192:Int)<(qaI (l.drop (i+1))).length:=by omega
       have hf:qbw l=some ⟨l.take i,qaI (l.drop (i+1))⟩:=by
        unfold qbw;rw[hc,if_pos ⟨hcc,hnm,hfl',by omega⟩]
       have hil:i<=l.length:=by omega
       simp[hbig',hil];exact qab hB (v0:= .tup [.agg [.str (l.take i),.str (qaI (l.drop (i+1)))],.int .i64 0,.int .i64 0]) (by simp) (qaa _) (by simp) (hQ1 _ hf)
end
def qcJ(l:List UInt8)(a m:Nat):Int:=if a+run not10 (l.drop a)<l.length/\run not10 (l.drop a)<m then((a+run not10 (l.drop a):Nat):Int)else-1
def wkA(t e:Int)(d:Bool)(b:List UInt8)(z:AV):AV:= .agg [.int .i64 t,.int .i64 e,.bool d,.str b,z]
section
variable (E:Env)(H:Hp)(Q:AV->Hp->Prop)
def endInv(l:List UInt8)(a m:Nat)(H:Hp)(fr:List AV)(H':Hp):Prop:=H'=H/\∃n:Nat,a+n<=l.length/\n<=m/\((l.drop a).take n).all not10=true/\∃x:Nat->AV,fr=[.str l,.int .i64 a,.int .i64 m,x 3,x 4,x 5,x 6,.int .i64 (a+n:Nat),x 8,x 9,x 10,x 11,x 12,x 13,x 14,x 15,x 16,x 17,x 18,x 19,x 20,x 21,x 22,x 23,x 24,x 25,x 26]
theorem qjJ(l:List UInt8)(a m:Nat)(hl:l.length<=1000000000)(ha:a<=l.length)(hm:m<=1000000000)(hQ:Q (.int .i64 (qcJ l a m)) H):PC Tryz.prog E 129 [.str l,.int .i64 a,.int .i64 m] H Q:=by
 refine qac Tryz.func129 rfl [] [] (by kernel_rfl) (fun hB=>?_);simp[Tryz.ntmps129,Tryz.results129,List.replicate_succ];refine qaB (endInv l a m H) (fun fr _=>l.length-(ai (aget fr 7)).toNat) ⟨rfl,0,by omega,by omega,rfl,friz⟩ ?_;rintro fr H' ⟨rfl,n,hn,hnm,hall,x,rfl⟩;obtain⟨i,hi⟩:∃i,i=a+n:=⟨_,rfl⟩
 rw[<-hi]at hn⊢;have hw:IntKind.i64.wrap ((i:Int)+1)=i+1:=wiz;have hw2:IntKind.i64.wrap ((i:Int)-a)=n:=by rw[qai (by omega) (by omega)];omega
 by_cases h:i<l.length
 ·obtain⟨b,hb⟩:∃b,l[i]? =some b:=⟨_,zqD h⟩
  have hb2:(l.drop a)[n]? =some b:=by rw[zqN,<-hi];exact hb
  have hat:=qaq hb;by_cases hnm2:n<m
  ·by_cases h10:b=10
   ·subst h10;have hr:run not10 (l.drop a)=n:=qbn not10 _ n hall (by rw[zqI];omega) (fun c hc=>by rw[hb2]at hc;cases hc;rfl);have he:qcJ l a m=(i:Int):=by unfold qcJ;rw[hr,if_pos ⟨by omega,hnm2⟩,<-hi]
    rw[he]at hQ;simp[h,hw2,hnm2,hat];exact aQz hB (h6:=hQ)
   ·have t1:((b.toNat:Int)==10)=false:=qcZ b 10 (by omega) h10;simp[h,hw2,hnm2,hat,t1,hw];exact Klz ⟨rfl,n+1,by omega,by omega,by rw[qb0 not10 (l.drop a) n b hb2,hall];simp[not10,h10],qam (by simp;omega)⟩
  ·have he:qcJ l a m= -1:=by
    unfold qcJ;rw[if_neg];rintro⟨h1,h2⟩;have h3:=qle (p:=not10) (l:=l.drop a) (by rw[zqI];omega);obtain⟨c,h4,h5⟩:=h3;have:run not10 (l.drop a)<n:=by omega
    have h6:((l.drop a).take n)[run not10 (l.drop a)]? =some c:=by rw[zqG this];exact h4
    rw[qez not10 _ _ c h6 h5]at hall;cases hall
   rw[he]at hQ;simp[h,hw2,hnm2];exact aQz hB (h6:=hQ)
 ·have he:qcJ l a m= -1:=by
   have hr:run not10 (l.drop a)=n:=qbn not10 _ n hall (by rw[zqI];omega) (fun c hc=>by rw[zqN]at hc;have:=(zqC.1 hc).1;omega);unfold qcJ;rw[hr,if_neg];rintro⟨h1,h2⟩;omega
  rw[he]at hQ;simp[h];exact aQz hB (h6:=hQ)
variable (t e:Int)(d:Bool)(b:List UInt8)(z:AV)(z1:z.dis=z)(z2:z.free=true)(z3:Bnd H.length z)
include z1 z2 z3
theorem qbB(a:Nat)(e':Int)(ha:a<=1000000000)(hQ:Q (wkA (a+1:Nat) e' d b z) H):PC Tryz.prog E 131 [wkA t e d b z,.int .i64 a,.int .i64 e'] H Q:=by
 refine qac Tryz.func131 rfl [] [] (by kernel_rfl) (fun hB=>?_);have hw:IntKind.i64.wrap ((a:Int)+1)=((a+1:Nat):Int):=by rw[qai (by omega) (by omega)];omega
 simp[Tryz.ntmps131,Tryz.results131,List.replicate_succ,wkA,hw,z1,z2,-Int.natCast_add];exact qab hB (v0:=wkA (a+1:Nat) e' d b z) (by simp[wkA,z1,z2,-Int.natCast_add]) (qaa _) (by simp[wkA,z3]) hQ
theorem qko(l:List UInt8)(a n:Nat)(e':Int)(hl:l.length<=1000000000)(ha:a<=l.length)(hQ1:n<l.length-a->Q (wkA (a+n+1:Nat) e' d b z) H)(hQ2:l.length-a<=n->Q (wkA l.length e d b z) H):
  PC Tryz.prog E 130 [wkA t e d b z,.str l,.int .i64 a,.int .i64 n,.int .i64 e'] H Q:=by
 refine qac Tryz.func130 rfl [] [] (by kernel_rfl) (fun hB=>?_);have hw1:IntKind.i64.wrap ((l.length:Int)-a)=((l.length-a:Nat):Int):=by rw[qai (by omega) (by omega)];omega
 by_cases h:n<l.length-a
 ·have hw2:IntKind.i64.wrap ((a:Int)+n)=((a+n:Nat):Int):=by rw[qai (by omega) (by omega)];omega
  have h':(n:Int)<((l.length-a:Nat):Int):=by omega
  simp[Tryz.ntmps130,Tryz.results130,List.replicate_succ,wkA,hw1,hw2,h',z1,z2,-Int.natCast_add];refine qbB E _ _ t e d b z z1 z2 (z3.mono (by simp)) (a+n) e' (by omega) ?_;simp[wkA,z1,z2,-Int.natCast_add];exact qab hB (v0:=wkA (a+n+1:Nat) e' d b z) (by simp[wkA,z1,z2,-Int.natCast_add]) (qaa _) (by simp[wkA,z3]) (hQ1 h)
 ·have h':¬(n:Int)<((l.length-a:Nat):Int):=by omega
  simp[Tryz.ntmps130,Tryz.results130,List.replicate_succ,wkA,hw1,h',z1,z2,-Int.natCast_add];exact qab hB (v0:=wkA l.length e d b z) (by simp[wkA,z1,z2,-Int.natCast_add]) (qaa _) (by simp[wkA,z3]) (hQ2 (by omega))
end
section
variable (m r f:Int)
def szD(B:List UInt8)(a:Nat):Dec:=⟨m,r,f,.size,[],0,B,[],0,a,false,0⟩
def daD(B:List UInt8)(n:Int)(a:Nat):Dec:=⟨m,r,f,.data,[],n,B,[],0,a,false,0⟩
def phD(i:Nat)(B:List UInt8)(a:Nat):Dec:=⟨m,r,f,if i=0 then .first else if i=1 then .second else .size,[],0,B,[],0,a,false,0⟩
def trD(B:List UInt8)(T:List Fld)(sec:Nat)(a:Nat):Dec:=⟨m,r,f,.trailer,[],0,B,T,sec,a,false,0⟩
def Fw(s:List UInt8)(d:Dec)(a:Nat):Prop:=qav (newD m r f) s=((qav d (s.drop a)).1,(qav d (s.drop a)).2+a)
def Ends(s:List UInt8)(t:Nat)(e:Int)(dn:Bool)(B:List UInt8)(T:List Fld):Prop:=
 (qav (newD m r f) s).2=t/\(qav (newD m r f) s).1.err=e/\(qav (newD m r f) s).1.done=dn/\(qav (newD m r f) s).1.body=B/\(qav (newD m r f) s).1.trailers=T
variable {m r f}{s:List UInt8}{d d1:Dec}{a n:Nat}{b:UInt8}{B:List UInt8}{T:List Fld}{sec:Nat}
theorem fw_new:Fw m r f s (szD m r f [] 0) 0:=rfl
theorem Fw.step(h:Fw m r f s d a)(h1:qav d ((s.drop a).take n)=(d1,((s.drop a).take n).length))(hg:goD d1)(hb:s[a+n]? =some b):
  (goD (feed1 d1 b)->Fw m r f s (feed1 d1 b) (a+n+1))/\((feed1 d1 b).done=true\/(feed1 d1 b).err≠0->qav (newD m r f) s=(feed1 d1 b,a+n+1)):=by
 have hlt:=(zqC.1 hb).1;have hlen:((s.drop a).take n).length=n:=by rw[zqJ,zqI];omega
 have hs:s.drop a=(s.drop a).take n++b::s.drop (a+n+1):=by
  have h2:(s.drop a).drop n=b::s.drop (a+n+1):=by
   rw[List.drop_drop,List.drop_eq_getElem_cons hlt];rw[(zqC.1 hb).2]
  conv=>lhs;rw[<-List.take_append_drop n (s.drop a),h2]
 have hc:=qe8 _ d d1 (b::s.drop (a+n+1)) h1 hg;rw[<-hs,hlen]at hc;constructor
 ·intro hg2;unfold Fw at h⊢;rw[h,hc,qe7 _ hg2];simp;omega
 ·intro hst;unfold Fw at h;rw[h,hc,qmB _ hst];simp;omega
theorem Fw.all(h:Fw m r f s d a)(ha:a<=s.length)(h1:qav d (s.drop a)=(d1,(s.drop a).length)):Ends m r f s s.length d1.err d1.done d1.body d1.trailers:=by
 unfold Fw at h;rw[h1]at h;unfold Ends;rw[h];rw[zqI];exact⟨by simp only;omega,rfl,rfl,rfl,rfl⟩
theorem qex{t:Nat}(h:qav (newD m r f) s=(d1,t)):Ends m r f s t d1.err d1.done d1.body d1.trailers:=by
 unfold Ends;rw[h];exact⟨rfl,rfl,rfl,rfl,rfl⟩
theorem qcy{k:Nat}(h:k<=run not10 (s.drop a)):∀c∈(s.drop a).take k,c≠10:=by
 intro c hc;have:=List.all_eq_true.1 (qld h) c hc;simpa[not10]using this
theorem at10(hj:a+n<s.length)(hn:run not10 (s.drop a)=n):s[a+n]? =some 10:=by
 obtain⟨c,h1,h2⟩:=qle (p:=not10) (l:=s.drop a) (by rw[zqI];omega);rw[hn,zqN]at h1;simp[not10]at h2;rw[h1,h2]
theorem qmD(d:Dec)(b:UInt8)(hs:d.st= .size)(hb:b≠10)(hl:d.line.length=255):feed1 d b={d with line:=d.line++[b],total:=d.total+1,err:=100}:=by
 unfold feed1 qb5;simp only[hs,qhe,hb,if_pos,ne_eq,not_false_eq_true];rw[if_pos (by simp;omega)]
theorem qr8(h:Fw m r f s (szD m r f B a) a)(hl:a+255<s.length)(hn:256<=run not10 (s.drop a)):Ends m r f s (a+256) 100 false B []:=by
 obtain⟨b,hb⟩:∃b,s[a+255]? =some b:=⟨_,zqD hl⟩
 have hlen:((s.drop a).take 255).length=255:=by rw[zqJ,zqI];omega
 have hr:=qfZ ((s.drop a).take 255) (szD m r f B a) rfl ⟨rfl,rfl⟩ (qcy (by omega)) (by simp only[szD,hlen];decide)
 have hbn:b≠10:=by
  have:=run_at (p:=not10) (l:=s.drop a) (k:=255) (by omega) (by rw[zqN];exact hb);simpa[not10]using this
 have h1:=qmD {szD m r f B a with line:=(szD m r f B a).line++(s.drop a).take 255,total:=(szD m r f B a).total+((s.drop a).take 255).length} b rfl hbn (by simp only[szD,List.nil_append];exact hlen);have hst:=h.step hr ⟨rfl,rfl⟩ hb;rw[h1]at hst;exact qex (hst.2 (.inr (by show(100:Int)≠0;decide)))
theorem qr9(h:Fw m r f s (szD m r f B a) a)(ha:a<=s.length)(hl:s.length-a<=255)(hn:s.length-a<=run not10 (s.drop a)):Ends m r f s s.length 0 false B []:=by
 have hr:=qfZ (s.drop a) (szD m r f B a) rfl ⟨rfl,rfl⟩ (by
  have:=qcy (s:=s) (a:=a) (k:=s.length-a) hn
  rwa[zqE (by rw[zqI];omega)]at this) (by rw[zqI];simp only[szD,List.length_nil];omega)
 exact h.all ha hr
section
variable (h:Fw m r f s (szD m r f B a) a)(hj:a+n<s.length)(hn:run not10 (s.drop a)=n)(h256:n<256)
include h hj hn h256
theorem qiT:(goD (feed1 {szD m r f B a with line:=(s.drop a).take n,total:=a+n} 10)->Fw m r f s (feed1 {szD m r f B a with line:=(s.drop a).take n,total:=a+n} 10) (a+n+1))/\
  ((feed1 {szD m r f B a with line:=(s.drop a).take n,total:=a+n} 10).done=true\/(feed1 {szD m r f B a with line:=(s.drop a).take n,total:=a+n} 10).err≠0->qav (newD m r f) s=(feed1 {szD m r f B a with line:=(s.drop a).take n,total:=a+n} 10,a+n+1)):=by
 have hlen:((s.drop a).take n).length=n:=by rw[zqJ,zqI];omega
 have hr:=qfZ ((s.drop a).take n) (szD m r f B a) rfl ⟨rfl,rfl⟩ (qcy (by omega)) (by rw[hlen];simp only[szD,List.length_nil];omega)
 have he:({szD m r f B a with line:=(szD m r f B a).line++(s.drop a).take n,total:=(szD m r f B a).total+((s.drop a).take n).length}:Dec)={szD m r f B a with line:=(s.drop a).take n,total:=a+n}:=by
  rw[hlen];rfl
 rw[he]at hr;exact h.step hr ⟨rfl,rfl⟩ (at10 hj hn)
theorem qnu(hx:endL ((s.drop a).take n++[10])=none):Ends m r f s (a+n+1) 100 false B []:=by
 have h1:feed1 {szD m r f B a with line:=(s.drop a).take n,total:=a+n} 10={szD m r f B a with line:=[],total:=a+n+1,err:=100}:=by
  rw[qdh _ rfl];simp only[szD];rw[hx];rfl
 have:=qiT h hj hn h256;rw[h1]at this;exact qex (this.2 (.inr (by simp)))
variable {l:List UInt8}(hx:endL ((s.drop a).take n++[10])=some l)
include hx
theorem sz_bad(he:(qak l).2.2≠0):Ends m r f s (a+n+1) (qak l).2.2 false B []:=by
 have h1:feed1 {szD m r f B a with line:=(s.drop a).take n,total:=a+n} 10={szD m r f B a with line:=[],total:=a+n+1,err:=(qak l).2.2}:=by
  rw[qdh _ rfl];simp only[szD];rw[hx];simp only[qmd];rw[if_pos he]
 have:=qiT h hj hn h256;rw[h1]at this;exact qex (this.2 (.inr he))
variable (he:(qak l).2.2=0)
include he
theorem qsa(hm:m-B.length<(qak l).1):Ends m r f s (a+n+1) 102 false B []:=by
 have h1:feed1 {szD m r f B a with line:=(s.drop a).take n,total:=a+n} 10={szD m r f B a with line:=[],total:=a+n+1,err:=102}:=by
  rw[qdh _ rfl];simp only[szD];rw[hx];simp only[qmd];rw[if_neg (by simpa using he),if_pos hm]
 have:=qiT h hj hn h256;rw[h1]at this;exact qex (this.2 (.inr (by simp)))
theorem qp2(hm:¬m-B.length<(qak l).1)(h0:(qak l).1=0):Fw m r f s (trD m r f B [] 0 (a+n+1)) (a+n+1):=by
 have h1:feed1 {szD m r f B a with line:=(s.drop a).take n,total:=a+n} 10=trD m r f B [] 0 (a+n+1):=by
  rw[qdh _ rfl];simp only[szD];rw[hx];simp only[qmd];rw[if_neg (by simpa using he),if_neg hm,if_pos h0];rfl
 have:=qiT h hj hn h256;rw[h1]at this;exact this.1 ⟨rfl,rfl⟩
theorem qsb(hm:¬m-B.length<(qak l).1)(h0:(qak l).1≠0):Fw m r f s (daD m r f B (qak l).1 (a+n+1)) (a+n+1):=by
 have h1:feed1 {szD m r f B a with line:=(s.drop a).take n,total:=a+n} 10=daD m r f B (qak l).1 (a+n+1):=by
  rw[qdh _ rfl];simp only[szD];rw[hx];simp only[qmd];rw[if_neg (by simpa using he),if_neg hm,if_neg h0];rfl
 have:=qiT h hj hn h256;rw[h1]at this;exact this.1 ⟨rfl,rfl⟩
end
theorem qs3{k:Int}(h:Fw m r f s (daD m r f B k a) a)(ha:a<=s.length)(hk:((s.length-a:Nat):Int)<k):Ends m r f s s.length 0 false (B++s.drop a) []:=
 h.all ha (qib (s.drop a) (daD m r f B k a) rfl ⟨rfl,rfl⟩ (by rw[zqI];exact hk))
theorem qs4{k:Nat}(h:Fw m r f s (daD m r f B (k:Int) a) a)(hk:0<k)(hl:a+k<=s.length):Fw m r f s (phD m r f 0 (B++(s.drop a).take k) (a+k)) (a+k):=by
 have hlen:((s.drop a).take k).length=k:=by rw[zqJ,zqI];omega
 have h1:=qor ((s.drop a).take k) (daD m r f B (k:Int) a) rfl ⟨rfl,rfl⟩ (by intro e;rw[e]at hlen;simp at hlen;omega) (by rw[hlen];rfl);have h2:=qe8 _ _ _ (s.drop (a+k)) h1 ⟨rfl,rfl⟩;rw[show(s.drop a).take k++s.drop (a+k)=s.drop a by rw[<-List.drop_drop,List.take_append_drop],hlen]at h2;unfold Fw at h⊢;rw[h,h2];simp only[daD,phD,if_pos];refine Prod.ext rfl ?_;show _+k+a=_+(a+k)
 omega
theorem qss{i:Nat}(h:Fw m r f s (phD m r f i B a) a)(ha:a=s.length):Ends m r f s s.length 0 false B []:=by
 refine h.all (by omega) (d1:=phD m r f i B a) ?_;rw[List.drop_of_length_le (by omega)];rfl
theorem Fw.one(h:Fw m r f s d a)(hg:goD d)(hb:s[a]? =some b):(goD (feed1 d b)->Fw m r f s (feed1 d b) (a+1))/\((feed1 d b).done=true\/(feed1 d b).err≠0->qav (newD m r f) s=(feed1 d b,a+1)):=
 h.step (n:=0) (by simp[qav]) hg hb
theorem ph_bad{i:Nat}(hi:i<2)(h:Fw m r f s (phD m r f i B a) a)(hb:s[a]? =some b)(hne:b≠if i=0 then 13 else 10):Ends m r f s (a+1) 100 false B []:=by
 have h1:feed1 (phD m r f i B a) b={phD m r f i B a with total:=a+1,err:=100}:=by
  rcases(by omega:i=0\/i=1)with rfl|rfl
  ·simp at hne;simp[feed1,qb5,phD,qe6,hne]
  ·simp at hne;simp[feed1,qb5,phD,qdr,hne]
 have:=h.one ⟨rfl,rfl⟩ hb;rw[h1]at this;exact qex (this.2 (.inr (by simp)))
theorem ph_go{i:Nat}(hi:i<2)(h:Fw m r f s (phD m r f i B a) a)(hb:s[a]? =some (if i=0 then 13 else 10)):Fw m r f s (phD m r f (i+1) B (a+1)) (a+1):=by
 have h1:feed1 (phD m r f i B a) (if i=0 then 13 else 10)=phD m r f (i+1) B (a+1):=by
  rcases(by omega:i=0\/i=1)with rfl|rfl
  ·simp[feed1,qb5,phD,qe6]
  ·simp[feed1,qb5,phD,qdr]
 have:=h.one ⟨rfl,rfl⟩ hb;rw[h1]at this;exact this.1 ⟨rfl,rfl⟩
theorem ph_two:phD m r f 2 B a=szD m r f B a:=rfl
theorem qj7(d:Dec)(l:List UInt8)(hl:l≠[])(hf:d.fields<=d.trailers.length):qdJ d (some l)=({d with section_:=d.section_+1,line:=[]},104):=by
 simp only[qdJ];rw[if_neg hl,if_pos hf]
theorem ql8(d:Dec)(l:List UInt8)(hl:l≠[])(hf:¬d.fields<=d.trailers.length)(hb:qbw l=none\/∃g,qbw l=some g/\mayB g.name=false):qdJ d (some l)=({d with section_:=d.section_+1,line:=[]},101):=by
 simp only[qdJ];rw[if_neg hl,if_neg hf];rcases hb with hb|⟨g,hb,hg⟩
 ·rw[hb]
 ·rw[hb];simp[hg]
theorem qnn(d:Dec)(l:List UInt8)(hl:l≠[])(hf:¬d.fields<=d.trailers.length){g:Fld}(hb:qbw l=some g)(hg:mayB g.name=true):qdJ d (some l)=({d with section_:=d.section_+1,line:=[],trailers:=d.trailers++[g]},0):=by
 simp only[qdJ];rw[if_neg hl,if_neg hf,hb];simp[hg]
theorem qno{k:Nat}(h:Fw m r f s (trD m r f B T sec a) a)(hk:r=(sec+k:Nat))(hl:a+k<s.length)(hn:k<=run not10 (s.drop a)):Ends m r f s (a+k+1) 104 false B T:=by
 obtain⟨b,hb⟩:∃b,s[a+k]? =some b:=⟨_,zqD hl⟩
 have hlen:((s.drop a).take k).length=k:=by rw[zqJ,zqI];omega
 have hr:=qeO ((s.drop a).take k) (trD m r f B T sec a) rfl ⟨rfl,rfl⟩ (qcy (by omega)) (by rw[hlen];simp only[trD];omega)
 have h1:feed1 {trD m r f B T sec a with line:=(trD m r f B T sec a).line++(s.drop a).take k,section_:=(trD m r f B T sec a).section_+((s.drop a).take k).length,total:=(trD m r f B T sec a).total+((s.drop a).take k).length} b={trD m r f B T sec a with line:=(s.drop a).take k,section_:=sec+k,total:=a+k+1,err:=104}:=by
  unfold feed1 qb5;simp only[trD,qbE,hlen];rw[if_pos (by omega)];rfl
 have hst:=h.step hr ⟨rfl,rfl⟩ hb;rw[h1]at hst;exact qex (hst.2 (.inr (by simp)))
theorem qr5(h:Fw m r f s (trD m r f B T sec a) a)(ha:a<=s.length)(hl:((sec+(s.length-a):Nat):Int)<=r)(hn:s.length-a<=run not10 (s.drop a)):Ends m r f s s.length 0 false B T:=by
 have hr:=qeO (s.drop a) (trD m r f B T sec a) rfl ⟨rfl,rfl⟩ (by
  have:=qcy (s:=s) (a:=a) (k:=s.length-a) hn
  rwa[zqE (by rw[zqI];omega)]at this) (by rw[zqI];simp only[trD];omega)
 exact h.all ha hr
section
variable (h:Fw m r f s (trD m r f B T sec a) a)(hj:a+n<s.length)(hn:run not10 (s.drop a)=n)(hr:((sec+n:Nat):Int)<r)
include h hj hn hr
theorem qrv:(goD (feed1 {trD m r f B T sec a with line:=(s.drop a).take n,section_:=sec+n,total:=a+n} 10)->Fw m r f s (feed1 {trD m r f B T sec a with line:=(s.drop a).take n,section_:=sec+n,total:=a+n} 10) (a+n+1))/\
  ((feed1 {trD m r f B T sec a with line:=(s.drop a).take n,section_:=sec+n,total:=a+n} 10).done=true\/(feed1 {trD m r f B T sec a with line:=(s.drop a).take n,section_:=sec+n,total:=a+n} 10).err≠0->qav (newD m r f) s=(feed1 {trD m r f B T sec a with line:=(s.drop a).take n,section_:=sec+n,total:=a+n} 10,a+n+1)):=by
 have hlen:((s.drop a).take n).length=n:=by rw[zqJ,zqI];omega
 have hr:=qeO ((s.drop a).take n) (trD m r f B T sec a) rfl ⟨rfl,rfl⟩ (qcy (by omega)) (by rw[hlen];simp only[trD];omega)
 have he:({trD m r f B T sec a with line:=(trD m r f B T sec a).line++(s.drop a).take n,section_:=(trD m r f B T sec a).section_+((s.drop a).take n).length,total:=(trD m r f B T sec a).total+((s.drop a).take n).length}:Dec)={trD m r f B T sec a with line:=(s.drop a).take n,section_:=sec+n,total:=a+n}:=by
  rw[hlen];rfl
 rw[he]at hr;exact h.step hr ⟨rfl,rfl⟩ (at10 hj hn)
theorem qh8{e:Int}{dn:Bool}{T':List Fld}(hx:(qdJ {trD m r f B T sec a with line:=(s.drop a).take n,section_:=sec+n,total:=a+n+1} (endL ((s.drop a).take n++[10]))).2=e)(hd:(qdJ {trD m r f B T sec a with line:=(s.drop a).take n,section_:=sec+n,total:=a+n+1} (endL ((s.drop a).take n++[10]))).1.done=dn)
  (hb:(qdJ {trD m r f B T sec a with line:=(s.drop a).take n,section_:=sec+n,total:=a+n+1} (endL ((s.drop a).take n++[10]))).1.body=B) (ht:(qdJ {trD m r f B T sec a with line:=(s.drop a).take n,section_:=sec+n,total:=a+n+1} (endL ((s.drop a).take n++[10]))).1.trailers=T') (hst:dn=true\/e≠0):Ends m r f s (a+n+1) e dn B T':=by
 have h1:=qgQ {trD m r f B T sec a with line:=(s.drop a).take n,section_:=sec+n,total:=a+n} rfl hr;have h2:=(qrv h hj hn hr).2 (by rw[h1];simp only;rw[hx,hd];exact hst);rw[h1]at h2;have:=qex h2;simp only at this;rw[hx,hd,hb,ht]at this;exact this
theorem qnp(hx:endL ((s.drop a).take n++[10])=none):Ends m r f s (a+n+1) 101 false B T:=by
 refine qh8 h hj hn hr ?_ ?_ ?_ ?_ (.inr (by simp))<;>rw[hx]<;>rfl
theorem qr7(hx:endL ((s.drop a).take n++[10])=some []):Ends m r f s (a+n+1) 0 true B T:=by
 refine qh8 h hj hn hr ?_ ?_ ?_ ?_ (.inl rfl)<;>rw[hx]<;>rfl
variable {l:List UInt8}(hx:endL ((s.drop a).take n++[10])=some l)(hl:l≠[])
include hx hl
theorem qr6(hf:f<=T.length):Ends m r f s (a+n+1) 104 false B T:=by
 refine qh8 h hj hn hr ?_ ?_ ?_ ?_ (.inr (by simp))<;>rw[hx,qj7 _ l hl hf]<;>rfl
variable (hf:¬f<=T.length)
include hf
theorem qrw(hb:qbw l=none\/∃g,qbw l=some g/\mayB g.name=false):Ends m r f s (a+n+1) 101 false B T:=by
 refine qh8 h hj hn hr ?_ ?_ ?_ ?_ (.inr (by simp))<;>rw[hx,ql8 _ l hl hf hb]<;>rfl
theorem tr_go{g:Fld}(hb:qbw l=some g)(hg:mayB g.name=true):Fw m r f s (trD m r f B (T++[g]) (sec+n+1) (a+n+1)) (a+n+1):=by
 have h1:=qgQ {trD m r f B T sec a with line:=(s.drop a).take n,section_:=sec+n,total:=a+n} rfl hr
 have h3:feed1 {trD m r f B T sec a with line:=(s.drop a).take n,section_:=sec+n,total:=a+n} 10=trD m r f B (T++[g]) (sec+n+1) (a+n+1):=by
  rw[h1];have:=qnn {trD m r f B T sec a with line:=(s.drop a).take n,section_:=sec+n,total:=a+n+1} l hl hf hb hg;rw[<-hx]at this;have e:∀(p:Dec×Int) (q:Dec×Int),p=q->({p.1 with err:=p.2}:Dec)={q.1 with err:=q.2}:=fun p q h=>h▸rfl;exact e _ _ this
 have:=(qrv h hj hn hr).1;rw[h3]at this;exact this ⟨rfl,rfl⟩
end
end
section
variable (E:Env)(H:Hp)(Q:AV->Hp->Prop)
def trInv(m r f:Int)(s:List UInt8)(fm:Nat)(B:List UInt8)(H:Hp)(fr:List AV)(H':Hp):Prop:=
 ∃(J:Hp) (a:Nat) (T:List Fld),H'=H++[.int .i64 0,.int .i64 0,.bool false,.str B,.sl true 2 (flds T)]::[.int .i64 0,.int .i64 0,.bool false,.str [],.nil]::J/\fm<=a/\a<=s.length/\((a-fm:Nat):Int)<=r/\T.length<=a-fm/\Fw m r f s (trD m r f B T (a-fm) a) a/\
  ∃x:Nat->AV,fr=[x 0,.str s,.int .i64 fm,.int .i64 r,.int .i64 f,.ptr (some (H.length,0)),x 6,x 7,x 8,x 9,.ptr (some (H.length+1,0)),.int .i64 a,x 12,x 13,x 14,x 15,x 16,x 17,x 18,x 19,x 20,x 21,x 22,x 23,x 24,x 25,x 26,x 27,x 28,x 29,x 30,x 31,x 32,x 33,x 34,x 35,x 36,x 37,x 38,x 39,x 40,x 41,x 42,x 43,x 44,x 45,x 46,x 47,x 48,x 49,x 50,x 51,x 52,x 53,x 54,x 55,x 56,x 57,x 58,x 59,x 60,x 61,x 62,x 63,x 64,x 65,x 66,x 67,x 68,x 69,x 70,x 71,x 72,x 73,x 74,x 75,x 76,x 77,x 78,x 79,x 80,x 81,x 82,x 83,x 84,x 85,x 86,x 87,x 88,x 89,x 90,x 91,x 92,x 93,x 94]
theorem qfc{N:Nat}(T:List Fld):Bnd N (.sl false 2 (flds T)):=qbZ _ _ T
theorem qpY(m f:Int)(r:Nat)(s:List UInt8)(fm:Nat)(B:List UInt8)(hs:s.length<=1000000000)(hfm:fm<=s.length)(h0:Fw m r f s (trD m r f B [] 0 fm) fm)
  (hQ:∀t e dn T,Ends m r f s t e dn B T->Q (wkA t e dn B (.sl false 2 (flds T))) H):
  PC Tryz.prog E 133 [wkA 0 0 false B .nil,.str s,.int .i64 fm,.int .i64 r,.int .i64 f] H Q:=by
 refine qac Tryz.func133 rfl [88] [] (by kernel_rfl) (fun hB=>?_)
 have fin:∀(fr:List AV) (J:Hp) (c:List AV) (t:Nat) e dn T,Ends m r f s t e dn B T->aget fr 10= .ptr (some (H.length+1,0))->qbU Tryz.prog [ResultVar.cell 10 153] H.length Q .ret fr (H++c::[.int .i64 t,.int .i64 e,.bool dn,.str B,.sl false 2 (flds T)]::J):=fun fr J c t e dn T he h10=>by
  refine qab (J:=c::[.int .i64 t,.int .i64 e,.bool dn,.str B,.sl false 2 (flds T)]::J) hB (v0:=wkA t e dn B (.sl false 2 (flds T))) ?_ (qaa _) (by simp[wkA,qfc]) (hQ t e dn T he);simp[h10,wkA]
 simp[Tryz.ntmps133,Tryz.results133,List.replicate_succ,wkA];refine qkY H.length _ 4 2 (by simp;rfl) (by rfl) ?_;simp only[List.set_cons_succ,List.set_cons_zero];refine qaB (trInv m r f s fm B H) (fun fr _=>s.length-(ai (aget fr 11)).toNat) ⟨[],fm,[],by simp[flds],by omega,hfm,by omega,by simp,by rw[Nat.sub_self];exact h0,friz⟩ ?_;rintro fr H' ⟨J,a,T,rfl,ha,hal,har,hT,hfw,x,rfl⟩;obtain⟨n,hn⟩:=exz (run not10 (s.drop a));have hnl:=qbh not10 (s.drop a);rw[hn,zqI]at hnl;simp;refine qjJ E _ _ s a s.length hs hal hs ?_;by_cases hj:a+n<s.length
 ·have hea:qcJ s a s.length=((a+n:Nat):Int):=by unfold qcJ;rw[hn,if_pos ⟨hj,by omega⟩]
  rw[hea];obtain⟨j,hjj⟩:∃j,j=a+n:=⟨_,rfl⟩
  rw[<-hjj];have hw1:IntKind.i64.wrap ((j:Int)-fm)=((j-fm:Nat):Int):=by rw[qai (by omega) (by omega)];omega
  by_cases hroom:r<=j-fm
  ·have hr':(r:Int)<=((j-fm:Nat):Int):=by omega
   simp[hw1,hr'];refine qko E _ _ 0 0 false B (.sl false 2 (flds T)) rfl rfl (qfc T) s fm r 104 hs hfm (fun hlt=>?_) (fun hge=>by omega);have h1:=qno (k:=r-(a-fm)) hfw (by omega) (by omega) (by omega);rw[show a+(r-(a-fm))+1=fm+r+1 by omega]at h1;simp[wkA,-Int.natCast_add];exact fin _ _ _ _ _ _ _ h1 rfl
  ·have hr':¬(r:Int)<=((j-fm:Nat):Int):=by omega
   have hsec:(((a-fm)+n:Nat):Int)<r:=by omega
   have hend:=qjK s a n (by omega);by_cases hz:n=0
   ·have hja:j=a:=by omega
    rw[if_pos (.inl hz)]at hend;have h1:=qnp hfw hj hn hsec hend;rw[<-hjj]at h1;have e0:((j:Int)==a)=true:=by simp;omega
    simp[hw1,hr',e0];refine qbB E _ _ 0 0 false B (.sl false 2 (flds T)) rfl rfl (qfc T) j 101 (by omega) ?_;simp[wkA,-Int.natCast_add];exact fin _ _ _ _ _ _ _ h1 rfl
   ·obtain⟨j1,hj1⟩:∃j1,j=j1+1:=⟨j-1,by omega⟩
    have hw3:IntKind.i64.wrap ((j:Int)-1)=(j1:Int):=by rw[qai (by omega) (by omega)];omega
    have e0:((j:Int)==a)=false:=by simp;omega
    obtain⟨c,hc⟩:∃c,s[j1]? =some c:=⟨_,zqD (by omega)⟩
    have hat:=qaq hc;have hj1l:j1<s.length:=by omega
    by_cases h13:c=13
    ·subst h13;rw[show a+n-1=j1 by omega,if_neg (by rw[hc];simp;exact hz),show n-1=j1-a by omega]at hend;obtain⟨ln,hln⟩:=exz ((s.drop a).take (j1-a));have hlnl:ln.length<=s.length:=by rw[<-hln,zqJ,zqI];omega
     rw[hln]at hend;have haj:a<=j1:=by omega
     have hjl:j1<=s.length:=by omega
     by_cases hle:ln=[]
     ·subst hle;have h1:=qr7 hfw hj hn hsec hend;have hw4:IntKind.i64.wrap ((j:Int)+1)=((a+n+1:Nat):Int):=by rw[qai (by omega) (by omega)];omega
      simp[hw1,hr',e0,hw3,hat,hj1l,hln,haj,hjl,hw4,-Int.natCast_add];exact fin _ _ _ _ _ _ _ h1 rfl
     ·have hle2:(ln==[])=false:=beq_eq_false_iff_ne.2 hle;by_cases hf:f<=T.length
      ·have h1:=qr6 hfw hj hn hsec hend hle hf;rw[<-hjj]at h1;simp[hw1,hr',e0,hw3,hat,hj1l,hln,haj,hjl,hle2,hf];refine qbB E _ _ 0 0 false B (.sl false 2 (flds T)) rfl rfl (qfc T) j 104 (by omega) ?_;simp[wkA,-Int.natCast_add];exact fin _ _ _ _ _ _ _ h1 rfl
      ·simp[hw1,hr',e0,hw3,hat,hj1l,hln,haj,hjl,hle2,hf];refine qqM E _ _ ln (by simp only[cap];omega) (fun g hg=>?_) (fun hno pl e he=>?_)
       ·have hgn:g.name.length<=cap:=by
         unfold qbw at hg;split at hg
         ·cases hg;simp only[zqJ,cap];omega
         ·cases hg
        simp;refine qmi E _ _ g.name hgn ?_;cases hmt:mayB g.name with
        |true=>
         have h1:=tr_go hfw hj hn hsec hend hle hf hg hmt;have hw4:IntKind.i64.wrap ((j:Int)+1)=((j+1:Nat):Int):=by rw[qai (by omega) (by omega)];omega
         have m3:T.length+1<=maxLen:=by unfold maxLen;omega
         have m4:(T.length+1)*32<=140737488355328:=by omega
         simp[m3,m4,qdV,hw4,-Int.natCast_add];refine Klz ⟨_,j+1,T++[g],by simp;rfl,by omega,by omega,by omega,by simp;omega,?_,friz⟩;rw[show a-fm+n+1=j+1-fm by omega,show a+n+1=j+1 by omega]at h1;exact h1
        |false=>
         have h1:=qrw hfw hj hn hsec hend hle hf (.inr ⟨g,hg,hmt⟩);rw[<-hjj]at h1;simp;refine qbB E _ _ 0 0 false B (.sl false 2 (flds T)) rfl rfl (qfc T) j 101 (by omega) ?_;simp[wkA,-Int.natCast_add];exact fin _ _ _ _ _ _ _ h1 rfl
       ·have h1:=qrw hfw hj hn hsec hend hle hf (.inl hno);rw[<-hjj]at h1;have he2:(e !=0)=true:=by simpa using he
        simp[he2];refine qbB E _ _ 0 0 false B (.sl false 2 (flds T)) rfl rfl (qfc T) j 101 (by omega) ?_;simp[wkA,-Int.natCast_add];exact fin _ _ _ _ _ _ _ h1 rfl
    ·rw[show a+n-1=j1 by omega,if_pos (.inr (by rw[hc];simpa using h13))]at hend;have h1:=qnp hfw hj hn hsec hend;rw[<-hjj]at h1;have t1:((c.toNat:Int)==13)=false:=qcZ c 13 (by omega) h13;simp[hw1,hr',e0,hw3,hat,hj1l,t1,bne];refine qbB E _ _ 0 0 false B (.sl false 2 (flds T)) rfl rfl (qfc T) j 101 (by omega) ?_;simp[wkA,-Int.natCast_add];exact fin _ _ _ _ _ _ _ h1 rfl
 ·have hea:qcJ s a s.length= -1:=by unfold qcJ;rw[hn,if_neg (by omega)]
  rw[hea];simp;refine qko E _ _ 0 0 false B (.sl false 2 (flds T)) rfl rfl (qfc T) s fm r 104 hs hfm (fun hlt=>?_) (fun hge=>?_)
  ·have h1:=qno (k:=r-(a-fm)) hfw (by omega) (by omega) (by omega);rw[show a+(r-(a-fm))+1=fm+r+1 by omega]at h1;simp[wkA,-Int.natCast_add];exact fin _ _ _ _ _ _ _ h1 rfl
  ·have h1:=qr5 hfw hal (by omega) (by omega);simp[wkA,-Int.natCast_add];exact fin _ _ _ _ _ _ _ h1 rfl
end
section
variable (E:Env)(H:Hp)(Q:AV->Hp->Prop)
def wkInv(m r f:Int)(s:List UInt8)(H:Hp)(fr:List AV)(H':Hp):Prop:=
 ∃(a:Nat) (B:List UInt8),H'=H++[[.int .i64 0,.int .i64 0,.bool false,.str [],.nil],[.int .i64 0,.int .i64 0,.bool false,.str B,.nil]]/\a<=s.length/\B.length<=a/\Fw m r f s (szD m r f B a) a/\
  ∃x:Nat->AV,fr=[.str s,.int .i64 m,.int .i64 r,.int .i64 f,x 4,x 5,x 6,x 7,.ptr (some (H.length,0)),.ptr (some (H.length+1,0)),.int .i64 a,x 11,x 12,x 13,x 14,x 15,x 16,x 17,x 18,x 19,x 20,x 21,x 22,x 23,x 24,x 25,x 26,x 27,x 28,x 29,x 30,x 31,x 32,x 33,x 34,x 35,x 36,x 37,x 38,x 39,x 40,x 41,x 42,x 43,x 44,x 45,x 46,x 47,x 48,x 49,x 50,x 51,x 52,x 53,x 54,x 55,x 56,x 57,x 58,x 59,x 60,x 61,x 62,x 63,x 64,x 65,x 66,x 67,x 68,x 69,x 70,x 71,x 72,x 73,x 74,x 75,x 76,x 77,x 78,x 79,x 80,x 81,x 82,x 83,x 84,x 85,x 86,x 87,x 88,x 89,x 90,x 91,x 92,x 93,x 94,x 95,x 96,x 97,x 98,x 99,x 100,x 101,x 102,x 103,x 104,x 105,x 106,x 107,x 108,x 109,x 110,x 111,x 112,x 113,x 114,x 115,x 116,x 117,x 118,x 119,x 120,x 121,x 122,x 123,x 124,x 125,x 126,x 127,x 128,x 129]
def wkInv2(m r f:Int)(s:List UInt8)(a0:Nat)(B:List UInt8)(H:Hp)(fr:List AV)(H':Hp):Prop:=
 ∃(i a:Nat),H'=H++[[.int .i64 0,.int .i64 0,.bool false,.str [],.nil],[.int .i64 0,.int .i64 0,.bool false,.str B,.nil]]/\i<=2/\a=a0+i/\a<=s.length/\B.length<=a/\Fw m r f s (phD m r f i B a) a/\
  ∃x:Nat->AV,fr=[.str s,.int .i64 m,.int .i64 r,.int .i64 f,x 4,x 5,x 6,x 7,.ptr (some (H.length,0)),.ptr (some (H.length+1,0)),.int .i64 a,x 11,x 12,x 13,x 14,x 15,x 16,x 17,x 18,x 19,x 20,x 21,x 22,x 23,x 24,x 25,x 26,x 27,x 28,x 29,x 30,x 31,x 32,x 33,x 34,x 35,x 36,x 37,x 38,x 39,x 40,x 41,x 42,x 43,x 44,x 45,x 46,x 47,x 48,x 49,x 50,x 51,x 52,x 53,x 54,x 55,x 56,x 57,x 58,x 59,x 60,x 61,x 62,x 63,x 64,x 65,x 66,x 67,x 68,x 69,x 70,x 71,x 72,x 73,x 74,x 75,x 76,x 77,x 78,x 79,x 80,x 81,x 82,x 83,x 84,x 85,x 86,x 87,x 88,x 89,x 90,x 91,x 92,x 93,x 94,x 95,x 96,x 97,x 98,x 99,x 100,x 101,x 102,x 103,x 104,x 105,.sl true 1 (bts [13,10]),.int .i64 2,.int .i64 i,x 109,x 110,x 111,x 112,x 113,x 114,x 115,x 116,x 117,x 118,x 119,x 120,x 121,x 122,x 123,x 124,x 125,x 126,x 127,x 128,x 129]
theorem qpK(m f:Int)(r:Nat)(s:List UInt8)(hs:s.length<=1000000000)(hm:0<=m/\m<=9223372036854775807)
  (hQ1:∀t e dn B T z,Ends m r f s t e dn B T->(z= .sl false 2 (flds T)\/T=[]/\z= .nil)->Q (wkA t e dn B z) H):
  PC Tryz.prog E 97 [.str s,.int .i64 m,.int .i64 r,.int .i64 f] H Q:=by
 refine qac Tryz.func97 rfl [] [] (by kernel_rfl) (fun hB=>?_)
 have fin:∀(fr:List AV) (J:Hp) (c:List AV) (t:Nat) e dn B T z,Ends m r f s t e dn B T->(z= .sl false 2 (flds T)\/T=[]/\z= .nil)->aget fr 8= .ptr (some (H.length,0))->qbU Tryz.prog [ResultVar.cell 8 153] H.length Q .ret fr (H++[.int .i64 t,.int .i64 e,.bool dn,.str B,z]::J):=fun fr J c t e dn B T z he hz h8=>by
  have hz1:z.dis=z/\z.free=true/\∀N,Bnd N z:=by
   rcases hz with rfl|⟨_,rfl⟩
   ·exact⟨rfl,rfl,fun N=>qfc T⟩
   ·exact⟨rfl,rfl,fun N=> .nil⟩
  refine qab (J:=[.int .i64 t,.int .i64 e,.bool dn,.str B,z]::J) hB (v0:=wkA t e dn B z) ?_ (qaa _) (by simp[wkA,hz1.2.2]) (hQ1 t e dn B T z he hz);simp[h8,wkA,hz1.1,hz1.2.1]
 have finN:∀(fr:List AV) (J:Hp) (t:Nat) e dn B,Ends m r f s t e dn B []->aget fr 8= .ptr (some (H.length,0))->qbU Tryz.prog [ResultVar.cell 8 153] H.length Q .ret fr (H++[.int .i64 t,.int .i64 e,.bool dn,.str B,.nil]::J):=fun fr J t e dn B he h8=>fin fr J [] t e dn B [] .nil he (.inr ⟨rfl,rfl⟩) h8;simp[Tryz.ntmps97,Tryz.results97,List.replicate_succ];refine qaB (wkInv m r f s H) (fun fr _=>s.length-(ai (aget fr 10)).toNat) ⟨0,[],by simp,by omega,by simp,fw_new,friz⟩ ?_;rintro fr H' ⟨a,B,rfl,hal,hBl,hfw,x,rfl⟩;obtain⟨n,hn⟩:=exz (run not10 (s.drop a));have hnl:=qbh not10 (s.drop a);rw[hn,zqI]at hnl;simp;refine qjJ E _ _ s a 256 hs hal (by decide) ?_;by_cases hj:a+n<s.length/\n<256
 ·have hea:qcJ s a 256=((a+n:Nat):Int):=by unfold qcJ;rw[hn,if_pos hj]
  rw[hea];obtain⟨hj,h256⟩:=hj;obtain⟨j,hjj⟩:∃j,j=a+n:=⟨_,rfl⟩
  rw[<-hjj];have hend:=qjK s a n (by omega);by_cases hz:n=0
  ·rw[if_pos (.inl hz)]at hend;have h1:=qnu hfw hj hn h256 hend;rw[<-hjj]at h1;have e0:((j:Int)==a)=true:=by simp;omega
   simp[e0];refine qbB E _ _ 0 0 false B .nil rfl rfl .nil j 100 (by omega) ?_;simp[wkA,-Int.natCast_add];exact finN _ _ _ _ _ _ h1 rfl
  ·obtain⟨j1,hj1⟩:∃j1,j=j1+1:=⟨j-1,by omega⟩
   have hw3:IntKind.i64.wrap ((j:Int)-1)=(j1:Int):=by rw[qai (by omega) (by omega)];omega
   have e0:((j:Int)==a)=false:=by simp;omega
   obtain⟨c,hc⟩:∃c,s[j1]? =some c:=⟨_,zqD (by omega)⟩
   have hat:=qaq hc;have hj1l:j1<s.length:=by omega
   by_cases h13:c=13
   ·subst h13;rw[show a+n-1=j1 by omega,if_neg (by rw[hc];simp;exact hz),show n-1=j1-a by omega]at hend;obtain⟨ln,hln⟩:=exz ((s.drop a).take (j1-a));have hlnl:ln.length<=s.length:=by rw[<-hln,zqJ,zqI];omega
    rw[hln]at hend;have haj:a<=j1:=by omega
    have hjl:j1<=s.length:=by omega
    simp[e0,hw3,hat,hj1l,hln,haj,hjl];refine qqL E _ _ ln (by simp only[cap];omega) ?_;by_cases he:(qak ln).2.2=0
    ·obtain⟨N,hN⟩:=exz ((qak ln).1);have hrng:=qen ln he;rw[hN]at hrng;have hw5:IntKind.i64.wrap (m-(B.length:Int))=m-B.length:=wiz;by_cases hmu:m-B.length<N
     ·have h1:=qsa hfw hj hn h256 hend he (by rw[hN];exact hmu);rw[<-hjj]at h1;simp[he,hN,hw5,hmu];refine qbB E _ _ 0 0 false B .nil rfl rfl .nil j 102 (by omega) ?_;simp[wkA,-Int.natCast_add];exact finN _ _ _ _ _ _ h1 rfl
     ·have hw4:IntKind.i64.wrap ((j:Int)+1)=((j+1:Nat):Int):=by rw[qai (by omega) (by omega)];omega
      by_cases hN0:N=0
      ·have h1:=qp2 hfw hj hn h256 hend he (by rw[hN];exact hmu) (by rw[hN];exact hN0);rw[<-hjj]at h1;subst hN0;simp[he,hN,hw5,hmu,hw4,-Int.natCast_add];refine qpY E _ _ m f r s (j+1) B hs (by omega) h1 (fun t e dn T hE=>?_);simp[wkA,-Int.natCast_add];exact fin _ _ [] _ _ _ _ _ _ hE (.inl rfl) rfl
      ·have h1:=qsb hfw hj hn h256 hend he (by rw[hN];exact hmu) (by rw[hN];exact hN0);rw[<-hjj,hN]at h1;obtain⟨k,rfl⟩:∃k:Nat,N=k:=⟨N.toNat,by omega⟩
       have hN2:((k:Int)==0)=false:=by simpa using hN0
       obtain⟨a1,ha1⟩:∃a1,a1=j+1:=⟨_,rfl⟩
       rw[<-ha1]at h1 hw4;have hw6:IntKind.i64.wrap ((s.length:Int)-a1)=((s.length-a1:Nat):Int):=by rw[qai (by omega) (by omega)];omega
       have hle1:a1<=s.length:=by omega
       by_cases hlt:s.length-a1<k
       ·have h2:=qs3 h1 hle1 (by omega);have hlt':((s.length-a1:Nat):Int)<k:=by omega
        have m3:B.length+(s.length-a1)<=maxLen:=by unfold maxLen;omega
        simp[he,hN,hw5,hmu,hw4,hN2,hw6,hlt',hle1,m3,-Int.natCast_add];exact finN _ _ _ _ _ _ h2 rfl
       ·have hlt':¬((s.length-a1:Nat):Int)<k:=by omega
        have h2:=qs4 h1 (by omega) (by omega);obtain⟨a2,ha2⟩:∃a2,a2=a1+k:=⟨_,rfl⟩
        obtain⟨B2,hB2⟩:=exz (B++(s.drop a1).take k);have hB2l:B2.length<=a2:=by rw[<-hB2,zqK,zqJ];omega
        rw[<-ha2,hB2]at h2;have hw7:IntKind.i64.wrap ((a1:Int)+k)=a2:=by rw[qai (by omega) (by omega)];omega
        have hle2:a1<=a2:=by omega
        have hle3:a2<=s.length:=by omega
        have hsl:(s.drop a1).take (a2-a1)=(s.drop a1).take k:=by rw[show a2-a1=k by omega]
        have m4:B.length+min k (s.length-a1)<=maxLen:=by unfold maxLen;omega
        simp[he,hN,hw5,hmu,hw4,hN2,hw6,hlt',hle1,hw7,hle2,hle3,hsl,hB2,m4,(by decide:([0,1]:List Nat)=List.range 2),-Int.natCast_add];refine qaB (wkInv2 m r f s a2 B2 H) (fun fr _=>2-(ai (aget fr 108)).toNat) ⟨0,a2,rfl,by omega,by omega,hle3,hB2l,h2,qam (by simp[bts])⟩ ?_;rintro fr H' ⟨i,b,rfl,hi,hb,hbl,hBb,hph,y,rfl⟩;by_cases hi2:i<2
        ·have hi':(i:Int)<2:=by omega
         have hw8:IntKind.i64.wrap ((i:Int)+1)=i+1:=wiz;have hw9:IntKind.i64.wrap ((b:Int)+1)=((b+1:Nat):Int):=by rw[qai (by omega) (by omega)];omega
         obtain⟨q,hq⟩:∃q:UInt8,q=if i=0 then 13 else 10:=⟨_,rfl⟩
         have hrow:lat (bts [13,10]) i=some [.int .u8 (q.toNat:Int)]:=by
          rcases(by omega:i=0\/i=1)with rfl|rfl
          ·simp at hq;subst hq;rfl
          ·simp at hq;subst hq;rfl
         by_cases hbe:b=s.length
         ·have h3:=qss hph hbe;have e1:((b:Int)==s.length)=true:=by simp;omega
          rw[<-hbe]at h3;simp[hi',hrow,e1];exact finN _ _ _ _ _ _ h3 rfl
         ·have e1:((b:Int)==s.length)=false:=by simp;omega
          obtain⟨u,hu⟩:∃u,s[b]? =some u:=⟨_,zqD (by omega)⟩
          have hatu:=qaq hu;have hbs:b<s.length:=by omega
          by_cases huq:u=q
          ·have h3:=ph_go hi2 hph (by rw[hu,huq,hq]);subst huq;simp[hi',hrow,e1,hatu,hbs,hw8,hw9,-Int.natCast_add];exact Klz ⟨i+1,b+1,rfl,by omega,by omega,by omega,by omega,h3,friz⟩
          ·have h3:=ph_bad hi2 hph hu (by rw[<-hq];exact huq)
           have e2:((u.toNat:Int)==(q.toNat:Int))=false:=by
            rw[beq_eq_false_iff_ne];intro hh;exact huq (UInt8.toNat_inj.1 (by omega))
           simp[hi',hrow,e1,hatu,hbs,e2,bne];refine qbB E _ _ 0 0 false B2 .nil rfl rfl .nil b 100 (by omega) ?_;simp[wkA,-Int.natCast_add];exact finN _ _ _ _ _ _ h3 rfl
        ·obtain rfl:i=2:=by omega
         rw[ph_two]at hph;simp;exact Klz ⟨b,B2,rfl,by omega,hBb,hph,friz⟩
    ·have h1:=sz_bad hfw hj hn h256 hend he;rw[<-hjj]at h1;have he2:((qak ln).2.2 !=0)=true:=by simpa using he
     simp[he2];refine qbB E _ _ 0 0 false B .nil rfl rfl .nil j (qak ln).2.2 (by omega) ?_;simp[wkA,-Int.natCast_add];exact finN _ _ _ _ _ _ h1 rfl
   ·rw[show a+n-1=j1 by omega,if_pos (.inr (by rw[hc];simpa using h13))]at hend;have h1:=qnu hfw hj hn h256 hend;rw[<-hjj]at h1;have t1:((c.toNat:Int)==13)=false:=qcZ c 13 (by omega) h13;simp[e0,hw3,hat,hj1l,t1,bne];refine qbB E _ _ 0 0 false B .nil rfl rfl .nil j 100 (by omega) ?_;simp[wkA,-Int.natCast_add];exact finN _ _ _ _ _ _ h1 rfl
 ·have hea:qcJ s a 256= -1:=by unfold qcJ;rw[hn,if_neg hj]
  rw[hea];simp;refine qko E _ _ 0 0 false B .nil rfl rfl .nil s a 255 100 hs hal (fun hlt=>?_) (fun hge=>?_)
  ·have h1:=qr8 hfw (by omega) (by omega);simp[wkA,-Int.natCast_add];exact finN _ _ _ _ _ _ h1 rfl
  ·have h1:=qr9 hfw hal (by omega) (by omega);simp[wkA,-Int.natCast_add];exact finN _ _ _ _ _ _ h1 rfl
theorem qrU(m f:Int)(r:Nat)(s:List UInt8)(hs:s.length<=1000000000)(hm:0<=m/\m<=9223372036854775807)
  (hQ:∀t e dn B T,Ends m r f s t e dn B T->Q (wkA t e dn B (.sl false 2 (flds T))) H):
  PC Tryz.prog E 97 [.str s,.int .i64 m,.int .i64 r,.int .i64 f] H Q:=by
 refine PC.nilD (qpK E H _ m f r s hs hm (fun t e dn B T z hE hz=>?_));refine⟨wkA t e dn B (.sl false 2 (flds T)),?_,hQ t e dn B T hE⟩;rcases hz with rfl|⟨rfl,rfl⟩
 ·exact .same _
 ·exact qaP (by simp[flds])
end
section
variable (E:Env)(H:Hp)(Q:AV->Hp->Prop)
end
theorem qe0{x:AV}(h:qdn (.int .i64) x):∃z,x= .int .i64 z/\ -9223372036854775808<=z/\z<=9223372036854775807:=by
 cases x<;>simp[qdn]at h;obtain⟨rfl,h⟩:=h;refine⟨_,rfl,?_⟩;simpa[Lit.wf,IntKind.min,IntKind.max,IntKind.signed,IntKind.bits]using h
theorem qod{x:AV}(h:qdn .bool x):∃z,x= .bool z:=by
 cases x<;>simp[qdn]at h;exact⟨_,rfl⟩
theorem qqy{x:AV}(h:qdn .str x):∃z,x= .str z:=by
 cases x<;>simp[qdn]at h;exact⟨_,rfl⟩
def dptr(p:Option Nat):AV:= .ptr (p.map fun i=>(i,0))
theorem qrf{P:Program}{rs:List ResultVar}{n:Nat}{Q:AV->Hp->Prop}{fr:List AV}{H':Hp}{v:AV}(h1:ares P fr H' rs=some v)(h3:n<=H'.length)(h4:BndH H'.length H')(h5:Bnd H'.length v)(h6:Q v H'):
  qbU P rs n Q .ret fr H':=⟨v,v,H',H',[],h1,qaa _,qbX _,(List.append_nil H').symm,h3,h4,h5,h6⟩
theorem qjc{P:Program}{E:Env}(S:Nat->Prop){f:FuncId}{fn:Func}{c:Code}(hf:P.funcs[f]? =some fn)(hb:fn.body=some c)(B:List Tmp)(ND:List (Nat×List Nat))(hok:okB P B ND fn=true){args:List AV}{H:Hp}{Q:AV->Hp->Prop}
  (h:∀E':Env,E'.S=S->E'.w0=E.w0->E'.Fix=E.Fix->BndH H.length H->vc P E' B ND c (qbU P fn.results.toList H.length Q) (args++List.replicate (fn.ntmps-args.length) (.raw undef)) H):PC P E f args H Q:=
 PC.env (E:=E) (E':={E with S:=S}) rfl rfl (qac hf hb B ND hok (h _ rfl rfl rfl))
section
variable (E:Env)(H:Hp)(Q:AV->Hp->Prop)
structure COp where
 k:Int
 s:List UInt8
def COp.av(o:COp):List AV:=[.int .i64 o.k,.str o.s]
end
@[simp] theorem dptr_dis (p:Option Nat):(dptr p).dis=dptr p:=rfl
@[simp] theorem dptr_free (p:Option Nat):(dptr p).free=true:=rfl
@[simp] theorem dptr_one (p:Option Nat):(dptr p).one=true:=rfl
theorem at_lt{α:Type}{l:List α}{i:Nat}{x:α}(h:l[i]? =some x):i<l.length:=(zqC.1 h).1
def cops(l:List COp):List (List AV):=l.map COp.av
@[simp] theorem cops_len (l:List COp):(cops l).length=l.length:=by simp[cops]
section
variable (E:Env)(H:Hp)(Q:AV->Hp->Prop)
variable {H}
variable (H)
end
def ints(l:List Int):List (List AV):=l.map fun z=>[.int .i64 z]
@[simp] theorem ints_len (l:List Int):(ints l).length=l.length:=by simp[ints]
theorem qsI{l:List Int}{i:Nat}{z:Int}(h:l[i]? =some z):lat (ints l) i=some [.int .i64 z]:=by simp[lat,ints,h]
section
variable (E:Env)(H:Hp)(Q:AV->Hp->Prop)
end
def hx(n:Nat):UInt8:=if n<10 then UInt8.ofNat (48+n)else UInt8.ofNat (87+n)
section
variable (E:Env)(H:Hp)(Q:AV->Hp->Prop)
end
section
variable (E:Env)(H:Hp)(Q:AV->Hp->Prop)
end
def Tz(w:World):Prop:=w.cell? ⟨4,15,none⟩=some (.int .u8 4)
def SZ(E:Env):Prop:=SE E/\E.Fix 4/\Tz E.w0
@[simp] theorem tzc65:tzc Tryz.prog 222=some (List.replicate 65 (.int .u8 0)):=by kernel_rfl
section
variable (E:Env)(H:Hp)(Q:AV->Hp->Prop)
end
section
variable (E:Env)(H:Hp)(Q:AV->Hp->Prop)
end
section
variable (E:Env)(H:Hp)(Q:AV->Hp->Prop)
theorem qks(s:ByteArray)(most:Int)(hs:s.size<=140737488351232)(hm1: -9223372036854775808<=most)(hm2:most<=9223372036854775807)(W:World):
  Calls Tryz.prog 138 #[.string s,.int .i64 most,.int .i64 10] W fun e w'=>e= .returned (.tuple #[.int .i64 (qae 10 most s.data.toList).1,.int .i64 (qae 10 most s.data.toList).2])/\Frm (fun _=>False) W w':=by
 obtain⟨q,hq⟩:=exz (most.tdiv 10)
 have hq1:0<=most->10*q<=most/\most<10*q+10:=fun h=>by
  rw[Int.tdiv_eq_ediv_of_nonneg h]at hq;omega
 have HQ1:=Lib.hid hq1;clear hq1
 go_enter Tryz.func138,Tryz.ntmps138
 by_cases he:s.data.toList=[]
 ·have hn:qae 10 most s.data.toList=(0,11):=by rw[qae,if_pos he]
  have he':s.toList.isEmpty=true:=by rw[qaX,he];rfl
  go_wp2
  go_ret2
  rw[hn];exact⟨rfl,Frm.refl _ _⟩
 ·have he':s.toList.isEmpty=false:=by rw[qaX];simpa using he
  have HE:=Lib.hid he;clear he
  go_wp2
  clear he'
  go_loopw [8,9,18] (fun n big i wr=>∃(k:Nat) (v:Int) (bg:Bool),k<=s.size/\i= .int .i64 k/\n= .int .i64 v/\big= .bool bg/\qaU 10 (s.data.toList.take k)=true/\bg=decide (most<0\/most<qbe 10 (s.data.toList.take k))/\(bg=false->v=qbe 10 (s.data.toList.take k))/\Frm (fun _=>False) W wr) (fun _ _ i _=>s.size-(intOf i).toNat)
  case atStart=>
   refine⟨0,0,decide (most<0),Nat.zero_le _,rfl,rfl,rfl,rfl,?_,fun _=>rfl,Frm.refl _ _⟩;have:qbe 10 (s.data.toList.take 0)=0:=rfl;rw[this];simp
  case round=>
   obtain⟨k,v,bg,hk,rfl,rfl,rfl,hok,hbg,hv,hf⟩:=hrel;have HF:=Lib.hid hf;have HOK:=Lib.hid hok;have hnn:=qbl 10 (by omega) _ hok;obtain⟨m,hm⟩:∃m,m=qbe 10 (s.data.toList.take k):=⟨_,rfl⟩
   rw[<-hm]at hbg hv hnn;have HM:=Lib.hid hm;clear hf hok hm;by_cases hlt:k<s.size
   ·obtain⟨x,hx⟩:∃x,s.data.toList[k]? =some x:=⟨_,zqD (by rw[qad];omega)⟩
    have HX:=Lib.hid hx;clear hx;have hstep:=qcw 10 _ _ _ HX.out;have hostep:=qcF 10 _ _ _ HX.out;rw[<-HM.out]at hstep;rw[HOK.out,Bool.true_and]at hostep;have HB:=Lib.hid hbg;have HV:=Lib.hid hv;have hx16:=qhZ x;obtain⟨d,hd⟩:∃d,d=dig x:=⟨_,rfl⟩
    rw[<-hd]at hstep hostep hx16;have HS:=Lib.hid hstep;have HO:=Lib.hid hostep;clear hbg hv hstep hostep
    go_wp2_with fail
    refine(qil _ (Nat.le_trans (qdX _ _ _) hs) wr).mono ?_;rintro e w2 ⟨rfl,hf2⟩;have h1:tx (low (s.extract k (k+1)).data.toList)=⟨#[lowB x]⟩:=by rw[qgS s k x HX.out];rfl
    rw[h1];clear h1;have HF2:=Lib.hid (HF.out.trans hf2);clear hf2
    go_wp2_with fail
    refine(qb4 _ _ w2).mono ?_;rintro e w3 ⟨rfl,rfl⟩
    have h2:Lib.indexByte (⟨#[48,49,50,51,52,53,54,55,56,57,97,98,99,100,101,102]⟩:ByteArray).data.toList ((((⟨#[lowB x]⟩:ByteArray)[0]'(by show 0<1;decide)).toNat:Int).toNat.toUInt8)=d:=by
     rw[hd];show Lib.indexByte digs (((lowB x).toNat:Int).toNat.toUInt8)=Lib.indexByte digs (lowB x);simp
    rw[h2];clear h2;have HD:=Lib.hid hd;clear hd
    have hbad:(d<0\/10<=d)->qae 10 most s.data.toList=(0,11):=fun h=>by
     rw[qae,if_neg HE.out,if_pos (qdb 10 _ _ _ HX.out (by rw[<-HD.out];omega))]
    have HBad:=Lib.hid hbad;clear hbad;by_cases hd0:d<0
    ·go_wp2
     go_ret2
     rw[HBad.out (.inl hd0)];exact⟨rfl,HF2.out⟩
    ·by_cases hd1:10<=d
     ·go_wp2
      go_ret2
      rw[HBad.out (.inr hd1)];exact⟨rfl,HF2.out⟩
     ·have HOK':Hid (qaU 10 (s.data.toList.take (k+1))=true):=HO.out.trans (decide_eq_true ⟨by omega,by omega⟩);cases bg with
      |true=>
       go_wp2
       go_roundw
       case rel=>
        refine⟨k+1,v,true,by omega,by go_num,rfl,rfl,HOK'.out,?_,(fun h=>by cases h),HF2.out⟩;have h1:=of_decide_eq_true HB.out.symm;rw[HS.out];exact(decide_eq_true (by omega)).symm
       case measure=>simp[intOf];omega
      |false=>
       have hv:=HV.out rfl;subst hv;have h1:=of_decide_eq_false HB.out.symm;have h1a:0<=most:=by omega
       have h1b:v<=most:=by omega
       have h1c:=(HQ1.out h1a).1;have h1d:=(HQ1.out h1a).2;clear h1;by_cases hA:q<v
       ·go_wp2
        go_roundw
        case rel=>
         refine⟨k+1,v,true,by omega,by go_num,rfl,rfl,HOK'.out,?_,(fun h=>by cases h),HF2.out⟩;rw[HS.out];exact(decide_eq_true (by omega)).symm
        case measure=>simp[intOf];omega
       ·by_cases hB:most-d<v*10
        ·go_wp2
         go_roundw
         case rel=>
          refine⟨k+1,v,true,by omega,by go_num,rfl,rfl,HOK'.out,?_,(fun h=>by cases h),HF2.out⟩;rw[HS.out];exact(decide_eq_true (by omega)).symm
         case measure=>simp[intOf];omega
        ·go_wp2
         go_roundw
         case rel=>
          refine⟨k+1,v*10+d,false,by omega,by go_num,by go_num,rfl,HOK'.out,?_,(fun _=>HS.out.symm),HF2.out⟩;rw[HS.out];exact(decide_eq_false (by omega)).symm
         case measure=>simp[intOf];omega
   ·obtain rfl:k=s.size:=by omega
    have ht:s.data.toList.take s.size=s.data.toList:=zqE (by rw[qad];omega);have hok:=HOK.out;have hm:=HM.out;rw[ht]at hok hm
    have HN:Hid (qae 10 most s.data.toList=if most<0\/most<m then(0,12)else(m,0)):=by
     show qae 10 most s.data.toList=_;rw[qae,if_neg HE.out,if_neg (by rw[hok];decide),<-hm]
    clear hok hm ht;cases bg with
    |true=>
     have h1:=of_decide_eq_true hbg.symm;rw[if_pos h1]at HN;clear hbg hv h1
     go_wp2
     go_ret2
     rw[HN.out];exact⟨rfl,HF.out⟩
    |false=>
     have h1:=of_decide_eq_false hbg.symm;have hv':=hv rfl;subst hv';rw[if_neg h1]at HN;clear hbg hv h1
     go_wp2
     go_ret2
     rw[HN.out];exact⟨rfl,HF.out⟩
theorem qmJ(s:ByteArray)(most:Int)(hs:s.size<=140737488351232)(hm1: -9223372036854775808<=most)(hm2:most<=9223372036854775807)(W:World):
  Calls Tryz.prog 109 #[.string s,.int .i64 most] W fun e w'=>e= .returned (.tuple #[.int .i64 (qae 10 most s.data.toList).1,.int .i64 (qae 10 most s.data.toList).2])/\Frm (fun _=>False) W w':=by
 go_enter Tryz.func109,Tryz.ntmps109
 go_wp2_with fail
 refine(qks s most hs hm1 hm2 W).mono ?_;rintro e w1 ⟨rfl,hf⟩
 go_wp2
 go_ret2
 exact⟨rfl,hf⟩
theorem qcA(l:List UInt8)(most:Int)(hl:l.length<=cap)(hm1: -9223372036854775808<=most)(hm2:most<=9223372036854775807)(hQ:Q (.tup [.int .i64 (qae 10 most l).1,.int .i64 (qae 10 most l).2]) H):
  PC Tryz.prog E 109 [.str l,.int .i64 most] H Q:=by
 refine qar (v:= .tup [.int .i64 (qae 10 most l).1,.int .i64 (qae 10 most l).2]) (by kernel_rfl) (fun _=>True) (fun w hw=>trivial) (fun w β Rd cargs hS hsz hargs=>?_) (.tup _ (fun x hx=>by simp at hx;rcases hx with rfl|rfl<;>exact .int _ _)) rfl hQ;obtain⟨u,v,rfl,hu,hv⟩:=args2 hsz hargs;obtain⟨s,rfl,rfl,hs⟩:=qax hu;obtain rfl:=qay hv;refine(qmJ s most (by rw[<-qad];exact hl) hm1 hm2 w).mono ?_;rintro e w' ⟨rfl,hf⟩;exact⟨_,rfl,hf,qlk⟩
def qqt(l:List UInt8)(H:Hp)(fr:List AV)(H':Hp):Prop:=H'=H/\∃(f i:Nat) (out:List (List UInt8)),f<=i/\i<=l.length/\out.length<=i/\qfz l out f i/\∃x:Nat->AV,fr=[.str l,x 1,x 2,x 3,.sl true 1 (strs out),.int .i64 f,.int .i64 i,x 7,x 8,x 9,x 10,x 11,x 12,x 13,x 14,x 15,x 16,x 17,x 18,x 19,x 20,x 21,x 22,x 23,x 24,x 25,x 26,x 27,x 28,x 29,x 30,x 31,x 32,x 33,x 34,x 35,x 36,x 37,x 38,x 39,x 40,x 41,x 42,x 43,x 44,x 45,x 46,x 47,x 48,x 49,x 50,x 51,x 52,x 53,x 54,x 55,x 56,x 57,x 58,x 59,x 60,x 61,x 62,x 63,x 64,x 65,x 66,x 67,x 68,x 69,x 70,x 71,x 72,x 73]
def qqs(ps:List (List UInt8))(H:Hp)(fr:List AV)(H':Hp):Prop:=H'=H/\∃(i:Nat) (own:Bool),i<=ps.length/\∃x:Nat->AV,fr=[x 0,x 1,x 2,x 3,x 4,x 5,x 6,x 7,x 8,x 9,.sl true 1 (strs (qb8 (ps.take i))),x 11,x 12,x 13,x 14,x 15,x 16,x 17,x 18,x 19,x 20,x 21,x 22,x 23,x 24,x 25,x 26,x 27,x 28,x 29,x 30,x 31,x 32,x 33,x 34,x 35,x 36,x 37,x 38,x 39,x 40,x 41,x 42,x 43,x 44,x 45,x 46,x 47,x 48,x 49,x 50,x 51,x 52,x 53,x 54,x 55,x 56,x 57,.sl own 1 (strs ps),.int .i64 ps.length,.int .i64 i,x 61,x 62,x 63,x 64,x 65,x 66,x 67,x 68,x 69,x 70,x 71,x 72,x 73]
theorem qsC(l:List UInt8)(hl:l.length<=4194304)(hQ:Q (.tup [.sl false 1 (strs (qcX l).1),.int .i64 (qcX l).2]) H):PC Tryz.prog E 137 [.str l] H Q:=by
 refine qac Tryz.func137 rfl [43,53,68] [] (by kernel_rfl) (fun hB=>?_);simp[Tryz.ntmps137,Tryz.results137,List.replicate_succ];refine qek 4 1 (by rfl) ?_;simp only[List.set_cons_succ,List.set_cons_zero];refine qaB (qqt l H) (fun fr _=>l.length-(ai (aget fr 6)).toNat) ⟨rfl,0,0,[],by omega,by omega,by simp,qg0 l,qam (by simp[strs])⟩ ?_;rintro fr H' ⟨rfl,f,i,out,hf,hi,hout,hc,x,rfl⟩;have hm:out.length+1<=maxLen/\(out.length+1)*16<=140737488355328:=by unfold maxLen;omega
 by_cases h:i<l.length
 ·have t1:((i:Int)==(l.length:Int))=false:=by simp;omega
  have hw:IntKind.i64.wrap ((i:Int)+1)=i+1:=wiz;obtain⟨b,hb⟩:∃b,l[i]? =some b:=⟨_,zqD h⟩
  have hat:=qaq hb;have hbn:=b.toNat_lt;by_cases b34:b.toNat=34
  ·have hx34:b=34:=UInt8.toNat_inj.1 b34;have hb':l[i]? =some 34:=by rw[hb,hx34]
   have t2:((b.toNat:Int)==34)=true:=by simp;omega
   have hd:(l.drop i).take (l.length-i)=l.drop i:=zqE (by rw[zqI];omega);simp[t1,hat,t2,hd,hi];refine qhq E _ _ (l.drop i) (by rw[zqI];omega) ?_;cases hu:unquote (l.drop i)with
   |none=>
    have ha:qaQ (l.drop i)=([],0,13):=by unfold qaQ;rw[hu]
    have hbad:=qkA (qjO hc hf hb' hu);rw[hbad]at hQ;simp[ha];exact qat hB rfl (qbW 1 _ rfl) (by simp[strs]) hQ
   |some p=>
    obtain⟨y,k⟩:=p;have ha:qaQ (l.drop i)=(y,(k:Int),0):=by unfold qaQ;rw[hu]
    have hk:=qbD hu;rw[zqI]at hk;have hw2:IntKind.i64.wrap ((i:Int)+k)=i+k:=wiz;simp[ha,hw2];exact Klz ⟨rfl,f,i+k,out,by omega,by omega,by omega,qg1 hc hf hb' hu,friz⟩
  ·have t2:((b.toNat:Int)==34)=false:=by simp;omega
   have ne34:b≠34:=by rintro rfl;exact b34 rfl
   by_cases b44:b.toNat=44
   ·have hx44:b=44:=UInt8.toNat_inj.1 b44;have hb':l[i]? =some 44:=by rw[hb,hx44]
    have t3:((b.toNat:Int)==44)=true:=by simp;omega
    simp[t1,hat,t2,t3,hf,hi,hm,hw];exact Klz ⟨rfl,i+1,i+1,out++[(l.drop f).take (i-f)],by omega,by omega,by simp;omega,qg3 hc hf hb',qam (by simp[strs])⟩
   ·have t3:((b.toNat:Int)==44)=false:=by simp;omega
    have ne44:b≠44:=by rintro rfl;exact b44 rfl
    simp[t1,hat,t2,t3,hw];exact Klz ⟨rfl,f,i+1,out,by omega,by omega,by omega,qg2 hc hf hb ne44 ne34,friz⟩
 ·obtain rfl:i=l.length:=by omega
  have hcut:=qjN hc hf (Nat.le_refl _);have t1:((l.length:Int)==(l.length:Int))=true:=by simp
  obtain⟨ps,hps⟩:=exz (out++[(l.drop f).take (l.length-f)]);have hpl:ps.length=out.length+1:=by rw[<-hps];simp
  rw[hps]at hcut;have hans:=qmr hcut;rw[hans]at hQ;simp[hf,hm];refine qek 10 1 (by rfl) ?_;simp only[List.set_cons_succ,List.set_cons_zero];refine qaB (qqs ps H') (fun fr _=>ps.length-(ai (aget fr 60)).toNat) ⟨rfl,0,true,by omega,qam (by rw[hpl,<-hps];simp[strs,qb8])⟩ ?_;rintro fr H'' ⟨rfl,i,own,hi2,y,rfl⟩
  have hkl:(qb8 (ps.take i)).length<=ps.length:=by
   have:=qip (ps.take i);rw[zqJ]at this;omega
  have hm2:(qb8 (ps.take i)).length+1<=maxLen/\((qb8 (ps.take i)).length+1)*16<=140737488355328:=by unfold maxLen;omega
  by_cases h2:i<ps.length
  ·obtain⟨p,hp⟩:∃b,ps[i]? =some b:=⟨_,zqD h2⟩
   have hat:=qcB hp;have hw:IntKind.i64.wrap ((i:Int)+1)=i+1:=wiz;have hst:=qmt ps i p hp
   have hpl2:p.length<=cap:=by
    have:=qgY _ [] l ps (Nat.le_refl _) hcut p (zqH hp);simp only[cap];simp at this;omega
   simp[h2,hat];refine qh7 E _ _ p hpl2 ?_;cases ht:(qaI p).isEmpty
   ·have hne:(qaI p !=[])=true:=by rw[qhP _ 0,ht];rfl
    rw[ht]at hst;simp[hne,hm2,hw];exact Klz ⟨rfl,i+1,own,by omega,qam (by rw[hst];simp[strs])⟩
   ·have hne:(qaI p !=[])=false:=by rw[qhP _ 0,ht];rfl
    rw[ht]at hst;simp[hne,hw];exact Klz ⟨rfl,i+1,own,by omega,qam (by rw[hst];simp[strs])⟩
  ·have ha:ps.take i=ps:=zqE (by omega);simp[h2];rw[ha];exact aQz hB (h6:=hQ)
theorem qlp(a b:List UInt8)(ha:a.length<=cap)(hb:b.length<=cap)(hQ:Q (.bool (low a==low b)) H):PC Tryz.prog E 88 [.str a,.str b] H Q:=by
 refine qac Tryz.func88 rfl [] [] (by kernel_rfl) (fun hB=>?_);simp[Tryz.ntmps88,Tryz.results88,List.replicate_succ];refine qbO E _ _ a ha ?_;simp;refine qbO E _ _ b hb ?_;simp;exact aQz hB (h6:=hQ)
end
section
open Go.Lib
def SE2(E : Env) : Prop := SE E ∧ E.Fix 1 ∧ TabIs Tryz.prog E.w0 "internal/strconv.uint64pow10" .u64 pow10Tab
theorem qc8 : Tryz.prog.globalNamed "internal/strconv.uint64pow10" = some 1 := by kernel_rfl
theorem SE2.tab{E : Env}(h : SE2 E){w : World}(hw : ∀ b, E.Fix b → w.heap[b]? = E.w0.heap[b]?) : TabIs Tryz.prog w "internal/strconv.uint64pow10" .u64 pow10Tab := by
 have:=h.2.2;unfold TabIs World.var? at this⊢;rw[qc8]at this⊢;simp only[Option.bind_some]at this⊢;rw[hw _ h.2.1];exact this
section
variable (E:Env)(H:Hp)(Q:AV->Hp->Prop)
theorem qog(n:Int)(h0: -9223372036854775808<=n)(h1:n<=9223372036854775807):(itoa n).length<=21/\(decDigits n.natAbs).length<=21:=by
 have h:=itoa_length_le n h0 h1;refine⟨h,?_⟩;unfold itoa at h;split at h
 ·simp at h;omega
 ·have:n.toNat=n.natAbs:=by omega
  rw[this]at h;exact h
theorem qsG(hE:SE2 E)(n:Int)(h0: -9223372036854775808<=n)(h1:n<=9223372036854775807)(hQ:Q (.str (itoa n)) H):PC Tryz.prog E 80 [.int .i64 n] H Q:=by
 refine qar (v := .str (itoa n)) (by kernel_rfl) (fun w => TabIs Tryz.prog w "internal/strconv.uint64pow10" .u64 pow10Tab) (fun w hw => hE.tab hw) (fun w β Rd cargs hS hsz hargs => ?_) (.str _) rfl hQ
 obtain⟨u,rfl,hu⟩:=args1 hsz hargs;obtain rfl:=qay hu;refine(Any.strconv_Itoa qqw n h0 h1 w hS).mono ?_;rintro e w' ⟨rfl,k,os,rfl⟩;refine⟨_,rfl,⟨rfl,rfl,rfl,by simp[Go.Sort.grow],fun b hb _=>?_⟩,qdP _ (by have:=(qog n h0 h1).1;unfold maxLen;omega)⟩;show(w.heap++os)[b]? =_;rw[Array.getElem?_append_left hb]
end
end
end Go.Proofs.YtnnhdehmlkkfjaaGreatDoor
