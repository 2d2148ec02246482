/- Part 7 of the texts below the law. -/
import Derived.Test.YtnnhdehmlkkfjaaGreatDoorPe6
import Derived.Lib.IndexLaws
import Derived.Lib.ItoaLen
import Derived.Stop.LaidErr
set_option maxRecDepth 100000
set_option maxHeartbeats 16000000
set_option linter.unusedVariables false
set_option linter.unnecessarySimpa false
set_option linter.unusedSimpArgs false
set_option linter.unusedSectionVars false
namespace Go.Proofs.YtnnhdehmlkkfjaaGreatDoor
open Go Go.RowKit Go.Proofs
section
variable (E:Env)(H:Hp)(Q:AV->Hp->Prop)
def qss(l:List UInt8)(H:Hp)(fr:List AV)(H':Hp):Prop:=∃(J:Hp) (e:Nat) (out:List Par),H'=H++J/\e<=l.length/\out.length<=e/\qdy l out e/\∃x:Nat->AV,fr=[.str l,x 1,x 2,x 3,x 4,.sl true 3 (prs out),.int .i64 e,x 7,x 8,x 9,x 10,x 11,x 12,x 13,x 14,x 15,x 16,x 17,x 18,x 19,x 20,x 21,x 22,x 23,x 24,x 25,x 26,x 27,x 28,x 29,x 30,x 31,x 32,x 33,x 34,x 35,x 36,x 37,x 38,x 39,x 40,x 41,x 42,x 43,x 44,x 45,x 46,x 47,x 48,x 49,x 50,x 51,x 52,x 53,x 54,x 55,x 56,x 57,x 58,x 59,x 60,x 61,x 62,x 63,x 64,x 65,x 66,x 67,x 68,x 69,x 70,x 71,x 72,x 73,x 74,x 75,x 76,x 77,x 78,x 79,x 80,x 81,x 82,x 83,x 84,x 85,x 86,x 87,x 88,x 89,x 90,x 91,x 92]
theorem qnS(l:List UInt8)(hl:l.length<=8388608)(hQ:Q (.tup [.sl false 3 (prs (qbe l).1),.int .i64 (qbe l).2.1,.bool (decide ((qbe l).2.2=0))]) H):PC Tryz.prog E 152 [.str l] H Q:=by
 refine qac Tryz.func152 rfl [89] [] (by kernel_rfl) (fun hB=>?_);simp[Tryz.ntmps152,Tryz.results152,List.replicate_succ];refine qeo 5 3 (by rfl) ?_;simp only[List.set_cons_succ,List.set_cons_zero];refine qaB (qss l H) (fun fr _=>l.length-(ai (aget fr 6)).toNat) ⟨[],0,[],by simp,by omega,by simp,qgj l,qag (by simp[prs])⟩ ?_;rintro fr H' ⟨J,e,out,rfl,he,hout,hp,x,rfl⟩;have hcap:l.length<=cap:=by simp only[cap];omega
 have hm:out.length+1<=maxLen/\(out.length+1)*40<=140737488355328:=by unfold maxLen;omega
 have bad:∀(fr:List AV) (J':Hp),qbe l=([],0,15)->aget fr 2= .nil->aget fr 3= .int .i64 0->aget fr 4= .bool false->qci Tryz.prog [ResultVar.tmp 2,ResultVar.tmp 3,ResultVar.tmp 4] H.length Q .ret fr (H++J'):=fun fr J' h0 h2 h3 h4=>by
  rw[h0]at hQ;exact qab hB (v0:= .tup [.nil,.int .i64 0,.bool false]) (by simp[h2,h3,h4]) (qdB 3 _ _ rfl rfl) (by simp) hQ
 simp;refine qpc E _ _ l e hcap he ?_;obtain⟨b,hb⟩:=exz (run qaf (l.drop e));have hbl:=qbp qaf (l.drop e);rw[zqI]at hbl;rw[hb]at hbl⊢;obtain⟨a,ha⟩:∃a,a=e+b:=⟨_,rfl⟩
 rw[<-ha]
 have hcase:l[a]? =some 59\/l[a]? ≠some 59:=by
  by_cases h:l[a]? =some 59
  ·exact .inl h
  ·exact .inr h
 rcases hcase with h59|h59
 ·have halt:=(zqC.1 h59).1;have t1':¬l.length<=a:=by omega
  have hat:=qas h59;obtain⟨a1,ha1⟩:∃a1,a1=a+1:=⟨_,rfl⟩
  have hw2:IntKind.i64.wrap ((a:Int)+1)=(a1:Int):=by rw[qak (by omega) (by omega)];omega
  simp[t1',hat,hw2];refine qpc E _ _ l a1 hcap (by omega) ?_;obtain⟨m,hmm⟩:=exz (run qaf (l.drop a1));have hml:=qbp qaf (l.drop a1);rw[zqI]at hml;rw[hmm]at hml⊢;obtain⟨a2,ha2⟩:∃a2,a2=a1+m:=⟨_,rfl⟩
  rw[<-ha2];simp;refine qoN E _ _ l a2 hcap (by omega) ?_;obtain⟨n,hn⟩:=exz (run qai (l.drop a2));have hnl:=qbp qai (l.drop a2);rw[zqI]at hnl;rw[hn]at hnl⊢;obtain⟨a3,ha3⟩:∃a3,a3=a2+n:=⟨_,rfl⟩
  have hw4:IntKind.i64.wrap ((a2:Int)+n)=(a3:Int):=by rw[qak (by omega) (by omega)];omega
  have x0:l[e+b]? =some 59:=by rw[<-ha];exact h59
  have x1:run qaf (l.drop (e+b+1))=m:=by rw[<-ha,<-ha1];exact hmm
  have x2:run qai (l.drop (e+b+1+m))=n:=by rw[<-ha,<-ha1,<-ha2];exact hn
  have ee:e+b+1+m+n=a3:=by omega
  by_cases hz:n=0
  ·have hsk:=qha hp hb x0 x1 x2 hz;rw[show e+b+1=a1 by omega]at hsk;simp[hz];exact Klz ⟨J,a1,out,rfl,by omega,by omega,hsk,friz⟩
  ·have t0:((n:Int)==0)=false:=by simp;omega
   have hnm:(l.drop a2).take (a3-a2)=(l.drop a2).take n:=by rw[show a3-a2=n by omega]
   have hle1:a2<=a3:=by omega
   have hle2:a3<=l.length:=by omega
   by_cases h61:l[a3]? =some 61
   ·have h3:=(zqC.1 h61).1;have hat2:=qas h61;obtain⟨a4,ha4⟩:∃a4,a4=a3+1:=⟨_,rfl⟩
    have hw5:IntKind.i64.wrap ((a3:Int)+1)=(a4:Int):=by rw[qak (by omega) (by omega)];omega
    have ha4l:a4<=l.length:=by omega
    have hdl:(l.drop a4).length<=cap:=by rw[zqI];simp only[cap];omega
    simp[t0,hw4,hle1,hle2,hnm,h3,hat2,hw5,ha4l];refine qoN E _ _ (l.drop a4) 0 hdl (by omega) ?_;rw[List.drop_zero];obtain⟨k0,hk0⟩:=exz (run qai (l.drop a4));have hkl:=qbp qai (l.drop a4);rw[zqI]at hkl;rw[hk0]at hkl⊢;by_cases hk:k0=0
    ·have hpv:pval qai (l.drop a4)=unquote (l.drop a4):=by unfold pval;rw[hk0,if_neg (by omega)]
     have hnb:unquote (l.drop a4)=none->qbe l=([],0,15):=fun hv=>qik hp hb x0 x1 x2 hz (by rw[ee];exact h61) (by rw[ee,<-ha4,hpv];exact hv)
     have hc3:l.drop a4=[]\/(∃c,(l.drop a4)[0]? =some c/\c≠34)\/(l.drop a4)[0]? =some 34:=by
      cases hd:l.drop a4 with
      |nil=>exact .inl rfl
      |cons c r=>
       by_cases hc:c=34
       ·exact .inr (.inr (by rw[hc];rfl))
       ·exact .inr (.inl ⟨c,rfl,hc⟩)
     rcases hc3 with hd|⟨c,hc,hcn⟩|hc
     ·have hbad:=hnb (by rw[hd];rfl);have hlen0:l.length=a4:=by have:=congrArg List.length hd;rw[zqI]at this;simp at this;omega
      simp[hk,hd];exact bad _ _ hbad rfl rfl rfl
     ·have hbad:=hnb (by
       rw[show l.drop a4=c::(l.drop a4).drop 1 from qay _ 0 c hc,unquote,if_neg hcn])
      have hcl:=(zqC.1 hc).1;have hne:(l.drop a4==[])=false:=by rw[beq_eq_false_iff_ne];intro e;rw[e]at hcl;simp at hcl
      have hat0:lat (l.drop a4) 0=some c:=qas hc;have t34:((c.toNat:Int)==34)=false:=qdl c 34 (by decide) hcn;simp[hk,hne,hat0,t34,bne];exact bad _ _ hbad rfl rfl rfl
     ·have hcl:=(zqC.1 hc).1;have hne:(l.drop a4==[])=false:=by rw[beq_eq_false_iff_ne];intro e;rw[e]at hcl;simp at hcl
      have hat0:lat (l.drop a4) 0=some 34:=qas hc;simp[hk,hne,hat0];refine qjZ E _ _ (l.drop a4) (by rw[zqI];omega) hc ?_;cases hv:unquote (l.drop a4)with
      |none=>
       have hva:qaU (l.drop a4)=([],0,13):=by unfold qaU;rw[hv]
       have hbad:=hnb hv;simp[hva];exact bad _ _ hbad rfl rfl rfl
      |some q=>
       obtain⟨y,k⟩:=q;have hva:qaU (l.drop a4)=(y,(k:Int),0):=by unfold qaU;rw[hv]
       have hk2:=qbQ hv;rw[zqI]at hk2;have hvv:=qec hp hb x0 x1 x2 hz (by rw[ee];exact h61) (x:=y) (k:=k) (by rw[ee,<-ha4,hpv];exact hv);have hk0':((k:Int)==0)=false:=by simp;omega
       obtain⟨a6,ha6⟩:∃a6,a6=a3+1+k:=⟨_,rfl⟩
       have hw7:IntKind.i64.wrap (1+(k:Int))=((1+k:Nat):Int):=by rw[qak (by omega) (by omega)];omega
       have hw8:IntKind.i64.wrap ((a3:Int)+((1+k:Nat):Int))=(a6:Int):=by rw[qak (by omega) (by omega)];omega
       rw[show e+b+1+m=a2 by omega,show a2+n+1+k=a6 by omega]at hvv;simp[hva,hk0'];refine qt5 E _ _ (l.drop a4) y k (by rw[zqI];omega) hc hv ?_;simp[hw7,hw8,hm,-Int.natCast_add];exact Klz ⟨J++[[.str ((l.drop a2).take n),.str y,.bool true]],a6,_,by simp,by omega,by simp;omega,hvv,qag (by simp[prs,qeL])⟩
    ·have tk:(0:Int)<(k0:Int):=by omega
     have tk':0<k0:=by omega
     have hpv:pval qai (l.drop a4)=some ((l.drop a4).take k0,k0):=by unfold pval;rw[hk0,if_pos (by omega)]
     have hvv:=qec hp hb x0 x1 x2 hz (by rw[ee];exact h61) (x:=(l.drop a4).take k0) (k:=k0) (by rw[ee,<-ha4];exact hpv);obtain⟨a5,ha5⟩:∃a5,a5=a3+1+k0:=⟨_,rfl⟩
     have hw7:IntKind.i64.wrap (1+(k0:Int))=((1+k0:Nat):Int):=by rw[qak (by omega) (by omega)];omega
     have hw8:IntKind.i64.wrap ((a3:Int)+((1+k0:Nat):Int))=(a5:Int):=by rw[qak (by omega) (by omega)];omega
     have hkd:k0<=l.length-a4:=by omega
     rw[show e+b+1+m=a2 by omega,show a2+n+1+k0=a5 by omega]at hvv;simp[tk',hkd,hw7,hw8,hm,-Int.natCast_add];exact Klz ⟨J++[[.str ((l.drop a2).take n),.str ((l.drop a4).take k0),.bool true]],a5,_,by simp,by omega,by simp;omega,hvv,qag (by simp[prs,qeL])⟩
   ·have hpl:=qgk hp hb x0 x1 x2 hz (by rw[ee];exact h61);rw[show e+b+1+m=a2 by omega,show a2+n=a3 by omega]at hpl
    have hcase:a3=l.length\/(a3<l.length/\∃c,l[a3]? =some c/\c.toNat≠61):=by
     by_cases h:a3<l.length
     ·obtain⟨c,hc⟩:∃b,l[a3]? =some b:=⟨_,zqD h⟩
      exact .inr ⟨h,c,hc,fun hh=>h61 (by rw[hc,UInt8.toNat_inj.1 (show c.toNat=(61:UInt8).toNat from hh)])⟩
     ·exact .inl (by omega)
    rcases hcase with hE3|⟨h,c,hc,hcn⟩
    ·have hnl3:¬a3<l.length:=by omega
     simp[t0,hw4,hle1,hle2,hnm,hnl3,hm];exact Klz ⟨J++[[.str ((l.drop a2).take n),.str [],.bool false]],a3,_,by simp,by omega,by simp;omega,hpl,qag (by simp[prs,qeL])⟩
    ·have t2:((c.toNat:Int)==61)=false:=by simp;omega
     have hat2:=qas hc;simp[t0,hw4,hle1,hle2,hnm,h,hat2,t2,hm];exact Klz ⟨J++[[.str ((l.drop a2).take n),.str [],.bool false]],a3,_,by simp,by omega,by simp;omega,hpl,qag (by simp[prs,qeL])⟩
 ·have hans:=qij hp hb (by rw[<-ha];exact h59);rw[hans]at hQ
  have hcase:a=l.length\/(a<l.length/\∃c,l[a]? =some c/\c.toNat≠59):=by
   by_cases h:a<l.length
   ·obtain⟨c,hc⟩:∃b,l[a]? =some b:=⟨_,zqD h⟩
    exact .inr ⟨h,c,hc,fun hh=>h59 (by rw[hc,UInt8.toNat_inj.1 (show c.toNat=(59:UInt8).toNat from hh)])⟩
   ·exact .inl (by omega)
  rcases hcase with rfl|⟨h,c,hc,hcn⟩
  ·simp;exact qab hB rfl (qaa _) (by simp) hQ
  ·have t1:¬l.length<=a:=by omega
   have t2:((c.toNat:Int) !=59)=true:=by simp;omega
   have hat:=qas hc;simp[t1,hat,t2];exact qab hB rfl (qaa _) (by simp) hQ
end
theorem qmF(l:List UInt8)(c:UInt8)(i:Nat)(h:l[i]? =some c)(hn:∀j,j<i->l[j]? ≠some c):Lib.indexByte l c=i:=by
 have h1:=Lib.indexByte_ge l c;by_cases h0:Lib.indexByte l c= -1
 ·exact absurd h (Lib.indexByte_none h0 i)
 ·obtain⟨o,ho⟩:∃o:Nat,Lib.indexByte l c=o:=⟨(Lib.indexByte l c).toNat,by omega⟩
  obtain⟨g1,g2⟩:=Lib.indexByte_some ho;rw[ho];by_cases hlt:o<i
  ·exact absurd g1 (hn o hlt)
  ·by_cases hgt:i<o
   ·exact absurd h (g2 i hgt)
   ·omega
theorem qmE(l:List UInt8)(c:UInt8)(hn:∀j,j<l.length->l[j]? ≠some c):Lib.indexByte l c= -1:=by
 have h1:=Lib.indexByte_ge l c;by_cases h0:Lib.indexByte l c= -1
 ·exact h0
 ·obtain⟨o,ho⟩:∃o:Nat,Lib.indexByte l c=o:=⟨(Lib.indexByte l c).toNat,by omega⟩
  obtain⟨g1,g2⟩:=Lib.indexByte_some ho;exact absurd g1 (hn o (zqC.1 g1).1)
theorem qiD(b:UInt8):(0<=dig b)=(qaT b=true):=by
 have h:=qcy b;have hl:=qiJ b;rw[h];simp only[decide_eq_true_eq,eq_iff_iff];omega
theorem qin(l:List UInt8)(h:l.all qaT=true):qaV 16 l=true:=by
 unfold qaV;rw[List.all_eq_true]at h⊢;intro b hb;have:=h b hb;rw[qcy]at this;exact this
section
variable (E:Env)(H:Hp)(Q:AV->Hp->Prop)
def hxInv(c:UInt8)(H:Hp)(fr:List AV)(H':Hp):Prop:=H'=H/\∃i:Nat,i<=16/\(∀j,j<i->digs[j]? ≠some (lowB c))/\∃x:Nat->AV,fr=[.int .u8 (c.toNat:Int),x 1,x 2,.str digs,.int .i64 i,x 5,x 6,x 7,x 8,x 9,x 10,x 11,x 12,x 13,x 14,x 15,x 16,x 17,x 18,x 19]
theorem qlK(c:UInt8)(hQ:Q (.int .i64 (dig c)) H):PC Tryz.prog E 151 [.int .u8 (c.toNat:Int)] H Q:=by
 refine qac Tryz.func151 rfl [] [] (by kernel_rfl) (fun hB=>?_);have fin:∀z:Int,dig c=z->Q (.int .i64 z) H:=fun z hz=>hz▸hQ;simp[Tryz.ntmps151,Tryz.results151,List.replicate_succ];refine qaB (hxInv c H) (fun fr _=>16-(ai (aget fr 4)).toNat) ⟨rfl,0,by omega,(fun j hj=>by omega),qag (by simp[digs])⟩ ?_;rintro fr H' ⟨rfl,i,hi,hno,x,rfl⟩;have hlen:digs.length=16:=rfl;by_cases h:i<16
 ·obtain⟨d,hd⟩:∃d,digs[i]? =some d:=⟨_,zqD (by rw[hlen];exact h)⟩
  have h16:(i:Int)<16:=by omega
  have hw:IntKind.i64.wrap ((i:Int)+1)=i+1:=wiz;have hbt:[[AV.int .u8 (c.toNat:Int)]]=bts [c]:=by simp[bts]
  have t1:((i:Int)+1).toNat=i+1:=by omega
  have t2:(0:Int)<=i+1:=by omega
  have t3:(digs.drop i).take 1=[d]:=by rw[qay digs i d hd];rfl
  have t4:i+1<=16:=by omega
  simp[h16,hw,hbt,t1,t2,t3,t4,hlen];refine qcv E _ _ [c] (by simp[cap]) ?_;have hlow:low [c]=[lowB c]:=rfl;rw[hlow];by_cases he:lowB c=d
  ·have t5:([lowB c]==[d])=true:=by rw[he];simp
   simp[t5,t3,t4,hlen,h16,hw,t1,t2];exact aQz hB (h6:=(fin i (qmF digs (lowB c) i (by rw[hd,he]) hno)))
  ·have t5:([lowB c]==[d])=false:=by rw[beq_eq_false_iff_ne];intro hh;cases hh;exact he rfl
   simp[t5,t3,t4,hlen,h16,hw,t1,t2];refine Klz ⟨rfl,i+1,by omega,fun j hj=>?_,friz⟩;by_cases hji:j<i
   ·exact hno j hji
   ·obtain rfl:j=i:=by omega
    rw[hd];exact fun hh=>he (Option.some.inj hh).symm
 ·obtain rfl:i=16:=by omega
  simp;exact aQz hB (h6:=(fin (-1) (qmE digs (lowB c) (fun j hj=>hno j (by rw[hlen]at hj;exact hj)))))
def dszInv(l:List UInt8)(H:Hp)(fr:List AV)(H':Hp):Prop:=H'=H/\∃(k:Nat) (n:Int),k<=l.length/\(l.take k).all qaT=true/\0<=n/\n<=17592186044432/\(qbf 16 (l.take k)<=1099511627776->n=qbf 16 (l.take k))/\(1099511627776<qbf 16 (l.take k)->1099511627776<n)/\
 ∃x:Nat->AV,fr=[.str l,x 1,x 2,x 3,x 4,.int .i64 n,.int .i64 k,x 7,x 8,x 9,x 10,x 11,x 12,x 13,x 14,x 15,x 16,x 17,x 18,x 19,x 20,x 21,x 22,x 23,x 24,x 25,x 26,x 27,x 28,x 29,x 30,x 31,x 32,x 33,x 34,x 35,x 36,x 37,x 38,x 39,x 40,x 41,x 42,x 43,x 44,x 45,x 46,x 47,x 48,x 49,x 50,x 51,x 52,x 53,x 54,x 55,x 56,x 57,x 58,x 59,x 60,x 61]
theorem qso(l:List UInt8)(hl:l.length<=cap)(hQ:Q (.tup [.int .i64 (qam l).1,.sl false 3 (prs (qam l).2.1),.int .i64 (qam l).2.2]) H):PC Tryz.prog E 132 [.str l] H Q:=by
 refine qac Tryz.func132 rfl [] [] (by kernel_rfl) (fun hB=>?_);have hl':=hl;simp only[cap]at hl'
 have bad:∀(fr:List AV) (e:Int),qam l=(0,[],e)->aget fr 2= .int .i64 0->aget fr 3= .nil->aget fr 4= .int .i64 e->qci Tryz.prog [ResultVar.tmp 2,ResultVar.tmp 3,ResultVar.tmp 4] H.length Q .ret fr H:=fun fr e h0 h1 h2 h3=>by
  rw[h0]at hQ;exact qaw hB (v0:= .tup [.int .i64 0,.nil,.int .i64 e]) (by simp[h1,h2,h3]) (qmw 3 _ _ rfl rfl) (by simp) hQ
 by_cases hbig:254<l.length
 ·have ha:qam l=(0,[],100):=by unfold qam;rw[if_pos (.inr hbig)]
  have hbig':(254:Int)<l.length:=by omega
  simp[Tryz.ntmps132,Tryz.results132,List.replicate_succ,hbig'];exact bad _ 100 ha rfl rfl rfl
 ·have hbig':¬(254:Int)<l.length:=by omega
  simp[Tryz.ntmps132,Tryz.results132,List.replicate_succ,hbig'];refine qaB (dszInv l H) (fun fr _=>l.length-(ai (aget fr 6)).toNat) ⟨rfl,0,0,by omega,by simp,by omega,by omega,fun _=>rfl,(fun h=>by simp[qbf]at h),friz⟩ ?_;rintro fr H' ⟨rfl,k,n,hk,hall,hn0,hn1,hs1,hs2,x,rfl⟩;have hw:IntKind.i64.wrap ((k:Int)+1)=k+1:=wiz
  have hcase:(∃b,l[k]? =some b/\qaT b=true)\/(∃b,l[k]? =some b/\qaT b=false)\/l.length<=k:=by
   cases hb:l[k]? with
   |none=>exact .inr (.inr (List.getElem?_eq_none_iff.1 hb))
   |some b=>
    cases hx:qaT b
    ·exact .inr (.inl ⟨b,rfl,hx⟩)
    ·exact .inl ⟨b,rfl,hx⟩
  rcases hcase with⟨b,hb,hx⟩|⟨b,hb,hx⟩|h
  ·have h:k<l.length:=(zqC.1 hb).1;have hat:=qas hb;have hd0:0<=dig b:=by rw[qiD];exact hx
   have hd16:=(qiJ b).2;have hst:=qcR 16 l k b hb;have hnn:=qbw 16 (by omega) (l.take k) (qin _ hall);simp[h,hat];refine qlK E _ _ b ?_;by_cases hle:n<=1099511627776
   ·have hwm:IntKind.i64.wrap (16*n)=16*n:=wiz;have hwa:IntKind.i64.wrap (16*n+dig b)=16*n+dig b:=wiz;simp[hd0,hle,hwm,hat];refine qlK E _ _ b ?_;simp[hwa,hw];refine Klz ⟨rfl,k+1,16*n+dig b,by omega,by rw[qa8 qaT l k b hb,hall,hx];rfl,by omega,by omega,fun hh=>?_,fun hh=>?_,friz⟩
    ·rw[hst]at hh⊢;have:=hs1 (by omega);omega
    ·rw[hst]at hh;by_cases hh2:qbf 16 (l.take k)<=1099511627776
     ·have:=hs1 hh2;omega
     ·have:=hs2 (by omega);omega
   ·simp[hd0,hle,hw]
    have hbg:1099511627776<qbf 16 (l.take k):=by
     by_cases hh2:qbf 16 (l.take k)<=1099511627776
     ·have:=hs1 hh2;omega
     ·omega
    refine Klz ⟨rfl,k+1,n,by omega,by rw[qa8 qaT l k b hb,hall,hx];rfl,hn0,hn1,fun hh=>?_,fun _=>by omega,friz⟩;rw[hst]at hh;omega
  case' inr.inl=>
   have h:k<l.length:=(zqC.1 hb).1;have hat:=qas hb;have hd0:¬0<=dig b:=by rw[qiD,hx];simp
   have hr:run qaT l=k:=qby qaT l k hall hk (fun c hc=>by rw[hb]at hc;cases hc;exact hx);simp[h,hat];refine qlK E _ _ b ?_;simp[hd0,hk]
  case' inr.inr=>
   have h':¬k<l.length:=by omega
   have hr:run qaT l=k:=qby qaT l k hall hk (fun c hc=>by have:=(zqC.1 hc).1;omega);simp[h',hk]
  all_goals
   obtain⟨hpl,m,hm,hml⟩:=qj9 (l.drop k);rw[zqI]at hml hpl;refine qnS E _ _ (l.drop k) (by rw[zqI];omega) ?_;rw[hm];have hw2:IntKind.i64.wrap ((k:Int)+m)=((k+m:Nat):Int):=by rw[qak (by omega) (by omega)];omega
   by_cases hn0k:k=0
   ·have ha:qam l=(0,[],100):=by unfold qam;rw[if_pos (.inl (by rw[hr];exact hn0k))]
    simp[hn0k];exact bad _ 100 ha rfl rfl rfl
   ·have e0:((k:Int)==0)=false:=by simp;omega
    have ha0:qam l=if(qbe (l.drop k)).2.2≠0\/qaJ (l.drop (k+m))≠[]then(0,[],100)else if(qae 16 1099511627776 (l.take k)).2≠0 then(0,[],102)else((qae 16 1099511627776 (l.take k)).1,(qbe (l.drop k)).1,0):=by
     unfold qam;rw[hr,if_neg (by omega),hm,Int.toNat_natCast]
    have hna:qae 16 1099511627776 (l.take k)=if 1099511627776<qbf 16 (l.take k)then(0,12)else(qbf 16 (l.take k),0):=by
     have hne:l.take k≠[]:=by intro e;have:=congrArg List.length e;rw[zqJ]at this;have h3:min k l.length=0:=this;omega
     unfold qae;rw[if_neg hne,if_neg (by rw[qin _ hall];simp)];by_cases hg:1099511627776<qbf 16 (l.take k)
     ·rw[if_pos (.inr hg),if_pos hg]
     ·rw[if_neg (by omega),if_neg hg]
    by_cases he:(qbe (l.drop k)).2.2=0
    ·have hnm:k+m<=l.length:=by omega
     simp[e0,he,hw2,hnm,-Int.natCast_add];refine qcm E _ _ (l.drop (k+m)) (by rw[zqI];simp only[cap];omega) ?_;by_cases ht:qaJ (l.drop (k+m))=[]
     ·by_cases hg:1099511627776<n
      ·have hgg:1099511627776<qbf 16 (l.take k):=by
        by_cases hh2:qbf 16 (l.take k)<=1099511627776
        ·have:=hs1 hh2;omega
        ·omega
       have ha:qam l=(0,[],102):=by rw[ha0,if_neg (by simp[he,ht]),hna,if_pos hgg];rfl
       simp[ht,hg];exact bad _ 102 ha rfl rfl rfl
      ·have hgg:¬1099511627776<qbf 16 (l.take k):=fun hh=>hg (hs2 hh);have hnn:=hs1 (by omega);have ha:qam l=(n,(qbe (l.drop k)).1,0):=by rw[ha0,if_neg (by simp[he,ht]),hna,if_neg hgg,hnn];rfl
       rw[ha]at hQ;simp[ht,hg];exact qaw hB (v0:= .tup [.int .i64 n,.sl false 3 (prs (qbe (l.drop k)).1),.int .i64 0]) (by simp) (qaa _) (by simp[qlT,-qqt]) hQ
     ·have ht2:(qaJ (l.drop (k+m)) !=[])=true:=by simpa using ht
      have ha:qam l=(0,[],100):=by rw[ha0,if_pos (.inr ht)]
      simp[ht2];exact bad _ 100 ha rfl rfl rfl
    ·have ha:qam l=(0,[],100):=by rw[ha0,if_pos (.inl he)]
     simp[e0,he];exact bad _ 100 ha rfl rfl rfl
end
end Go.Proofs.YtnnhdehmlkkfjaaGreatDoor
namespace Go.Proofs.YtnnhdehmlkkfjaaGreatDoor
open Go Go.RowKit
inductive NilD:AV->AV->Prop
 |same (x):NilD x x
 |nil (k):NilD .nil (.sl false k [])
 |agg (l m:List AV) (hl:l.length=m.length) (h:∀(i:Nat) x y,l[i]? =some x->m[i]? =some y->NilD x y):NilD (.agg l) (.agg m)
 |tup (l m:List AV) (hl:l.length=m.length) (h:∀(i:Nat) x y,l[i]? =some x->m[i]? =some y->NilD x y):NilD (.tup l) (.tup m)
 |sl (k:Nat) (l m:List (List AV)) (hl:l.length=m.length) (hk:∀(i:Nat) r s,l[i]? =some r->m[i]? =some s->r.length=s.length) (h:∀(i j:Nat) r s x y,l[i]? =some r->m[i]? =some s->r[j]? =some x->s[j]? =some y->NilD x y):NilD (.sl false k l) (.sl false k m)
def NilL:List AV->List AV->Prop
 |[],[]=>True
 |x::l,y::m=>NilD x y/\NilL l m
 |_,_=>False
theorem NilL.at:∀{l m:List AV},NilL l m->l.length=m.length/\∀(i:Nat) x y,l[i]? =some x->m[i]? =some y->NilD x y
 |[],[],_=>⟨rfl,fun i x y hx=>by simp at hx⟩
 |x::l,y::m,h=>by
  obtain⟨h1,h2⟩:=NilL.at h.2;refine⟨by simp[h1],fun i a b ha hb=>?_⟩;cases i with
  |zero=>simp at ha hb;subst ha;subst hb;exact h.1
  |succ i=>exact h2 i a b (by simpa using ha) (by simpa using hb)
 |[],_::_,h=>h.elim
 |_::_,[],h=>h.elim
@[simp] theorem NilL_nil:NilL [] []=True:=rfl
@[simp] theorem NilL_cons (x y:AV) (l m:List AV):NilL (x::l) (y::m)=(NilD x y/\NilL l m):=rfl
@[simp] theorem NilD_same (x:AV):NilD x x=True:=eq_true (.same x)
@[simp] theorem NilD_nil (k:Nat):NilD .nil (.sl false k [])=True:=eq_true (.nil k)
theorem qcP{l m:List AV}(h:NilL l m):NilD (.agg l) (.agg m):= .agg l m h.at.1 h.at.2
theorem qgE{l m:List AV}(h:NilL l m):NilD (.tup l) (.tup m):= .tup l m h.at.1 h.at.2
theorem NilD.one{x y:AV}(h:NilD x y):x.one=true->y.one=true:=by
 cases h with
 |same=>exact id
 |nil=>exact fun _=>rfl
 |agg=>intro h;simp[AV.one]at h
 |tup=>intro h;simp[AV.one]at h
 |sl=>exact fun _=>rfl
theorem NilD.free{x y:AV}(h:NilD x y):x.free=true->y.free=true:=by
 cases h with
 |same=>exact id
 |nil=>exact fun _=>rfl
 |agg=>exact fun _=>rfl
 |tup=>exact fun _=>rfl
 |sl=>exact fun _=>rfl
theorem NilD.own{x y:AV}(h:NilD x y)(v:Value)(g:Nat):own0 y v=some g->own0 x v=some g:=by
 cases h with
 |same=>exact id
 |nil=>intro e;cases e
 |agg=>intro e;cases e
 |tup=>intro e;cases e
 |sl=>intro e;cases e
theorem NilD.dis{x y:AV}(h:NilD x y):x.dis.free=true->y.dis.free=true:=by
 cases h with
 |same=>exact id
 |nil=>exact fun _=>rfl
 |agg=>exact fun _=>rfl
 |tup=>exact fun _=>rfl
 |sl=>exact fun _=>rfl
theorem qcn{α β:Type}{l:List α}{m:List β}(h:l.length=m.length){i:Nat}{y:β}(hy:m[i]? =some y):∃x,l[i]? =some x:=by
 have:=(zqC.1 hy).1;exact⟨l[i],zqD (by omega)⟩
theorem NilD.bnd{N:Nat}{x y:AV}(h:NilD x y):Bnd N x->Bnd N y:=by
 induction h with
 |same=>exact id
 |nil k=>exact fun _=> .sl _ _ _ (by simp)
 |agg l m hl h ih=>
  intro hb;cases hb with
  |agg _ hb=>
   refine .agg _ fun y hy=>?_;obtain⟨i,hi⟩:=List.getElem?_of_mem hy;obtain⟨x,hx⟩:=qcn hl hi;exact ih i x y hx hi (hb x (qar hx))
 |tup l m hl h ih=>
  intro hb;cases hb with
  |tup _ hb=>
   refine .tup _ fun y hy=>?_;obtain⟨i,hi⟩:=List.getElem?_of_mem hy;obtain⟨x,hx⟩:=qcn hl hi;exact ih i x y hx hi (hb x (qar hx))
 |sl k l m hl hk h ih=>
  intro hb;cases hb with
  |sl _ _ _ hb=>
   refine .sl _ _ _ fun s hs y hy=>?_;obtain⟨i,hi⟩:=List.getElem?_of_mem hs;obtain⟨j,hj⟩:=List.getElem?_of_mem hy;obtain⟨r,hr⟩:=qcn hl hi;obtain⟨x,hx⟩:=qcn (hk i r s hr hi) hj;exact ih i j r s x y hr hi hx hj (hb r (qar hr) x (qar hx))
theorem qkC:∀{l m:List (List AV)},l.length=m.length->(∀(i:Nat) (r s:List AV),l[i]? =some r->m[i]? =some s->r.length=s.length)->l.flatten.length=m.flatten.length/\
  ∀(t:Nat) x y,l.flatten[t]? =some x->m.flatten[t]? =some y->∃(i j:Nat) (r s:List AV),l[i]? =some r/\m[i]? =some s/\r[j]? =some x/\s[j]? =some y
 |[],[],_,_=>⟨rfl,fun t x y hx=>by simp at hx⟩
 |a::l,b::m,hl,hk=>by
  have hab:a.length=b.length:=hk 0 a b rfl rfl;obtain⟨h1,h2⟩:=qkC (l:=l) (m:=m) (by simpa using hl) (fun i r s hr hs=>hk (i+1) r s (by simpa using hr) (by simpa using hs));refine⟨by simp[h1,hab],fun t x y hx hy=>?_⟩;rw[List.flatten_cons]at hx hy;by_cases ht:t<a.length
  ·rw[zqA ht]at hx;rw[zqA (by omega)]at hy;exact⟨0,t,a,b,rfl,rfl,hx,hy⟩
  ·rw[zqB (by omega)]at hx hy;rw[<-hab]at hy;obtain⟨i,j,r,s,e1,e2,e3,e4⟩:=h2 _ x y hx hy;exact⟨i+1,j,r,s,by simpa using e1,by simpa using e2,e3,e4⟩
 |[],_::_,h,_=>by simp at h
 |_::_,[],h,_=>by simp at h
theorem NilD.rel{w:World}{β:Nat->Nat}{Rd:Nat->Nat->Prop}{x y:AV}(h:NilD x y):∀{v:Value},Rel w β Rd x v->Rel w β Rd y v:=by
 induction h with
 |same=>exact id
 |nil k=>
  intro v hr;obtain rfl:=qi0 hr;exact .sl false k [] _ [] (by simp) (OSl.nil w k).toR (fun g o n c hv=>by cases hv) (fun h=>by cases h) (by simp) (fun j x u hx=>by simp at hx)
 |agg l m hl h ih=>
  intro v hr;cases hr with
  |agg _ vs hs hf hr=>
   refine .agg _ vs (by omega) (fun y hy=>?_) (fun j y u hy hu=>?_)
   ·obtain⟨i,hi⟩:=List.getElem?_of_mem hy;obtain⟨x,hx⟩:=qcn hl hi;obtain⟨f1,f2⟩:=hf x (qar hx);exact⟨(h i x y hx hi).free f1,(h i x y hx hi).one f2⟩
   ·obtain⟨x,hx⟩:=qcn hl hy;exact ih j x y hx hy (hr j x u hx hu)
 |tup l m hl h ih=>
  intro v hr;cases hr with
  |tup _ vs hs hf hr=>
   refine .tup _ vs (by omega) (fun y hy=>?_) (fun j y u hy hu=>?_)
   ·obtain⟨i,hi⟩:=List.getElem?_of_mem hy;obtain⟨x,hx⟩:=qcn hl hi;exact(h i x y hx hi).free (hf x (qar hx))
   ·obtain⟨x,hx⟩:=qcn hl hy;exact ih j x y hx hy (hr j x u hx hu)
 |sl k l m hl hkl h ih=>
  intro v hr;cases hr with
  |sl _ _ _ _ xs hk hx hd ho hf hr=>
   obtain⟨hfl,hfp⟩:=qkC hl hkl;refine .sl false k m v xs (fun s hs=>?_) (by rw[<-hl];exact hx) (fun g o n c hv j hj=>hd g o n c hv j (by rw[hl];exact hj)) (fun h=>by cases h) (fun s hs y hy=>?_) (fun t y u hy hu=>?_)
   ·obtain⟨i,hi⟩:=List.getElem?_of_mem hs;obtain⟨r,hr⟩:=qcn hl hi;rw[<-hkl i r s hr hi];exact hk r (qar hr)
   ·obtain⟨i,hi⟩:=List.getElem?_of_mem hs;obtain⟨j,hj⟩:=List.getElem?_of_mem hy;obtain⟨r,hr⟩:=qcn hl hi;obtain⟨x,hx⟩:=qcn (hkl i r s hr hi) hj;obtain⟨f1,f2⟩:=hf r (qar hr) x (qar hx);have hn:=h i j r s x y hr hi hx hj;exact⟨hn.free f1,hn.one f2⟩
   ·obtain⟨x,hx⟩:=qcn hfl hy;obtain⟨i,j,r,s,e1,e2,e3,e4⟩:=hfp t x y hx hy;exact ih i j r s x y e1 e2 e3 e4 (hr t x u hx hu)
theorem PC.nilD{P:Program}{E:Env}{f:FuncId}{args:List AV}{H:Hp}{Q:AV->Hp->Prop}(h:PC P E f args H (fun v H'=>∃v',NilD v v'/\Q v' H')):PC P E f args H Q:=
 ⟨h.1,fun w β Rd Ow cargs h1 h2 h3 h4=>(h.2 w β Rd Ow cargs h1 h2 h3 h4).mono fun e w' ⟨u,v,H',β',Rd',Ow',he,⟨v',hn,hQ⟩,hp⟩=>
  ⟨u,v',H',β',Rd',Ow',he,hQ,hn.rel hp.rel,hn.bnd hp.bnd,fun g hg=>hp.own g (hn.own u g hg),hn.dis hp.ne,hp.hr,hp.old,hp.len,hp.keep,hp.frame,hp.os,hp.tape,hp.output,hp.size⟩⟩
end Go.Proofs.YtnnhdehmlkkfjaaGreatDoor
namespace Go.Proofs.YtnnhdehmlkkfjaaGreatDoor
open Go Go.RowKit Go.Proofs
def goD(d:Dec):Prop:=d.done=false/\d.err=0
theorem qbU(d:Dec)(b:UInt8)(s:List UInt8):qat d (b::s)=if(feed1 d b).done=true\/(feed1 d b).err≠0 then(feed1 d b,1)else((qat (feed1 d b) s).1,(qat (feed1 d b) s).2+1):=rfl
theorem qfC{d:Dec}{b:UInt8}(s:List UInt8)(h:goD (feed1 d b)):qat d (b::s)=((qat (feed1 d b) s).1,(qat (feed1 d b) s).2+1):=by
 rw[qbU,if_neg];rintro(h1|h1)
 ·rw[h.1]at h1;cases h1
 ·exact h1 h.2
theorem qnM{d:Dec}{b:UInt8}(s:List UInt8)(h:(feed1 d b).done=true\/(feed1 d b).err≠0):qat d (b::s)=(feed1 d b,1):=by rw[qbU,if_pos h]
theorem qdD:∀(a:List UInt8) (d e:Dec) (s:List UInt8),qat d a=(e,a.length)->goD e->qat d (a++s)=((qat e s).1,(qat e s).2+a.length)
 |[],d,e,s,h,_=>by cases h;simp
 |b::a,d,e,s,h,hg=>by
  rw[List.cons_append,qbU];rw[qbU]at h;split at h
  ·rename_i hs;have h1:=(Prod.mk.inj h).1;rw[h1]at hs;rcases hs with hs|hs
   ·rw[hg.1]at hs;cases hs
   ·exact absurd hg.2 hs
  ·rename_i hs;rw[if_neg hs];have h1:=Prod.mk.inj h;have h2:(qat (feed1 d b) a).2=a.length:=by have:=h1.2;simp at this;omega
   rw[qdD a (feed1 d b) e s (by rw[<-h1.1,<-h2]) hg];simp;omega
theorem qfk:∀(a:List UInt8) (d:Dec),d.st= .size->goD d->(∀b∈a,b≠10)->d.line.length+a.length<=255->qat d a=({d with line:=d.line++a,total:=d.total+a.length},a.length)
 |[],d,_,_,_,_=>by simp[qat]
 |b::a,d,hs,hg,ha,hl=>by
  have hb:b≠10:=ha b (by simp);simp only[zqL]at hl
  have h1:feed1 d b={d with line:=d.line++[b],total:=d.total+1}:=by
   unfold feed1 qbR;simp only[hs,qfQ,hb,if_pos,ne_eq,not_false_eq_true];rw[if_neg (by simp;omega),<-hg.2]
  have hg':goD (feed1 d b):=by rw[h1];exact hg
  rw[qfC _ hg',h1,qfk a {d with line:=d.line++[b],total:=d.total+1} hs hg (fun c hc=>ha c (by simp[hc])) (by simp;omega)];simp;omega
theorem qfj:∀(a:List UInt8) (d:Dec),d.st= .trailer->goD d->(∀b∈a,b≠10)->(d.section_:Int)+a.length<=d.room->qat d a=({d with line:=d.line++a,section_:=d.section_+a.length,total:=d.total+a.length},a.length)
 |[],d,_,_,_,_=>by simp[qat]
 |b::a,d,hs,hg,ha,hl=>by
  have hb:b≠10:=ha b (by simp);simp only[zqL]at hl
  have h1:feed1 d b={d with line:=d.line++[b],section_:=d.section_+1,total:=d.total+1}:=by
   unfold feed1 qbR;simp only[hs,qbr,hb,if_pos,ne_eq,not_false_eq_true];rw[if_neg (by omega)];simp only[hs,<-hg.2]
  have hg':goD (feed1 d b):=by rw[h1];exact hg
  rw[qfC _ hg',h1,qfj a {d with line:=d.line++[b],section_:=d.section_+1,total:=d.total+1} hs hg (fun c hc=>ha c (by simp[hc])) (by simp;omega)];simp;omega
theorem qiY:∀(a:List UInt8) (d:Dec),d.st= .data->goD d->(a.length:Int)<d.left->qat d a=({d with body:=d.body++a,left:=d.left-a.length,total:=d.total+a.length},a.length)
 |[],d,_,_,_=>by simp[qat]
 |b::a,d,hs,hg,hl=>by
  simp only[zqL]at hl
  have h1:feed1 d b={d with body:=d.body++[b],left:=d.left-1,total:=d.total+1}:=by
   unfold feed1 qbR;simp only[hs,qhz];rw[if_neg (by omega)];simp only[hs,<-hg.2]
  have hg':goD (feed1 d b):=by rw[h1];exact hg
  rw[qfC _ hg',h1,qiY a {d with body:=d.body++[b],left:=d.left-1,total:=d.total+1} hs hg (by simp;omega)];simp;exact⟨by omega,by omega⟩
theorem qkw(a:List UInt8)(d:Dec)(hs:d.st= .data)(hg:goD d)(h0:a≠[])(hl:(a.length:Int)=d.left):qat d a=({d with body:=d.body++a,left:=0,st:= .first,total:=d.total+a.length},a.length):=by
 obtain⟨x,b,rfl⟩:∃x b,a=x++[b]:=⟨a.dropLast,a.getLast h0,(List.dropLast_concat_getLast h0).symm⟩
 rw[zqK]at hl;simp at hl;have hr:=qiY x d hs hg (by omega);rw[qdD x d _ [b] hr hg]
 have h1:feed1 {d with body:=d.body++x,left:=d.left-x.length,total:=d.total+x.length} b={d with body:=d.body++(x++[b]),left:=0,st:= .first,total:=d.total+(x++[b]).length}:=by
  unfold feed1 qbR;simp only[hs,qhz];rw[if_pos (by omega)];simp[<-hg.2];omega
 rw[qfC [] (by rw[h1];exact hg),h1];simp[qat];omega
theorem qkJ(l:List UInt8)(a n:Nat)(h:a+n<=l.length):endL ((l.drop a).take n++[10])=if n=0\/l[a+n-1]? ≠some 13 then none else some ((l.drop a).take (n-1)):=by
 have hlen:((l.drop a).take n).length=n:=by rw[zqJ,zqI];omega
 unfold endL;rw[zqK,hlen];by_cases h0:n=0
 ·subst h0;simp
 ·obtain⟨m,rfl⟩:∃m,n=m+1:=⟨n-1,by omega⟩
  have hat:((l.drop a).take (m+1))[m]? =l[a+m]? :=by rw[zqG (by omega),zqN]
  obtain⟨c,hc⟩:∃c,l[a+m]? =some c:=⟨_,zqD (by omega)⟩
  have hsn:(l.drop a).take (m+1)=(l.drop a).take m++[c]:=by
   rw[List.take_add_one,zqN,hc];rfl
  have hml:((l.drop a).take m).length=m:=by rw[zqJ,zqI];omega
  have e1:m+1+[(10:UInt8)].length-2=m:=by simp
  have e2:a+(m+1)-1=a+m:=by omega
  rw[e1,e2,hc,hsn,List.append_assoc,List.drop_append_of_le_length (by omega),List.drop_of_length_le (by omega),List.take_append_of_le_length (by omega),zqE (by omega)];by_cases hcc:c=13
  ·subst hcc;simp
  ·simp[hcc]
def qnm(d:Dec)(x:Option (List UInt8)):Dec×Int:=match x with
 |none=>({d with line:=[]},100)
 |some s=>if(qam s).2.2≠0 then({d with line:=[]},(qam s).2.2)
  else if d.most-d.body.length<(qam s).1 then({d with line:=[]},102)
  else if(qam s).1=0 then({d with line:=[],st:= .trailer},0)
  else({d with line:=[],left:=(qam s).1,st:= .data},0)
theorem qdE(d:Dec)(hs:d.st= .size):feed1 d 10={(qnm {d with total:=d.total+1} (endL (d.line++[10]))).1 with err:=(qnm {d with total:=d.total+1} (endL (d.line++[10]))).2}:=by
 unfold feed1 qbR;simp only[hs,qfQ,ne_eq,not_true_eq_false,if_false];cases endL (d.line++[10])<;>rfl
def qd5(d:Dec)(x:Option (List UInt8)):Dec×Int:=match x with
 |none=>({d with section_:=d.section_+1,line:=[]},101)
 |some s=>if s=[]then({d with section_:=d.section_+1,line:=[],done:=true},0)
  else if d.fields<=d.trailers.length then({d with section_:=d.section_+1,line:=[]},104)
  else match qbE s with
   |none=>({d with section_:=d.section_+1,line:=[]},101)
   |some f=>if mayB f.name=true then({d with section_:=d.section_+1,line:=[],trailers:=d.trailers++[f]},0)else({d with section_:=d.section_+1,line:=[]},101)
theorem qhv(d:Dec)(hs:d.st= .trailer)(hr:(d.section_:Int)<d.room):feed1 d 10={(qd5 {d with total:=d.total+1} (endL (d.line++[10]))).1 with err:=(qd5 {d with total:=d.total+1} (endL (d.line++[10]))).2}:=by
 unfold feed1 qbR;simp only[hs,qbr,ne_eq,not_true_eq_false,if_false];rw[if_neg (by omega)];cases endL (d.line++[10])<;>rfl
theorem qjF(l:List UInt8)(h:l.all qaf=true):qaJ l=[]:=by
 induction l with
 |nil=>rfl
 |cons c l ih=>
  simp only[List.all_cons,Bool.and_eq_true]at h;rw[qgO c h.1,ih h.2]
theorem qgN(l:List UInt8):(qaJ l).length<=l.length:=by
 rw[qfc];unfold rt lt;rw[List.length_reverse];refine Nat.le_trans (List.dropWhile_sublist _).length_le ?_;rw[List.length_reverse];exact(List.dropWhile_sublist _).length_le
def not10(b:UInt8):Bool:=b !=10
theorem qmh{p:UInt8->Bool}{l:List UInt8}(h:run p l<l.length):∃b,l[run p l]? =some b/\p b=false:=by
 unfold run at h⊢
 induction l with
 |nil=>simp at h
 |cons a l ih=>
  by_cases ha:p a=true
  ·rw[List.takeWhile_cons_of_pos ha]at h⊢;obtain⟨b,h1,h2⟩:=ih (by simpa using h);exact⟨b,by simpa using h1,h2⟩
  ·rw[List.takeWhile_cons_of_neg ha];exact⟨a,rfl,by simpa using ha⟩
theorem qmg{p:UInt8->Bool}{l:List UInt8}{k:Nat}(h:k<=run p l):(l.take k).all p=true:=by
 induction l generalizing k with
 |nil=>simp
 |cons a l ih=>
  cases k with
  |zero=>simp
  |succ k=>
   by_cases ha:p a=true
   ·unfold run at h;rw[List.takeWhile_cons_of_pos ha]at h;simp only[List.take_succ_cons,List.all_cons,ha,Bool.true_and];exact ih (by simpa[run]using h)
   ·unfold run at h;rw[List.takeWhile_cons_of_neg ha]at h;simp at h
theorem run_at{p:UInt8->Bool}{l:List UInt8}{k:Nat}{b:UInt8}(h:k<run p l)(hb:l[k]? =some b):p b=true:=by
 have:=qmg (k:=k+1) (p:=p) (l:=l) (by omega);rw[qa8 p l k b hb]at this;simpa using(Bool.and_eq_true _ _▸this).2
section
variable (E:Env)(H:Hp)(Q:AV->Hp->Prop)
def quD(l:List UInt8)(c:UInt8)(H:Hp)(fr:List AV)(H':Hp):Prop:=H'=H/\∃i:Nat,i<=l.length/\(∀j,j<i->l[j]? ≠some c)/\∃x:Nat->AV,fr=[.str l,.int .u8 (c.toNat:Int),x 2,x 3,x 4,.int .i64 i,x 6,x 7,x 8,x 9,x 10,x 11,x 12,x 13,x 14,x 15,x 16,x 17]
theorem qhs(l:List UInt8)(c:UInt8)(hl:l.length<=cap)(hQ:Q (.int .i64 (Lib.indexByte l c)) H):PC Tryz.prog E 99 [.str l,.int .u8 (c.toNat:Int)] H Q:=by
 simp only[cap]at hl;refine qac Tryz.func99 rfl [] [] (by kernel_rfl) (fun hB=>?_);have fin:∀z:Int,Lib.indexByte l c=z->Q (.int .i64 z) H:=fun z hz=>hz▸hQ;simp[Tryz.ntmps99,Tryz.results99,List.replicate_succ];refine qaB (quD l c H) (fun fr _=>l.length-(ai (aget fr 5)).toNat) ⟨rfl,0,by omega,(fun j hj=>by omega),friz⟩ ?_;rintro fr H' ⟨rfl,i,hi,hno,x,rfl⟩;by_cases h:i<l.length
 ·obtain⟨b,hb⟩:∃b,l[i]? =some b:=⟨_,zqD h⟩
  have hat:=qas hb;have hw:IntKind.i64.wrap ((i:Int)+1)=i+1:=wiz;by_cases he:b=c
  ·subst he;simp[h,hat];exact aQz hB (h6:=(fin _ (qmF l b i hb hno)))
  ·have t1:((b.toNat:Int)==(c.toNat:Int))=false:=by
    rw[beq_eq_false_iff_ne];intro hh;exact he (UInt8.toNat_inj.1 (by omega))
   simp[h,hat,t1,hw];refine Klz ⟨rfl,i+1,by omega,(fun j hj=>?_),friz⟩;by_cases hji:j=i
   ·subst hji;rw[hb];intro e;cases e;exact he rfl
   ·exact hno j (by omega)
 ·simp[h];exact aQz hB (h6:=(fin _ (qmE l c (fun j hj=>hno j (by omega)))))
def qtq(l:List UInt8)(c:Nat)(H:Hp)(fr:List AV)(H':Hp):Prop:=H'=H++[[.str [],.str []]]/\∃i:Nat,i<=c/\i<=128/\(l.take i).all qai=true/\∃x:Nat->AV,fr=[.str l,x 1,.ptr (some (H.length,0)),x 3,x 4,.int .i64 c,.int .i64 i,x 7,x 8,x 9,x 10,x 11,x 12,x 13,x 14,x 15,x 16,x 17,x 18,x 19,x 20,x 21,x 22,x 23,x 24,x 25,x 26,x 27,x 28,x 29,x 30,x 31,x 32,x 33,x 34,x 35,x 36,x 37,x 38,x 39,x 40,x 41,x 42,x 43,x 44,x 45,x 46,x 47,x 48,x 49,x 50,x 51,x 52,x 53,x 54,x 55,x 56,x 57,x 58,x 59,x 60,x 61,x 62,x 63,x 64,x 65,x 66,x 67,x 68,x 69,x 70,x 71,x 72,x 73,x 74,x 75,x 76,x 77,x 78,x 79,x 80,x 81,x 82]
def qtp(l:List UInt8)(c:Nat)(H:Hp)(fr:List AV)(H':Hp):Prop:=H'=H++[[.str [],.str []]]/\∃i:Nat,i<=l.length/\c+1<=i/\fldB ((l.drop (c+1)).take (i-(c+1)))=true/\∃x:Nat->AV,fr=[.str l,x 1,.ptr (some (H.length,0)),x 3,x 4,.int .i64 c,x 6,.int .i64 i,x 8,x 9,x 10,x 11,x 12,x 13,x 14,x 15,x 16,x 17,x 18,x 19,x 20,x 21,x 22,x 23,x 24,x 25,x 26,x 27,x 28,x 29,x 30,x 31,x 32,x 33,x 34,x 35,x 36,x 37,x 38,x 39,x 40,x 41,x 42,x 43,x 44,x 45,x 46,x 47,x 48,x 49,x 50,x 51,x 52,x 53,x 54,x 55,x 56,x 57,x 58,x 59,x 60,x 61,x 62,x 63,x 64,x 65,x 66,x 67,x 68,x 69,x 70,x 71,x 72,x 73,x 74,x 75,x 76,x 77,x 78,x 79,x 80,x 81,x 82]
def qto(l:List UInt8)(c:Nat)(H:Hp)(fr:List AV)(H':Hp):Prop:=H'=H++[[.str [],.str []]]/\∃i:Nat,i<=l.length/\c+1<=i/\((l.drop (c+1)).take (i-(c+1))).all qaf=true/\∃x:Nat->AV,fr=[.str l,x 1,.ptr (some (H.length,0)),x 3,x 4,x 5,x 6,x 7,x 8,.int .i64 i,x 10,x 11,x 12,x 13,x 14,x 15,x 16,x 17,x 18,x 19,x 20,x 21,x 22,x 23,x 24,x 25,x 26,x 27,x 28,x 29,x 30,x 31,x 32,x 33,x 34,x 35,x 36,x 37,x 38,x 39,x 40,x 41,x 42,x 43,x 44,x 45,x 46,x 47,x 48,x 49,x 50,x 51,x 52,x 53,x 54,x 55,x 56,x 57,x 58,x 59,x 60,x 61,x 62,x 63,x 64,x 65,x 66,x 67,x 68,x 69,x 70,x 71,x 72,x 73,x 74,x 75,x 76,x 77,x 78,x 79,x 80,x 81,x 82]
theorem qsq(l:List UInt8)(hl:l.length<=cap)(hQ1:∀f,qbE l=some f->Q (.tup [.agg [.str f.name,.str f.value],.int .i64 0,.int .i64 0]) H)(hQ2:qbE l=none->∀pl e,e≠0->Q (.tup [.agg [.str [],.str []],.int .i64 pl,.int .i64 e]) H):
  PC Tryz.prog E 70 [.str l] H Q:=by
 refine qac Tryz.func70 rfl [] [] (by kernel_rfl) (fun hB=>?_);have hl':=hl;simp only[cap]at hl'
 have bad:∀(fr:List AV) (pl e:Int),qbE l=none->e≠0->aget fr 2= .ptr (some (H.length,0))->aget fr 3= .int .i64 pl->aget fr 4= .int .i64 e->qci Tryz.prog [ResultVar.cell 2 89,ResultVar.tmp 3,ResultVar.tmp 4] H.length Q .ret fr (H++[[.str [],.str []]]):=fun fr pl e h0 he h2 h3 h4=>
  qab hB (v0:= .tup [.agg [.str [],.str []],.int .i64 pl,.int .i64 e]) (by simp[h2,h3,h4]) (qaa _) (by simp) (hQ2 h0 pl e he)
 obtain⟨c,hc⟩:=exz (run ncol l);have hcl:=qbp ncol l;rw[hc]at hcl;have hib:=qcJ l;rw[hc]at hib
 have hcase:(∃a r,l=a::r/\qaf a=true)\/(l=[]\/∃a r,l=a::r/\qaf a=false):=by
  cases l with
  |nil=>exact .inr (.inl rfl)
  |cons a r=>
   cases hb:qaf a
   ·exact .inr (.inr ⟨a,r,rfl,hb⟩)
   ·exact .inl ⟨a,r,rfl,hb⟩
 have key:∀fr:List AV,(∃x:Nat->AV,fr=[.str l,x 1,.ptr (some (H.length,0)),x 3,x 4,x 5,x 6,x 7,x 8,x 9,x 10,x 11,x 12,x 13,x 14,x 15,x 16,x 17,x 18,x 19,x 20,x 21,x 22,x 23,x 24,x 25,x 26,x 27,x 28,x 29,x 30,x 31,x 32,x 33,x 34,x 35,x 36,x 37,x 38,x 39,x 40,x 41,x 42,x 43,x 44,x 45,x 46,x 47,x 48,x 49,x 50,x 51,x 52,x 53,x 54,x 55,x 56,x 57,x 58,x 59,x 60,x 61,x 62,x 63,x 64,x 65,x 66,x 67,x 68,x 69,x 70,x 71,x 72,x 73,x 74,x 75,x 76,x 77,x 78,x 79,x 80,x 81,x 82])->True:=fun _ _=>trivial;rcases hcase with⟨a,r,rfl,hb⟩|hcase
 ·have hc0:qbE (a::r)=none:=by
   by_cases hz:c=0
   ·exact qew (by rw[hc];exact hz)
   ·exact qfw (i:=0) (b:=a) (by omega) rfl (qia a hb)
  have hne:(a::r !=[])=true:=rfl;simp[Tryz.ntmps70,Tryz.results70,List.replicate_succ,hne];refine qa9 E _ _ a ?_;simp[hb];exact bad _ 0 63 hc0 (by decide) rfl rfl rfl
 case' inr=>
  rcases hcase with rfl|⟨a,r,hl0,hb⟩
  case' inl=>
   simp[Tryz.ntmps70,Tryz.results70,List.replicate_succ]
  case' inr=>
   have hne:(l !=[])=true:=by rw[hl0];rfl
   have hl1:0<l.length:=by rw[hl0];simp
   have hla:lat l 0=some a:=by rw[hl0];rfl
   simp[Tryz.ntmps70,Tryz.results70,List.replicate_succ,hne,hl1,hla];refine qa9 E _ _ a ?_;simp[hb];clear hne hla hl0
 rotate_left
 ·refine qhs E _ _ [] 58 (by simp[cap]) ?_;rw[show Lib.indexByte [] 58= -1 from rfl];simp;exact bad _ 0 62 (qeV (by simp)) (by decide) rfl rfl rfl
 ·refine qhs E _ _ l 58 hl ?_;rw[hib];by_cases hcc:c<l.length;rotate_left
  ·have hno:=qeV (l:=l) (by omega);simp[hcc];exact bad _ l.length 62 hno (by decide) rfl rfl rfl
  ·by_cases hz:c=0
   ·have hno:=qew (l:=l) (by omega);subst hz;simp[hcc];exact bad _ 0 60 hno (by decide) rfl rfl rfl
   ·have hz2:((c:Int)==0)=false:=by simp;omega
    simp[hcc,hz,hz2];refine qaB (qtq l c H) (fun fr _=>c-(ai (aget fr 6)).toNat) ⟨rfl,0,by omega,by omega,by simp,friz⟩ ?_;rintro fr H' ⟨rfl,i,hi,hi2,hall,x,rfl⟩;by_cases h:i<c
    ·obtain⟨b,hbi⟩:∃b,l[i]? =some b:=⟨_,zqD (by omega)⟩
     have hat:=qas hbi;by_cases h128:i=128
     ·have hno:=qix (l:=l) (by omega);subst h128;have h':(128:Int)<c:=by omega
      simp[h'];exact bad _ 128 60 hno (by decide) rfl rfl rfl
     ·have h128':((i:Int)==128)=false:=by simp;omega
      have hw:IntKind.i64.wrap ((i:Int)+1)=i+1:=wiz;have hil:i<l.length:=by omega
      simp[h,h128',hat,hil];refine qdM E _ _ b ?_;cases hs:qai b with
      |false=>
       have hno:=qfw (by rw[hc];exact h) hbi hs;simp;exact bad _ i 60 hno (by decide) rfl rfl rfl
      |true=>
       simp[hw];exact Klz ⟨rfl,i+1,by omega,by omega,by rw[qa8 qai l i b hbi,hall,hs];rfl,friz⟩
    ·obtain rfl:i=c:=by omega
     have hnm:qbm (l.take i)=true:=by
      have:l.take i≠[]:=by intro e;have h2:=congrArg List.length e;rw[zqJ]at h2;have h3:min i l.length=0:=h2;omega
      unfold qbm tokB;rw[hall,decide_eq_true (by rw[zqJ];omega)];simpa using this
     have hw:IntKind.i64.wrap ((i:Int)+1)=((i+1:Nat):Int):=by rw[qak (by omega) (by omega)];omega
     simp[hw,-Int.natCast_add];refine qaB (qtp l i H) (fun fr _=>l.length-(ai (aget fr 7)).toNat) ⟨rfl,i+1,by omega,by omega,by simp[fldB],friz⟩ ?_;rintro fr H' ⟨rfl,k,hk,hk2,hfl,y,rfl⟩;by_cases hkl:k<l.length
     ·obtain⟨b,hbk⟩:∃b,l[k]? =some b:=⟨_,zqD hkl⟩
      have hat:=qas hbk;have hwk:IntKind.i64.wrap ((k:Int)+1)=k+1:=wiz;have hdk:(l.drop (i+1))[k-(i+1)]? =some b:=by rw[zqN,show i+1+(k-(i+1))=k by omega];exact hbk
      simp[hkl,hat];refine qef E _ _ b ?_;cases hs:fcB b with
      |false=>
       have hno:qbE l=none:=qkl (by rw[hc];exact qd3 fcB _ _ b hdk hs);simp;exact bad _ k 61 hno (by decide) rfl rfl rfl
      |true=>
       simp[hwk];refine Klz ⟨rfl,k+1,by omega,by omega,?_,friz⟩;rw[show k+1-(i+1)=k-(i+1)+1 by omega,fldB,qa8 fcB _ _ b hdk];rw[fldB]at hfl;rw[hfl,hs];rfl
     ·have hfl':fldB (l.drop (i+1))=true:=by
       rw[zqE (by rw[zqI];omega)]at hfl;exact hfl
      have hi1:i+1<=l.length:=by omega
      simp[hkl,hw,hi1,-Int.natCast_add];refine qcm E _ _ (l.drop (i+1)) (by rw[zqI];omega) ?_;have htl:=qgN (l.drop (i+1));rw[zqI]at htl;by_cases hbig:8192<(qaJ (l.drop (i+1))).length
      ·have hno:qbE l=none:=qkm (by rw[hc];exact hbig);have hbig':(8192:Int)<(qaJ (l.drop (i+1))).length:=by omega
       simp[hbig',hw,-Int.natCast_add];refine qaB (qto l i H) (fun fr _=>l.length-(ai (aget fr 9)).toNat) ⟨rfl,i+1,by omega,by omega,by simp,friz⟩ ?_;rintro fr H' ⟨rfl,m,hm,hm2,hbl,z,rfl⟩
       have hml:m<l.length:=by
        apply Nat.lt_of_not_le;intro hge;rw[zqE (by rw[zqI];omega)]at hbl;rw[qjF _ hbl]at hbig;simp at hbig
       obtain⟨b,hbm⟩:∃b,l[m]? =some b:=⟨_,zqD hml⟩
       have hat:=qas hbm;have hwm:IntKind.i64.wrap ((m:Int)+1)=m+1:=wiz;have hwm2:IntKind.i64.wrap ((m:Int)+8192)=m+8192:=wiz;have hdm:(l.drop (i+1))[m-(i+1)]? =some b:=by rw[zqN,show i+1+(m-(i+1))=m by omega];exact hbm
       simp[hml,hat];refine qa9 E _ _ b ?_;cases hs:qaf b with
       |false=>
        simp[hwm2];exact bad _ (m+8192) 61 hno (by decide) rfl rfl rfl
       |true=>
        simp[hwm];refine Klz ⟨rfl,m+1,by omega,by omega,?_,friz⟩;rw[show m+1-(i+1)=m-(i+1)+1 by omega,qa8 qaf _ _ b hdm,hbl,hs];rfl
      ·have hbig':¬(8192:Int)<(qaJ (l.drop (i+1))).length:=by omega
       have hf:qbE l=some ⟨l.take i,qaJ (l.drop (i+1))⟩:=by
        unfold qbE;rw[hc,if_pos ⟨hcc,hnm,hfl',by omega⟩]
       have hil:i<=l.length:=by omega
       simp[hbig',hil];exact qab hB (v0:= .tup [.agg [.str (l.take i),.str (qaJ (l.drop (i+1)))],.int .i64 0,.int .i64 0]) (by simp) (qaa _) (by simp) (hQ1 _ hf)
end
def qc3(l:List UInt8)(a m:Nat):Int:=if a+run not10 (l.drop a)<l.length/\run not10 (l.drop a)<m then((a+run not10 (l.drop a):Nat):Int)else-1
def wkA(t e:Int)(d:Bool)(b:List UInt8)(z:AV):AV:= .agg [.int .i64 t,.int .i64 e,.bool d,.str b,z]
section
variable (E:Env)(H:Hp)(Q:AV->Hp->Prop)
def endInv(l:List UInt8)(a m:Nat)(H:Hp)(fr:List AV)(H':Hp):Prop:=H'=H/\∃n:Nat,a+n<=l.length/\n<=m/\((l.drop a).take n).all not10=true/\∃x:Nat->AV,fr=[.str l,.int .i64 a,.int .i64 m,x 3,x 4,x 5,x 6,.int .i64 (a+n:Nat),x 8,x 9,x 10,x 11,x 12,x 13,x 14,x 15,x 16,x 17,x 18,x 19,x 20,x 21,x 22,x 23,x 24,x 25,x 26]
theorem qkI(l:List UInt8)(a m:Nat)(hl:l.length<=1000000000)(ha:a<=l.length)(hm:m<=1000000000)(hQ:Q (.int .i64 (qc3 l a m)) H):PC Tryz.prog E 129 [.str l,.int .i64 a,.int .i64 m] H Q:=by
 refine qac Tryz.func129 rfl [] [] (by kernel_rfl) (fun hB=>?_);simp[Tryz.ntmps129,Tryz.results129,List.replicate_succ];refine qaB (endInv l a m H) (fun fr _=>l.length-(ai (aget fr 7)).toNat) ⟨rfl,0,by omega,by omega,rfl,friz⟩ ?_;rintro fr H' ⟨rfl,n,hn,hnm,hall,x,rfl⟩;obtain⟨i,hi⟩:∃i,i=a+n:=⟨_,rfl⟩
 rw[<-hi]at hn⊢;have hw:IntKind.i64.wrap ((i:Int)+1)=i+1:=wiz;have hw2:IntKind.i64.wrap ((i:Int)-a)=n:=by rw[qak (by omega) (by omega)];omega
 by_cases h:i<l.length
 ·obtain⟨b,hb⟩:∃b,l[i]? =some b:=⟨_,zqD h⟩
  have hb2:(l.drop a)[n]? =some b:=by rw[zqN,<-hi];exact hb
  have hat:=qas hb;by_cases hnm2:n<m
  ·by_cases h10:b=10
   ·subst h10;have hr:run not10 (l.drop a)=n:=qby not10 _ n hall (by rw[zqI];omega) (fun c hc=>by rw[hb2]at hc;cases hc;rfl);have he:qc3 l a m=(i:Int):=by unfold qc3;rw[hr,if_pos ⟨by omega,hnm2⟩,<-hi]
    rw[he]at hQ;simp[h,hw2,hnm2,hat];exact aQz hB (h6:=hQ)
   ·have t1:((b.toNat:Int)==10)=false:=qdl b 10 (by omega) h10;simp[h,hw2,hnm2,hat,t1,hw];exact Klz ⟨rfl,n+1,by omega,by omega,by rw[qbB not10 (l.drop a) n b hb2,hall];simp[not10,h10],qag (by simp;omega)⟩
  ·have he:qc3 l a m= -1:=by
    unfold qc3;rw[if_neg];rintro⟨h1,h2⟩;have h3:=qmh (p:=not10) (l:=l.drop a) (by rw[zqI];omega);obtain⟨c,h4,h5⟩:=h3;have:run not10 (l.drop a)<n:=by omega
    have h6:((l.drop a).take n)[run not10 (l.drop a)]? =some c:=by rw[zqG this];exact h4
    rw[qd3 not10 _ _ c h6 h5]at hall;cases hall
   rw[he]at hQ;simp[h,hw2,hnm2];exact aQz hB (h6:=hQ)
 ·have he:qc3 l a m= -1:=by
   have hr:run not10 (l.drop a)=n:=qby not10 _ n hall (by rw[zqI];omega) (fun c hc=>by rw[zqN]at hc;have:=(zqC.1 hc).1;omega);unfold qc3;rw[hr,if_neg];rintro⟨h1,h2⟩;omega
  rw[he]at hQ;simp[h];exact aQz hB (h6:=hQ)
variable (t e:Int)(d:Bool)(b:List UInt8)(z:AV)(z1:z.dis=z)(z2:z.free=true)(z3:Bnd H.length z)
include z1 z2 z3
theorem qbO(a:Nat)(e':Int)(ha:a<=1000000000)(hQ:Q (wkA (a+1:Nat) e' d b z) H):PC Tryz.prog E 131 [wkA t e d b z,.int .i64 a,.int .i64 e'] H Q:=by
 refine qac Tryz.func131 rfl [] [] (by kernel_rfl) (fun hB=>?_);have hw:IntKind.i64.wrap ((a:Int)+1)=((a+1:Nat):Int):=by rw[qak (by omega) (by omega)];omega
 simp[Tryz.ntmps131,Tryz.results131,List.replicate_succ,wkA,hw,z1,z2,-Int.natCast_add];exact qab hB (v0:=wkA (a+1:Nat) e' d b z) (by simp[wkA,z1,z2,-Int.natCast_add]) (qaa _) (by simp[wkA,z3]) hQ
theorem qlr(l:List UInt8)(a n:Nat)(e':Int)(hl:l.length<=1000000000)(ha:a<=l.length)(hQ1:n<l.length-a->Q (wkA (a+n+1:Nat) e' d b z) H)(hQ2:l.length-a<=n->Q (wkA l.length e d b z) H):
  PC Tryz.prog E 130 [wkA t e d b z,.str l,.int .i64 a,.int .i64 n,.int .i64 e'] H Q:=by
 refine qac Tryz.func130 rfl [] [] (by kernel_rfl) (fun hB=>?_);have hw1:IntKind.i64.wrap ((l.length:Int)-a)=((l.length-a:Nat):Int):=by rw[qak (by omega) (by omega)];omega
 by_cases h:n<l.length-a
 ·have hw2:IntKind.i64.wrap ((a:Int)+n)=((a+n:Nat):Int):=by rw[qak (by omega) (by omega)];omega
  have h':(n:Int)<((l.length-a:Nat):Int):=by omega
  simp[Tryz.ntmps130,Tryz.results130,List.replicate_succ,wkA,hw1,hw2,h',z1,z2,-Int.natCast_add];refine qbO E _ _ t e d b z z1 z2 (z3.mono (by simp)) (a+n) e' (by omega) ?_;simp[wkA,z1,z2,-Int.natCast_add];exact qab hB (v0:=wkA (a+n+1:Nat) e' d b z) (by simp[wkA,z1,z2,-Int.natCast_add]) (qaa _) (by simp[wkA,z3]) (hQ1 h)
 ·have h':¬(n:Int)<((l.length-a:Nat):Int):=by omega
  simp[Tryz.ntmps130,Tryz.results130,List.replicate_succ,wkA,hw1,h',z1,z2,-Int.natCast_add];exact qab hB (v0:=wkA l.length e d b z) (by simp[wkA,z1,z2,-Int.natCast_add]) (qaa _) (by simp[wkA,z3]) (hQ2 (by omega))
end
section
variable (m r f:Int)
def szD(B:List UInt8)(a:Nat):Dec:=⟨m,r,f,.size,[],0,B,[],0,a,false,0⟩
def daD(B:List UInt8)(n:Int)(a:Nat):Dec:=⟨m,r,f,.data,[],n,B,[],0,a,false,0⟩
def phD(i:Nat)(B:List UInt8)(a:Nat):Dec:=⟨m,r,f,if i=0 then .first else if i=1 then .second else .size,[],0,B,[],0,a,false,0⟩
def trD(B:List UInt8)(T:List Fld)(sec:Nat)(a:Nat):Dec:=⟨m,r,f,.trailer,[],0,B,T,sec,a,false,0⟩
def Fw(s:List UInt8)(d:Dec)(a:Nat):Prop:=qat (newD m r f) s=((qat d (s.drop a)).1,(qat d (s.drop a)).2+a)
def Ends(s:List UInt8)(t:Nat)(e:Int)(dn:Bool)(B:List UInt8)(T:List Fld):Prop:=
 (qat (newD m r f) s).2=t/\(qat (newD m r f) s).1.err=e/\(qat (newD m r f) s).1.done=dn/\(qat (newD m r f) s).1.body=B/\(qat (newD m r f) s).1.trailers=T
variable {m r f}{s:List UInt8}{d d1:Dec}{a n:Nat}{b:UInt8}{B:List UInt8}{T:List Fld}{sec:Nat}
theorem fw_new:Fw m r f s (szD m r f [] 0) 0:=rfl
theorem Fw.step(h:Fw m r f s d a)(h1:qat d ((s.drop a).take n)=(d1,((s.drop a).take n).length))(hg:goD d1)(hb:s[a+n]? =some b):
  (goD (feed1 d1 b)->Fw m r f s (feed1 d1 b) (a+n+1))/\((feed1 d1 b).done=true\/(feed1 d1 b).err≠0->qat (newD m r f) s=(feed1 d1 b,a+n+1)):=by
 have hlt:=(zqC.1 hb).1;have hlen:((s.drop a).take n).length=n:=by rw[zqJ,zqI];omega
 have hs:s.drop a=(s.drop a).take n++b::s.drop (a+n+1):=by
  have h2:(s.drop a).drop n=b::s.drop (a+n+1):=by
   rw[List.drop_drop,List.drop_eq_getElem_cons hlt];rw[(zqC.1 hb).2]
  conv=>lhs;rw[<-List.take_append_drop n (s.drop a),h2]
 have hc:=qdD _ d d1 (b::s.drop (a+n+1)) h1 hg;rw[<-hs,hlen]at hc;constructor
 ·intro hg2;unfold Fw at h⊢;rw[h,hc,qfC _ hg2];simp;omega
 ·intro hst;unfold Fw at h;rw[h,hc,qnM _ hst];simp;omega
theorem Fw.all(h:Fw m r f s d a)(ha:a<=s.length)(h1:qat d (s.drop a)=(d1,(s.drop a).length)):Ends m r f s s.length d1.err d1.done d1.body d1.trailers:=by
 unfold Fw at h;rw[h1]at h;unfold Ends;rw[h];rw[zqI];exact⟨by simp only;omega,rfl,rfl,rfl,rfl⟩
theorem qe0{t:Nat}(h:qat (newD m r f) s=(d1,t)):Ends m r f s t d1.err d1.done d1.body d1.trailers:=by
 unfold Ends;rw[h];exact⟨rfl,rfl,rfl,rfl,rfl⟩
theorem qcT{k:Nat}(h:k<=run not10 (s.drop a)):∀c∈(s.drop a).take k,c≠10:=by
 intro c hc;have:=List.all_eq_true.1 (qmg h) c hc;simpa[not10]using this
theorem at10(hj:a+n<s.length)(hn:run not10 (s.drop a)=n):s[a+n]? =some 10:=by
 obtain⟨c,h1,h2⟩:=qmh (p:=not10) (l:=s.drop a) (by rw[zqI];omega);rw[hn,zqN]at h1;simp[not10]at h2;rw[h1,h2]
theorem qnO(d:Dec)(b:UInt8)(hs:d.st= .size)(hb:b≠10)(hl:d.line.length=255):feed1 d b={d with line:=d.line++[b],total:=d.total+1,err:=100}:=by
 unfold feed1 qbR;simp only[hs,qfQ,hb,if_pos,ne_eq,not_false_eq_true];rw[if_pos (by simp;omega)]
theorem qtT(h:Fw m r f s (szD m r f B a) a)(hl:a+255<s.length)(hn:256<=run not10 (s.drop a)):Ends m r f s (a+256) 100 false B []:=by
 obtain⟨b,hb⟩:∃b,s[a+255]? =some b:=⟨_,zqD hl⟩
 have hlen:((s.drop a).take 255).length=255:=by rw[zqJ,zqI];omega
 have hr:=qfk ((s.drop a).take 255) (szD m r f B a) rfl ⟨rfl,rfl⟩ (qcT (by omega)) (by simp only[szD,hlen];decide)
 have hbn:b≠10:=by
  have:=run_at (p:=not10) (l:=s.drop a) (k:=255) (by omega) (by rw[zqN];exact hb);simpa[not10]using this
 have h1:=qnO {szD m r f B a with line:=(szD m r f B a).line++(s.drop a).take 255,total:=(szD m r f B a).total+((s.drop a).take 255).length} b rfl hbn (by simp only[szD,List.nil_append];exact hlen);have hst:=h.step hr ⟨rfl,rfl⟩ hb;rw[h1]at hst;exact qe0 (hst.2 (.inr (by show(100:Int)≠0;decide)))
theorem qtU(h:Fw m r f s (szD m r f B a) a)(ha:a<=s.length)(hl:s.length-a<=255)(hn:s.length-a<=run not10 (s.drop a)):Ends m r f s s.length 0 false B []:=by
 have hr:=qfk (s.drop a) (szD m r f B a) rfl ⟨rfl,rfl⟩ (by
  have:=qcT (s:=s) (a:=a) (k:=s.length-a) hn
  rwa[zqE (by rw[zqI];omega)]at this) (by rw[zqI];simp only[szD,List.length_nil];omega)
 exact h.all ha hr
section
variable (h:Fw m r f s (szD m r f B a) a)(hj:a+n<s.length)(hn:run not10 (s.drop a)=n)(h256:n<256)
include h hj hn h256
theorem qjJ:(goD (feed1 {szD m r f B a with line:=(s.drop a).take n,total:=a+n} 10)->Fw m r f s (feed1 {szD m r f B a with line:=(s.drop a).take n,total:=a+n} 10) (a+n+1))/\
  ((feed1 {szD m r f B a with line:=(s.drop a).take n,total:=a+n} 10).done=true\/(feed1 {szD m r f B a with line:=(s.drop a).take n,total:=a+n} 10).err≠0->qat (newD m r f) s=(feed1 {szD m r f B a with line:=(s.drop a).take n,total:=a+n} 10,a+n+1)):=by
 have hlen:((s.drop a).take n).length=n:=by rw[zqJ,zqI];omega
 have hr:=qfk ((s.drop a).take n) (szD m r f B a) rfl ⟨rfl,rfl⟩ (qcT (by omega)) (by rw[hlen];simp only[szD,List.length_nil];omega)
 have he:({szD m r f B a with line:=(szD m r f B a).line++(s.drop a).take n,total:=(szD m r f B a).total+((s.drop a).take n).length}:Dec)={szD m r f B a with line:=(s.drop a).take n,total:=a+n}:=by
  rw[hlen];rfl
 rw[he]at hr;exact h.step hr ⟨rfl,rfl⟩ (at10 hj hn)
theorem qoI(hx:endL ((s.drop a).take n++[10])=none):Ends m r f s (a+n+1) 100 false B []:=by
 have h1:feed1 {szD m r f B a with line:=(s.drop a).take n,total:=a+n} 10={szD m r f B a with line:=[],total:=a+n+1,err:=100}:=by
  rw[qdE _ rfl];simp only[szD];rw[hx];rfl
 have:=qjJ h hj hn h256;rw[h1]at this;exact qe0 (this.2 (.inr (by simp)))
variable {l:List UInt8}(hx:endL ((s.drop a).take n++[10])=some l)
include hx
theorem sz_bad(he:(qam l).2.2≠0):Ends m r f s (a+n+1) (qam l).2.2 false B []:=by
 have h1:feed1 {szD m r f B a with line:=(s.drop a).take n,total:=a+n} 10={szD m r f B a with line:=[],total:=a+n+1,err:=(qam l).2.2}:=by
  rw[qdE _ rfl];simp only[szD];rw[hx];simp only[qnm];rw[if_pos he]
 have:=qjJ h hj hn h256;rw[h1]at this;exact qe0 (this.2 (.inr he))
variable (he:(qam l).2.2=0)
include he
theorem qtV(hm:m-B.length<(qam l).1):Ends m r f s (a+n+1) 102 false B []:=by
 have h1:feed1 {szD m r f B a with line:=(s.drop a).take n,total:=a+n} 10={szD m r f B a with line:=[],total:=a+n+1,err:=102}:=by
  rw[qdE _ rfl];simp only[szD];rw[hx];simp only[qnm];rw[if_neg (by simpa using he),if_pos hm]
 have:=qjJ h hj hn h256;rw[h1]at this;exact qe0 (this.2 (.inr (by simp)))
theorem qrr(hm:¬m-B.length<(qam l).1)(h0:(qam l).1=0):Fw m r f s (trD m r f B [] 0 (a+n+1)) (a+n+1):=by
 have h1:feed1 {szD m r f B a with line:=(s.drop a).take n,total:=a+n} 10=trD m r f B [] 0 (a+n+1):=by
  rw[qdE _ rfl];simp only[szD];rw[hx];simp only[qnm];rw[if_neg (by simpa using he),if_neg hm,if_pos h0];rfl
 have:=qjJ h hj hn h256;rw[h1]at this;exact this.1 ⟨rfl,rfl⟩
theorem qtW(hm:¬m-B.length<(qam l).1)(h0:(qam l).1≠0):Fw m r f s (daD m r f B (qam l).1 (a+n+1)) (a+n+1):=by
 have h1:feed1 {szD m r f B a with line:=(s.drop a).take n,total:=a+n} 10=daD m r f B (qam l).1 (a+n+1):=by
  rw[qdE _ rfl];simp only[szD];rw[hx];simp only[qnm];rw[if_neg (by simpa using he),if_neg hm,if_neg h0];rfl
 have:=qjJ h hj hn h256;rw[h1]at this;exact this.1 ⟨rfl,rfl⟩
end
theorem qu1{k:Int}(h:Fw m r f s (daD m r f B k a) a)(ha:a<=s.length)(hk:((s.length-a:Nat):Int)<k):Ends m r f s s.length 0 false (B++s.drop a) []:=
 h.all ha (qiY (s.drop a) (daD m r f B k a) rfl ⟨rfl,rfl⟩ (by rw[zqI];exact hk))
theorem qu2{k:Nat}(h:Fw m r f s (daD m r f B (k:Int) a) a)(hk:0<k)(hl:a+k<=s.length):Fw m r f s (phD m r f 0 (B++(s.drop a).take k) (a+k)) (a+k):=by
 have hlen:((s.drop a).take k).length=k:=by rw[zqJ,zqI];omega
 have h1:=qkw ((s.drop a).take k) (daD m r f B (k:Int) a) rfl ⟨rfl,rfl⟩ (by intro e;rw[e]at hlen;simp at hlen;omega) (by rw[hlen];rfl);have h2:=qdD _ _ _ (s.drop (a+k)) h1 ⟨rfl,rfl⟩;rw[show(s.drop a).take k++s.drop (a+k)=s.drop a by rw[<-List.drop_drop,List.take_append_drop],hlen]at h2;unfold Fw at h⊢;rw[h,h2];simp only[daD,phD,if_pos];refine Prod.ext rfl ?_;show _+k+a=_+(a+k)
 omega
theorem quh{i:Nat}(h:Fw m r f s (phD m r f i B a) a)(ha:a=s.length):Ends m r f s s.length 0 false B []:=by
 refine h.all (by omega) (d1:=phD m r f i B a) ?_;rw[List.drop_of_length_le (by omega)];rfl
theorem Fw.one(h:Fw m r f s d a)(hg:goD d)(hb:s[a]? =some b):(goD (feed1 d b)->Fw m r f s (feed1 d b) (a+1))/\((feed1 d b).done=true\/(feed1 d b).err≠0->qat (newD m r f) s=(feed1 d b,a+1)):=
 h.step (n:=0) (by simp[qat]) hg hb
theorem ph_bad{i:Nat}(hi:i<2)(h:Fw m r f s (phD m r f i B a) a)(hb:s[a]? =some b)(hne:b≠if i=0 then 13 else 10):Ends m r f s (a+1) 100 false B []:=by
 have h1:feed1 (phD m r f i B a) b={phD m r f i B a with total:=a+1,err:=100}:=by
  rcases(by omega:i=0\/i=1)with rfl|rfl
  ·simp at hne;simp[feed1,qbR,phD,qeM,hne]
  ·simp at hne;simp[feed1,qbR,phD,qdg,hne]
 have:=h.one ⟨rfl,rfl⟩ hb;rw[h1]at this;exact qe0 (this.2 (.inr (by simp)))
theorem ph_go{i:Nat}(hi:i<2)(h:Fw m r f s (phD m r f i B a) a)(hb:s[a]? =some (if i=0 then 13 else 10)):Fw m r f s (phD m r f (i+1) B (a+1)) (a+1):=by
 have h1:feed1 (phD m r f i B a) (if i=0 then 13 else 10)=phD m r f (i+1) B (a+1):=by
  rcases(by omega:i=0\/i=1)with rfl|rfl
  ·simp[feed1,qbR,phD,qeM]
  ·simp[feed1,qbR,phD,qdg]
 have:=h.one ⟨rfl,rfl⟩ hb;rw[h1]at this;exact this.1 ⟨rfl,rfl⟩
theorem ph_two:phD m r f 2 B a=szD m r f B a:=rfl
theorem qk9(d:Dec)(l:List UInt8)(hl:l≠[])(hf:d.fields<=d.trailers.length):qd5 d (some l)=({d with section_:=d.section_+1,line:=[]},104):=by
 simp only[qd5];rw[if_neg hl,if_pos hf]
theorem qni(d:Dec)(l:List UInt8)(hl:l≠[])(hf:¬d.fields<=d.trailers.length)(hb:qbE l=none\/∃g,qbE l=some g/\mayB g.name=false):qd5 d (some l)=({d with section_:=d.section_+1,line:=[]},101):=by
 simp only[qd5];rw[if_neg hl,if_neg hf];rcases hb with hb|⟨g,hb,hg⟩
 ·rw[hb]
 ·rw[hb];simp[hg]
theorem qoB(d:Dec)(l:List UInt8)(hl:l≠[])(hf:¬d.fields<=d.trailers.length){g:Fld}(hb:qbE l=some g)(hg:mayB g.name=true):qd5 d (some l)=({d with section_:=d.section_+1,line:=[],trailers:=d.trailers++[g]},0):=by
 simp only[qd5];rw[if_neg hl,if_neg hf,hb];simp[hg]
theorem qoC{k:Nat}(h:Fw m r f s (trD m r f B T sec a) a)(hk:r=(sec+k:Nat))(hl:a+k<s.length)(hn:k<=run not10 (s.drop a)):Ends m r f s (a+k+1) 104 false B T:=by
 obtain⟨b,hb⟩:∃b,s[a+k]? =some b:=⟨_,zqD hl⟩
 have hlen:((s.drop a).take k).length=k:=by rw[zqJ,zqI];omega
 have hr:=qfj ((s.drop a).take k) (trD m r f B T sec a) rfl ⟨rfl,rfl⟩ (qcT (by omega)) (by rw[hlen];simp only[trD];omega)
 have h1:feed1 {trD m r f B T sec a with line:=(trD m r f B T sec a).line++(s.drop a).take k,section_:=(trD m r f B T sec a).section_+((s.drop a).take k).length,total:=(trD m r f B T sec a).total+((s.drop a).take k).length} b={trD m r f B T sec a with line:=(s.drop a).take k,section_:=sec+k,total:=a+k+1,err:=104}:=by
  unfold feed1 qbR;simp only[trD,qbr,hlen];rw[if_pos (by omega)];rfl
 have hst:=h.step hr ⟨rfl,rfl⟩ hb;rw[h1]at hst;exact qe0 (hst.2 (.inr (by simp)))
theorem qtQ(h:Fw m r f s (trD m r f B T sec a) a)(ha:a<=s.length)(hl:((sec+(s.length-a):Nat):Int)<=r)(hn:s.length-a<=run not10 (s.drop a)):Ends m r f s s.length 0 false B T:=by
 have hr:=qfj (s.drop a) (trD m r f B T sec a) rfl ⟨rfl,rfl⟩ (by
  have:=qcT (s:=s) (a:=a) (k:=s.length-a) hn
  rwa[zqE (by rw[zqI];omega)]at this) (by rw[zqI];simp only[trD];omega)
 exact h.all ha hr
section
variable (h:Fw m r f s (trD m r f B T sec a) a)(hj:a+n<s.length)(hn:run not10 (s.drop a)=n)(hr:((sec+n:Nat):Int)<r)
include h hj hn hr
theorem qs7:(goD (feed1 {trD m r f B T sec a with line:=(s.drop a).take n,section_:=sec+n,total:=a+n} 10)->Fw m r f s (feed1 {trD m r f B T sec a with line:=(s.drop a).take n,section_:=sec+n,total:=a+n} 10) (a+n+1))/\
  ((feed1 {trD m r f B T sec a with line:=(s.drop a).take n,section_:=sec+n,total:=a+n} 10).done=true\/(feed1 {trD m r f B T sec a with line:=(s.drop a).take n,section_:=sec+n,total:=a+n} 10).err≠0->qat (newD m r f) s=(feed1 {trD m r f B T sec a with line:=(s.drop a).take n,section_:=sec+n,total:=a+n} 10,a+n+1)):=by
 have hlen:((s.drop a).take n).length=n:=by rw[zqJ,zqI];omega
 have hr:=qfj ((s.drop a).take n) (trD m r f B T sec a) rfl ⟨rfl,rfl⟩ (qcT (by omega)) (by rw[hlen];simp only[trD];omega)
 have he:({trD m r f B T sec a with line:=(trD m r f B T sec a).line++(s.drop a).take n,section_:=(trD m r f B T sec a).section_+((s.drop a).take n).length,total:=(trD m r f B T sec a).total+((s.drop a).take n).length}:Dec)={trD m r f B T sec a with line:=(s.drop a).take n,section_:=sec+n,total:=a+n}:=by
  rw[hlen];rfl
 rw[he]at hr;exact h.step hr ⟨rfl,rfl⟩ (at10 hj hn)
theorem qiU{e:Int}{dn:Bool}{T':List Fld}(hx:(qd5 {trD m r f B T sec a with line:=(s.drop a).take n,section_:=sec+n,total:=a+n+1} (endL ((s.drop a).take n++[10]))).2=e)(hd:(qd5 {trD m r f B T sec a with line:=(s.drop a).take n,section_:=sec+n,total:=a+n+1} (endL ((s.drop a).take n++[10]))).1.done=dn)
  (hb:(qd5 {trD m r f B T sec a with line:=(s.drop a).take n,section_:=sec+n,total:=a+n+1} (endL ((s.drop a).take n++[10]))).1.body=B) (ht:(qd5 {trD m r f B T sec a with line:=(s.drop a).take n,section_:=sec+n,total:=a+n+1} (endL ((s.drop a).take n++[10]))).1.trailers=T') (hst:dn=true\/e≠0):Ends m r f s (a+n+1) e dn B T':=by
 have h1:=qhv {trD m r f B T sec a with line:=(s.drop a).take n,section_:=sec+n,total:=a+n} rfl hr;have h2:=(qs7 h hj hn hr).2 (by rw[h1];simp only;rw[hx,hd];exact hst);rw[h1]at h2;have:=qe0 h2;simp only at this;rw[hx,hd,hb,ht]at this;exact this
theorem qoD(hx:endL ((s.drop a).take n++[10])=none):Ends m r f s (a+n+1) 101 false B T:=by
 refine qiU h hj hn hr ?_ ?_ ?_ ?_ (.inr (by simp))<;>rw[hx]<;>rfl
theorem qtS(hx:endL ((s.drop a).take n++[10])=some []):Ends m r f s (a+n+1) 0 true B T:=by
 refine qiU h hj hn hr ?_ ?_ ?_ ?_ (.inl rfl)<;>rw[hx]<;>rfl
variable {l:List UInt8}(hx:endL ((s.drop a).take n++[10])=some l)(hl:l≠[])
include hx hl
theorem qtR(hf:f<=T.length):Ends m r f s (a+n+1) 104 false B T:=by
 refine qiU h hj hn hr ?_ ?_ ?_ ?_ (.inr (by simp))<;>rw[hx,qk9 _ l hl hf]<;>rfl
variable (hf:¬f<=T.length)
include hf
theorem qs8(hb:qbE l=none\/∃g,qbE l=some g/\mayB g.name=false):Ends m r f s (a+n+1) 101 false B T:=by
 refine qiU h hj hn hr ?_ ?_ ?_ ?_ (.inr (by simp))<;>rw[hx,qni _ l hl hf hb]<;>rfl
theorem tr_go{g:Fld}(hb:qbE l=some g)(hg:mayB g.name=true):Fw m r f s (trD m r f B (T++[g]) (sec+n+1) (a+n+1)) (a+n+1):=by
 have h1:=qhv {trD m r f B T sec a with line:=(s.drop a).take n,section_:=sec+n,total:=a+n} rfl hr
 have h3:feed1 {trD m r f B T sec a with line:=(s.drop a).take n,section_:=sec+n,total:=a+n} 10=trD m r f B (T++[g]) (sec+n+1) (a+n+1):=by
  rw[h1];have:=qoB {trD m r f B T sec a with line:=(s.drop a).take n,section_:=sec+n,total:=a+n+1} l hl hf hb hg;rw[<-hx]at this;have e:∀(p:Dec×Int) (q:Dec×Int),p=q->({p.1 with err:=p.2}:Dec)={q.1 with err:=q.2}:=fun p q h=>h▸rfl;exact e _ _ this
 have:=(qs7 h hj hn hr).1;rw[h3]at this;exact this ⟨rfl,rfl⟩
end
end
section
variable (E:Env)(H:Hp)(Q:AV->Hp->Prop)
def trInv(m r f:Int)(s:List UInt8)(fm:Nat)(B:List UInt8)(H:Hp)(fr:List AV)(H':Hp):Prop:=
 ∃(J:Hp) (a:Nat) (T:List Fld),H'=H++[.int .i64 0,.int .i64 0,.bool false,.str B,.sl true 2 (flds T)]::[.int .i64 0,.int .i64 0,.bool false,.str [],.nil]::J/\fm<=a/\a<=s.length/\((a-fm:Nat):Int)<=r/\T.length<=a-fm/\Fw m r f s (trD m r f B T (a-fm) a) a/\
  ∃x:Nat->AV,fr=[x 0,.str s,.int .i64 fm,.int .i64 r,.int .i64 f,.ptr (some (H.length,0)),x 6,x 7,x 8,x 9,.ptr (some (H.length+1,0)),.int .i64 a,x 12,x 13,x 14,x 15,x 16,x 17,x 18,x 19,x 20,x 21,x 22,x 23,x 24,x 25,x 26,x 27,x 28,x 29,x 30,x 31,x 32,x 33,x 34,x 35,x 36,x 37,x 38,x 39,x 40,x 41,x 42,x 43,x 44,x 45,x 46,x 47,x 48,x 49,x 50,x 51,x 52,x 53,x 54,x 55,x 56,x 57,x 58,x 59,x 60,x 61,x 62,x 63,x 64,x 65,x 66,x 67,x 68,x 69,x 70,x 71,x 72,x 73,x 74,x 75,x 76,x 77,x 78,x 79,x 80,x 81,x 82,x 83,x 84,x 85,x 86,x 87,x 88,x 89,x 90,x 91,x 92,x 93,x 94]
theorem qfG{N:Nat}(T:List Fld):Bnd N (.sl false 2 (flds T)):=qdd _ _ T
theorem qrm(m f:Int)(r:Nat)(s:List UInt8)(fm:Nat)(B:List UInt8)(hs:s.length<=1000000000)(hfm:fm<=s.length)(h0:Fw m r f s (trD m r f B [] 0 fm) fm)
  (hQ:∀t e dn T,Ends m r f s t e dn B T->Q (wkA t e dn B (.sl false 2 (flds T))) H):
  PC Tryz.prog E 133 [wkA 0 0 false B .nil,.str s,.int .i64 fm,.int .i64 r,.int .i64 f] H Q:=by
 refine qac Tryz.func133 rfl [88] [] (by kernel_rfl) (fun hB=>?_)
 have fin:∀(fr:List AV) (J:Hp) (c:List AV) (t:Nat) e dn T,Ends m r f s t e dn B T->aget fr 10= .ptr (some (H.length+1,0))->qci Tryz.prog [ResultVar.cell 10 153] H.length Q .ret fr (H++c::[.int .i64 t,.int .i64 e,.bool dn,.str B,.sl false 2 (flds T)]::J):=fun fr J c t e dn T he h10=>by
  refine qab (J:=c::[.int .i64 t,.int .i64 e,.bool dn,.str B,.sl false 2 (flds T)]::J) hB (v0:=wkA t e dn B (.sl false 2 (flds T))) ?_ (qaa _) (by simp[wkA,qfG]) (hQ t e dn T he);simp[h10,wkA]
 simp[Tryz.ntmps133,Tryz.results133,List.replicate_succ,wkA];refine ql0 H.length _ 4 2 (by simp;rfl) (by rfl) ?_;simp only[List.set_cons_succ,List.set_cons_zero];refine qaB (trInv m r f s fm B H) (fun fr _=>s.length-(ai (aget fr 11)).toNat) ⟨[],fm,[],by simp[flds],by omega,hfm,by omega,by simp,by rw[Nat.sub_self];exact h0,friz⟩ ?_;rintro fr H' ⟨J,a,T,rfl,ha,hal,har,hT,hfw,x,rfl⟩;obtain⟨n,hn⟩:=exz (run not10 (s.drop a));have hnl:=qbp not10 (s.drop a);rw[hn,zqI]at hnl;simp;refine qkI E _ _ s a s.length hs hal hs ?_;by_cases hj:a+n<s.length
 ·have hea:qc3 s a s.length=((a+n:Nat):Int):=by unfold qc3;rw[hn,if_pos ⟨hj,by omega⟩]
  rw[hea];obtain⟨j,hjj⟩:∃j,j=a+n:=⟨_,rfl⟩
  rw[<-hjj];have hw1:IntKind.i64.wrap ((j:Int)-fm)=((j-fm:Nat):Int):=by rw[qak (by omega) (by omega)];omega
  by_cases hroom:r<=j-fm
  ·have hr':(r:Int)<=((j-fm:Nat):Int):=by omega
   simp[hw1,hr'];refine qlr E _ _ 0 0 false B (.sl false 2 (flds T)) rfl rfl (qfG T) s fm r 104 hs hfm (fun hlt=>?_) (fun hge=>by omega);have h1:=qoC (k:=r-(a-fm)) hfw (by omega) (by omega) (by omega);rw[show a+(r-(a-fm))+1=fm+r+1 by omega]at h1;simp[wkA,-Int.natCast_add];exact fin _ _ _ _ _ _ _ h1 rfl
  ·have hr':¬(r:Int)<=((j-fm:Nat):Int):=by omega
   have hsec:(((a-fm)+n:Nat):Int)<r:=by omega
   have hend:=qkJ s a n (by omega);by_cases hz:n=0
   ·have hja:j=a:=by omega
    rw[if_pos (.inl hz)]at hend;have h1:=qoD hfw hj hn hsec hend;rw[<-hjj]at h1;have e0:((j:Int)==a)=true:=by simp;omega
    simp[hw1,hr',e0];refine qbO E _ _ 0 0 false B (.sl false 2 (flds T)) rfl rfl (qfG T) j 101 (by omega) ?_;simp[wkA,-Int.natCast_add];exact fin _ _ _ _ _ _ _ h1 rfl
   ·obtain⟨j1,hj1⟩:∃j1,j=j1+1:=⟨j-1,by omega⟩
    have hw3:IntKind.i64.wrap ((j:Int)-1)=(j1:Int):=by rw[qak (by omega) (by omega)];omega
    have e0:((j:Int)==a)=false:=by simp;omega
    obtain⟨c,hc⟩:∃c,s[j1]? =some c:=⟨_,zqD (by omega)⟩
    have hat:=qas hc;have hj1l:j1<s.length:=by omega
    by_cases h13:c=13
    ·subst h13;rw[show a+n-1=j1 by omega,if_neg (by rw[hc];simp;exact hz),show n-1=j1-a by omega]at hend;obtain⟨ln,hln⟩:=exz ((s.drop a).take (j1-a));have hlnl:ln.length<=s.length:=by rw[<-hln,zqJ,zqI];omega
     rw[hln]at hend;have haj:a<=j1:=by omega
     have hjl:j1<=s.length:=by omega
     by_cases hle:ln=[]
     ·subst hle;have h1:=qtS hfw hj hn hsec hend;have hw4:IntKind.i64.wrap ((j:Int)+1)=((a+n+1:Nat):Int):=by rw[qak (by omega) (by omega)];omega
      simp[hw1,hr',e0,hw3,hat,hj1l,hln,haj,hjl,hw4,-Int.natCast_add];exact fin _ _ _ _ _ _ _ h1 rfl
     ·have hle2:(ln==[])=false:=beq_eq_false_iff_ne.2 hle;by_cases hf:f<=T.length
      ·have h1:=qtR hfw hj hn hsec hend hle hf;rw[<-hjj]at h1;simp[hw1,hr',e0,hw3,hat,hj1l,hln,haj,hjl,hle2,hf];refine qbO E _ _ 0 0 false B (.sl false 2 (flds T)) rfl rfl (qfG T) j 104 (by omega) ?_;simp[wkA,-Int.natCast_add];exact fin _ _ _ _ _ _ _ h1 rfl
      ·simp[hw1,hr',e0,hw3,hat,hj1l,hln,haj,hjl,hle2,hf];refine qsq E _ _ ln (by simp only[cap];omega) (fun g hg=>?_) (fun hno pl e he=>?_)
       ·have hgn:g.name.length<=cap:=by
         unfold qbE at hg;split at hg
         ·cases hg;simp only[zqJ,cap];omega
         ·cases hg
        simp;refine qie E _ _ g.name hgn ?_;cases hmt:mayB g.name with
        |true=>
         have h1:=tr_go hfw hj hn hsec hend hle hf hg hmt;have hw4:IntKind.i64.wrap ((j:Int)+1)=((j+1:Nat):Int):=by rw[qak (by omega) (by omega)];omega
         have m3:T.length+1<=maxLen:=by unfold maxLen;omega
         have m4:(T.length+1)*32<=140737488355328:=by omega
         simp[m3,m4,qej,hw4,-Int.natCast_add];refine Klz ⟨_,j+1,T++[g],by simp;rfl,by omega,by omega,by omega,by simp;omega,?_,friz⟩;rw[show a-fm+n+1=j+1-fm by omega,show a+n+1=j+1 by omega]at h1;exact h1
        |false=>
         have h1:=qs8 hfw hj hn hsec hend hle hf (.inr ⟨g,hg,hmt⟩);rw[<-hjj]at h1;simp;refine qbO E _ _ 0 0 false B (.sl false 2 (flds T)) rfl rfl (qfG T) j 101 (by omega) ?_;simp[wkA,-Int.natCast_add];exact fin _ _ _ _ _ _ _ h1 rfl
       ·have h1:=qs8 hfw hj hn hsec hend hle hf (.inl hno);rw[<-hjj]at h1;have he2:(e !=0)=true:=by simpa using he
        simp[he2];refine qbO E _ _ 0 0 false B (.sl false 2 (flds T)) rfl rfl (qfG T) j 101 (by omega) ?_;simp[wkA,-Int.natCast_add];exact fin _ _ _ _ _ _ _ h1 rfl
    ·rw[show a+n-1=j1 by omega,if_pos (.inr (by rw[hc];simpa using h13))]at hend;have h1:=qoD hfw hj hn hsec hend;rw[<-hjj]at h1;have t1:((c.toNat:Int)==13)=false:=qdl c 13 (by omega) h13;simp[hw1,hr',e0,hw3,hat,hj1l,t1,bne];refine qbO E _ _ 0 0 false B (.sl false 2 (flds T)) rfl rfl (qfG T) j 101 (by omega) ?_;simp[wkA,-Int.natCast_add];exact fin _ _ _ _ _ _ _ h1 rfl
 ·have hea:qc3 s a s.length= -1:=by unfold qc3;rw[hn,if_neg (by omega)]
  rw[hea];simp;refine qlr E _ _ 0 0 false B (.sl false 2 (flds T)) rfl rfl (qfG T) s fm r 104 hs hfm (fun hlt=>?_) (fun hge=>?_)
  ·have h1:=qoC (k:=r-(a-fm)) hfw (by omega) (by omega) (by omega);rw[show a+(r-(a-fm))+1=fm+r+1 by omega]at h1;simp[wkA,-Int.natCast_add];exact fin _ _ _ _ _ _ _ h1 rfl
  ·have h1:=qtQ hfw hal (by omega) (by omega);simp[wkA,-Int.natCast_add];exact fin _ _ _ _ _ _ _ h1 rfl
end
section
variable (E:Env)(H:Hp)(Q:AV->Hp->Prop)
def wkInv(m r f:Int)(s:List UInt8)(H:Hp)(fr:List AV)(H':Hp):Prop:=
 ∃(a:Nat) (B:List UInt8),H'=H++[[.int .i64 0,.int .i64 0,.bool false,.str [],.nil],[.int .i64 0,.int .i64 0,.bool false,.str B,.nil]]/\a<=s.length/\B.length<=a/\Fw m r f s (szD m r f B a) a/\
  ∃x:Nat->AV,fr=[.str s,.int .i64 m,.int .i64 r,.int .i64 f,x 4,x 5,x 6,x 7,.ptr (some (H.length,0)),.ptr (some (H.length+1,0)),.int .i64 a,x 11,x 12,x 13,x 14,x 15,x 16,x 17,x 18,x 19,x 20,x 21,x 22,x 23,x 24,x 25,x 26,x 27,x 28,x 29,x 30,x 31,x 32,x 33,x 34,x 35,x 36,x 37,x 38,x 39,x 40,x 41,x 42,x 43,x 44,x 45,x 46,x 47,x 48,x 49,x 50,x 51,x 52,x 53,x 54,x 55,x 56,x 57,x 58,x 59,x 60,x 61,x 62,x 63,x 64,x 65,x 66,x 67,x 68,x 69,x 70,x 71,x 72,x 73,x 74,x 75,x 76,x 77,x 78,x 79,x 80,x 81,x 82,x 83,x 84,x 85,x 86,x 87,x 88,x 89,x 90,x 91,x 92,x 93,x 94,x 95,x 96,x 97,x 98,x 99,x 100,x 101,x 102,x 103,x 104,x 105,x 106,x 107,x 108,x 109,x 110,x 111,x 112,x 113,x 114,x 115,x 116,x 117,x 118,x 119,x 120,x 121,x 122,x 123,x 124,x 125,x 126,x 127,x 128,x 129]
def wkInv2(m r f:Int)(s:List UInt8)(a0:Nat)(B:List UInt8)(H:Hp)(fr:List AV)(H':Hp):Prop:=
 ∃(i a:Nat),H'=H++[[.int .i64 0,.int .i64 0,.bool false,.str [],.nil],[.int .i64 0,.int .i64 0,.bool false,.str B,.nil]]/\i<=2/\a=a0+i/\a<=s.length/\B.length<=a/\Fw m r f s (phD m r f i B a) a/\
  ∃x:Nat->AV,fr=[.str s,.int .i64 m,.int .i64 r,.int .i64 f,x 4,x 5,x 6,x 7,.ptr (some (H.length,0)),.ptr (some (H.length+1,0)),.int .i64 a,x 11,x 12,x 13,x 14,x 15,x 16,x 17,x 18,x 19,x 20,x 21,x 22,x 23,x 24,x 25,x 26,x 27,x 28,x 29,x 30,x 31,x 32,x 33,x 34,x 35,x 36,x 37,x 38,x 39,x 40,x 41,x 42,x 43,x 44,x 45,x 46,x 47,x 48,x 49,x 50,x 51,x 52,x 53,x 54,x 55,x 56,x 57,x 58,x 59,x 60,x 61,x 62,x 63,x 64,x 65,x 66,x 67,x 68,x 69,x 70,x 71,x 72,x 73,x 74,x 75,x 76,x 77,x 78,x 79,x 80,x 81,x 82,x 83,x 84,x 85,x 86,x 87,x 88,x 89,x 90,x 91,x 92,x 93,x 94,x 95,x 96,x 97,x 98,x 99,x 100,x 101,x 102,x 103,x 104,x 105,.sl true 1 (bts [13,10]),.int .i64 2,.int .i64 i,x 109,x 110,x 111,x 112,x 113,x 114,x 115,x 116,x 117,x 118,x 119,x 120,x 121,x 122,x 123,x 124,x 125,x 126,x 127,x 128,x 129]
theorem qq8(m f:Int)(r:Nat)(s:List UInt8)(hs:s.length<=1000000000)(hm:0<=m/\m<=9223372036854775807)
  (hQ1:∀t e dn B T z,Ends m r f s t e dn B T->(z= .sl false 2 (flds T)\/T=[]/\z= .nil)->Q (wkA t e dn B z) H):
  PC Tryz.prog E 97 [.str s,.int .i64 m,.int .i64 r,.int .i64 f] H Q:=by
 refine qac Tryz.func97 rfl [] [] (by kernel_rfl) (fun hB=>?_)
 have fin:∀(fr:List AV) (J:Hp) (c:List AV) (t:Nat) e dn B T z,Ends m r f s t e dn B T->(z= .sl false 2 (flds T)\/T=[]/\z= .nil)->aget fr 8= .ptr (some (H.length,0))->qci Tryz.prog [ResultVar.cell 8 153] H.length Q .ret fr (H++[.int .i64 t,.int .i64 e,.bool dn,.str B,z]::J):=fun fr J c t e dn B T z he hz h8=>by
  have hz1:z.dis=z/\z.free=true/\∀N,Bnd N z:=by
   rcases hz with rfl|⟨_,rfl⟩
   ·exact⟨rfl,rfl,fun N=>qfG T⟩
   ·exact⟨rfl,rfl,fun N=> .nil⟩
  refine qab (J:=[.int .i64 t,.int .i64 e,.bool dn,.str B,z]::J) hB (v0:=wkA t e dn B z) ?_ (qaa _) (by simp[wkA,hz1.2.2]) (hQ1 t e dn B T z he hz);simp[h8,wkA,hz1.1,hz1.2.1]
 have finN:∀(fr:List AV) (J:Hp) (t:Nat) e dn B,Ends m r f s t e dn B []->aget fr 8= .ptr (some (H.length,0))->qci Tryz.prog [ResultVar.cell 8 153] H.length Q .ret fr (H++[.int .i64 t,.int .i64 e,.bool dn,.str B,.nil]::J):=fun fr J t e dn B he h8=>fin fr J [] t e dn B [] .nil he (.inr ⟨rfl,rfl⟩) h8;simp[Tryz.ntmps97,Tryz.results97,List.replicate_succ];refine qaB (wkInv m r f s H) (fun fr _=>s.length-(ai (aget fr 10)).toNat) ⟨0,[],by simp,by omega,by simp,fw_new,friz⟩ ?_;rintro fr H' ⟨a,B,rfl,hal,hBl,hfw,x,rfl⟩;obtain⟨n,hn⟩:=exz (run not10 (s.drop a));have hnl:=qbp not10 (s.drop a);rw[hn,zqI]at hnl;simp;refine qkI E _ _ s a 256 hs hal (by decide) ?_;by_cases hj:a+n<s.length/\n<256
 ·have hea:qc3 s a 256=((a+n:Nat):Int):=by unfold qc3;rw[hn,if_pos hj]
  rw[hea];obtain⟨hj,h256⟩:=hj;obtain⟨j,hjj⟩:∃j,j=a+n:=⟨_,rfl⟩
  rw[<-hjj];have hend:=qkJ s a n (by omega);by_cases hz:n=0
  ·rw[if_pos (.inl hz)]at hend;have h1:=qoI hfw hj hn h256 hend;rw[<-hjj]at h1;have e0:((j:Int)==a)=true:=by simp;omega
   simp[e0];refine qbO E _ _ 0 0 false B .nil rfl rfl .nil j 100 (by omega) ?_;simp[wkA,-Int.natCast_add];exact finN _ _ _ _ _ _ h1 rfl
  ·obtain⟨j1,hj1⟩:∃j1,j=j1+1:=⟨j-1,by omega⟩
   have hw3:IntKind.i64.wrap ((j:Int)-1)=(j1:Int):=by rw[qak (by omega) (by omega)];omega
   have e0:((j:Int)==a)=false:=by simp;omega
   obtain⟨c,hc⟩:∃c,s[j1]? =some c:=⟨_,zqD (by omega)⟩
   have hat:=qas hc;have hj1l:j1<s.length:=by omega
   by_cases h13:c=13
   ·subst h13;rw[show a+n-1=j1 by omega,if_neg (by rw[hc];simp;exact hz),show n-1=j1-a by omega]at hend;obtain⟨ln,hln⟩:=exz ((s.drop a).take (j1-a));have hlnl:ln.length<=s.length:=by rw[<-hln,zqJ,zqI];omega
    rw[hln]at hend;have haj:a<=j1:=by omega
    have hjl:j1<=s.length:=by omega
    simp[e0,hw3,hat,hj1l,hln,haj,hjl];refine qso E _ _ ln (by simp only[cap];omega) ?_;by_cases he:(qam ln).2.2=0
    ·obtain⟨N,hN⟩:=exz ((qam ln).1);have hrng:=qeP ln he;rw[hN]at hrng;have hw5:IntKind.i64.wrap (m-(B.length:Int))=m-B.length:=wiz;by_cases hmu:m-B.length<N
     ·have h1:=qtV hfw hj hn h256 hend he (by rw[hN];exact hmu);rw[<-hjj]at h1;simp[he,hN,hw5,hmu];refine qbO E _ _ 0 0 false B .nil rfl rfl .nil j 102 (by omega) ?_;simp[wkA,-Int.natCast_add];exact finN _ _ _ _ _ _ h1 rfl
     ·have hw4:IntKind.i64.wrap ((j:Int)+1)=((j+1:Nat):Int):=by rw[qak (by omega) (by omega)];omega
      by_cases hN0:N=0
      ·have h1:=qrr hfw hj hn h256 hend he (by rw[hN];exact hmu) (by rw[hN];exact hN0);rw[<-hjj]at h1;subst hN0;simp[he,hN,hw5,hmu,hw4,-Int.natCast_add];refine qrm E _ _ m f r s (j+1) B hs (by omega) h1 (fun t e dn T hE=>?_);simp[wkA,-Int.natCast_add];exact fin _ _ [] _ _ _ _ _ _ hE (.inl rfl) rfl
      ·have h1:=qtW hfw hj hn h256 hend he (by rw[hN];exact hmu) (by rw[hN];exact hN0);rw[<-hjj,hN]at h1;obtain⟨k,rfl⟩:∃k:Nat,N=k:=⟨N.toNat,by omega⟩
       have hN2:((k:Int)==0)=false:=by simpa using hN0
       obtain⟨a1,ha1⟩:∃a1,a1=j+1:=⟨_,rfl⟩
       rw[<-ha1]at h1 hw4;have hw6:IntKind.i64.wrap ((s.length:Int)-a1)=((s.length-a1:Nat):Int):=by rw[qak (by omega) (by omega)];omega
       have hle1:a1<=s.length:=by omega
       by_cases hlt:s.length-a1<k
       ·have h2:=qu1 h1 hle1 (by omega);have hlt':((s.length-a1:Nat):Int)<k:=by omega
        have m3:B.length+(s.length-a1)<=maxLen:=by unfold maxLen;omega
        simp[he,hN,hw5,hmu,hw4,hN2,hw6,hlt',hle1,m3,-Int.natCast_add];exact finN _ _ _ _ _ _ h2 rfl
       ·have hlt':¬((s.length-a1:Nat):Int)<k:=by omega
        have h2:=qu2 h1 (by omega) (by omega);obtain⟨a2,ha2⟩:∃a2,a2=a1+k:=⟨_,rfl⟩
        obtain⟨B2,hB2⟩:=exz (B++(s.drop a1).take k);have hB2l:B2.length<=a2:=by rw[<-hB2,zqK,zqJ];omega
        rw[<-ha2,hB2]at h2;have hw7:IntKind.i64.wrap ((a1:Int)+k)=a2:=by rw[qak (by omega) (by omega)];omega
        have hle2:a1<=a2:=by omega
        have hle3:a2<=s.length:=by omega
        have hsl:(s.drop a1).take (a2-a1)=(s.drop a1).take k:=by rw[show a2-a1=k by omega]
        have m4:B.length+min k (s.length-a1)<=maxLen:=by unfold maxLen;omega
        simp[he,hN,hw5,hmu,hw4,hN2,hw6,hlt',hle1,hw7,hle2,hle3,hsl,hB2,m4,(by decide:([0,1]:List Nat)=List.range 2),-Int.natCast_add];refine qaB (wkInv2 m r f s a2 B2 H) (fun fr _=>2-(ai (aget fr 108)).toNat) ⟨0,a2,rfl,by omega,by omega,hle3,hB2l,h2,qag (by simp[bts])⟩ ?_;rintro fr H' ⟨i,b,rfl,hi,hb,hbl,hBb,hph,y,rfl⟩;by_cases hi2:i<2
        ·have hi':(i:Int)<2:=by omega
         have hw8:IntKind.i64.wrap ((i:Int)+1)=i+1:=wiz;have hw9:IntKind.i64.wrap ((b:Int)+1)=((b+1:Nat):Int):=by rw[qak (by omega) (by omega)];omega
         obtain⟨q,hq⟩:∃q:UInt8,q=if i=0 then 13 else 10:=⟨_,rfl⟩
         have hrow:lat (bts [13,10]) i=some [.int .u8 (q.toNat:Int)]:=by
          rcases(by omega:i=0\/i=1)with rfl|rfl
          ·simp at hq;subst hq;rfl
          ·simp at hq;subst hq;rfl
         by_cases hbe:b=s.length
         ·have h3:=quh hph hbe;have e1:((b:Int)==s.length)=true:=by simp;omega
          rw[<-hbe]at h3;simp[hi',hrow,e1];exact finN _ _ _ _ _ _ h3 rfl
         ·have e1:((b:Int)==s.length)=false:=by simp;omega
          obtain⟨u,hu⟩:∃u,s[b]? =some u:=⟨_,zqD (by omega)⟩
          have hatu:=qas hu;have hbs:b<s.length:=by omega
          by_cases huq:u=q
          ·have h3:=ph_go hi2 hph (by rw[hu,huq,hq]);subst huq;simp[hi',hrow,e1,hatu,hbs,hw8,hw9,-Int.natCast_add];exact Klz ⟨i+1,b+1,rfl,by omega,by omega,by omega,by omega,h3,friz⟩
          ·have h3:=ph_bad hi2 hph hu (by rw[<-hq];exact huq)
           have e2:((u.toNat:Int)==(q.toNat:Int))=false:=by
            rw[beq_eq_false_iff_ne];intro hh;exact huq (UInt8.toNat_inj.1 (by omega))
           simp[hi',hrow,e1,hatu,hbs,e2,bne];refine qbO E _ _ 0 0 false B2 .nil rfl rfl .nil b 100 (by omega) ?_;simp[wkA,-Int.natCast_add];exact finN _ _ _ _ _ _ h3 rfl
        ·obtain rfl:i=2:=by omega
         rw[ph_two]at hph;simp;exact Klz ⟨b,B2,rfl,by omega,hBb,hph,friz⟩
    ·have h1:=sz_bad hfw hj hn h256 hend he;rw[<-hjj]at h1;have he2:((qam ln).2.2 !=0)=true:=by simpa using he
     simp[he2];refine qbO E _ _ 0 0 false B .nil rfl rfl .nil j (qam ln).2.2 (by omega) ?_;simp[wkA,-Int.natCast_add];exact finN _ _ _ _ _ _ h1 rfl
   ·rw[show a+n-1=j1 by omega,if_pos (.inr (by rw[hc];simpa using h13))]at hend;have h1:=qoI hfw hj hn h256 hend;rw[<-hjj]at h1;have t1:((c.toNat:Int)==13)=false:=qdl c 13 (by omega) h13;simp[e0,hw3,hat,hj1l,t1,bne];refine qbO E _ _ 0 0 false B .nil rfl rfl .nil j 100 (by omega) ?_;simp[wkA,-Int.natCast_add];exact finN _ _ _ _ _ _ h1 rfl
 ·have hea:qc3 s a 256= -1:=by unfold qc3;rw[hn,if_neg hj]
  rw[hea];simp;refine qlr E _ _ 0 0 false B .nil rfl rfl .nil s a 255 100 hs hal (fun hlt=>?_) (fun hge=>?_)
  ·have h1:=qtT hfw (by omega) (by omega);simp[wkA,-Int.natCast_add];exact finN _ _ _ _ _ _ h1 rfl
  ·have h1:=qtU hfw hal (by omega) (by omega);simp[wkA,-Int.natCast_add];exact finN _ _ _ _ _ _ h1 rfl
theorem qtB(m f:Int)(r:Nat)(s:List UInt8)(hs:s.length<=1000000000)(hm:0<=m/\m<=9223372036854775807)
  (hQ:∀t e dn B T,Ends m r f s t e dn B T->Q (wkA t e dn B (.sl false 2 (flds T))) H):
  PC Tryz.prog E 97 [.str s,.int .i64 m,.int .i64 r,.int .i64 f] H Q:=by
 refine PC.nilD (qq8 E H _ m f r s hs hm (fun t e dn B T z hE hz=>?_));refine⟨wkA t e dn B (.sl false 2 (flds T)),?_,hQ t e dn B T hE⟩;rcases hz with rfl|⟨rfl,rfl⟩
 ·exact .same _
 ·exact qcP (by simp[flds])
end
section
variable (E:Env)(H:Hp)(Q:AV->Hp->Prop)
end
theorem qmD{x:AV}(h:qiR .str x):∃z,x= .str z:=by
 cases x<;>simp[qiR]at h;exact⟨_,rfl⟩
def dptr(p:Option Nat):AV:= .ptr (p.map fun i=>(i,0))
theorem qsT{P:Program}{rs:List ResultVar}{n:Nat}{Q:AV->Hp->Prop}{fr:List AV}{H':Hp}{v:AV}(h1:ares P fr H' rs=some v)(h3:n<=H'.length)(h4:BndH H'.length H')(h5:Bnd H'.length v)(h6:Q v H'):
  qci P rs n Q .ret fr H':=⟨v,v,H',H',[],h1,qaa _,qb0 _,(List.append_nil H').symm,h3,h4,h5,h6⟩
theorem qj5{P:Program}{E:Env}(S:Nat->Prop){f:FuncId}{fn:Func}{c:Code}(hf:P.funcs[f]? =some fn)(hb:fn.body=some c)(B:List Tmp)(ND:List (Nat×List Nat))(hok:okB P B ND fn=true){args:List AV}{H:Hp}{Q:AV->Hp->Prop}
  (h:∀E':Env,E'.S=S->E'.w0=E.w0->E'.Fix=E.Fix->BndH H.length H->vc P E' B ND c (qci P fn.results.toList H.length Q) (args++List.replicate (fn.ntmps-args.length) (.raw undef)) H):PC P E f args H Q:=
 PC.env (E:=E) (E':={E with S:=S}) rfl rfl (qac hf hb B ND hok (h _ rfl rfl rfl))
section
variable (E:Env)(H:Hp)(Q:AV->Hp->Prop)
structure COp where
 k:Int
 s:List UInt8
def COp.av(o:COp):List AV:=[.int .i64 o.k,.str o.s]
end
@[simp] theorem dptr_dis (p:Option Nat):(dptr p).dis=dptr p:=rfl
@[simp] theorem dptr_free (p:Option Nat):(dptr p).free=true:=rfl
@[simp] theorem dptr_one (p:Option Nat):(dptr p).one=true:=rfl
def cops(l:List COp):List (List AV):=l.map COp.av
@[simp] theorem cops_len (l:List COp):(cops l).length=l.length:=by simp[cops]
section
variable (E:Env)(H:Hp)(Q:AV->Hp->Prop)
variable {H}
variable (H)
end
def ints(l:List Int):List (List AV):=l.map fun z=>[.int .i64 z]
@[simp] theorem ints_len (l:List Int):(ints l).length=l.length:=by simp[ints]
theorem qjd{l:List Int}{i:Nat}{z:Int}(h:l[i]? =some z):lat (ints l) i=some [.int .i64 z]:=by simp[lat,ints,h]
section
variable (E:Env)(H:Hp)(Q:AV->Hp->Prop)
end
def hx(n:Nat):UInt8:=if n<10 then UInt8.ofNat (48+n)else UInt8.ofNat (87+n)
def hexD(n:Nat):List UInt8:=if h:n<16 then [hx n]else hexD (n/16)++[hx (n%16)]
termination_by n
decreasing_by omega
theorem qcc{n:Nat}(h:n<16):hexD n=[hx n]:=by rw[hexD,dif_pos h]
theorem qey{n:Nat}(h:¬n<16):hexD n=hexD (n/16)++[hx (n%16)]:=by rw[hexD,dif_neg h]
theorem qiC:∀n,n<16->qaT (hx n)=true/\dig (hx n)=n/\hx n≠10:=by decide
theorem qje:∀(n:Nat),∀b∈hexD n,qaT b=true/\b≠10:=by
 intro n
 induction n using Nat.strongRecOn with
 |_ n ih=>
  intro b hb;by_cases h:n<16
  ·rw[qcc h]at hb;simp at hb;subst hb;exact⟨(qiC n h).1,(qiC n h).2.2⟩
  ·rw[qey h]at hb;rcases List.mem_append.1 hb with hb|hb
   ·exact ih _ (by omega) b hb
   ·simp at hb;subst hb;exact⟨(qiC _ (Nat.mod_lt _ (by omega))).1,(qiC _ (Nat.mod_lt _ (by omega))).2.2⟩
theorem qmI(n:Nat):1<=(hexD n).length:=by
 by_cases h:n<16
 ·rw[qcc h];simp
 ·rw[qey h];simp
theorem qmJ:∀(k n:Nat),n<16^(k+1)->(hexD n).length<=k+1
 |0,n,h=>by rw[qcc (by simpa using h)];simp
 |k+1,n,h=>by
  by_cases h1:n<16
  ·rw[qcc h1];simp
  ·rw[qey h1,zqK];have:=qmJ k (n/16) (by rw[Nat.pow_succ]at h;omega);simp;omega
theorem qbG(n:Nat)(h:n<=1099511627776):(hexD n).length<=11:=qmJ 10 n (by simp;omega)
theorem qsb:∀(n:Nat),qbf 16 (hexD n)=n:=by
 intro n
 induction n using Nat.strongRecOn with
 |_ n ih=>
  by_cases h:n<16
  ·rw[qcc h];simp[qbf,(qiC n h).2.1]
  ·rw[qey h];have h1:=ih (n/16) (by omega);unfold qbf at h1⊢;rw[List.foldl_append,h1];simp[(qiC _ (Nat.mod_lt n (by omega:0<16))).2.1];omega
theorem qoT(p:UInt8->Bool):∀(l:List UInt8),(∀b∈l,p b=true)->run p l=l.length
 |[],_=>rfl
 |a::l,h=>by
  have:=qoT p l (fun b hb=>h b (by simp[hb]));unfold run at this⊢;rw[List.takeWhile_cons,if_pos (h a (by simp))];simp[this]
theorem qjN(n:Nat)(h:n<=1099511627776):qam (hexD n)=((n:Int),[],0):=by
 have hr:run qaT (hexD n)=(hexD n).length:=qoT _ _ (fun b hb=>(qje n b hb).1);have hl:=qbG n h;have hp:=qmI n;have hd:(hexD n).drop (hexD n).length=[]:=List.drop_of_length_le (Nat.le_refl _);have hpar:qbe []=([],0,0):=by unfold qbe;rw[qfr qai [] (by simp)];rfl
 have hnum:qae 16 1099511627776 (hexD n)=((n:Int),0):=by
  unfold qae;have hne:hexD n≠[]:=fun e=>by rw[e]at hp;simp at hp
  have hok:qaV 16 (hexD n)=true:=by
   unfold qaV;rw[List.all_eq_true];intro b hb;have:=(qje n b hb).1;rw[qcy]at this;exact this
  rw[if_neg hne,if_neg (by rw[hok];simp),qsb,if_neg (by omega)]
 unfold qam;rw[hr,if_neg (by omega),hd,hpar];rw[if_neg]
 ·rw[zqE (Nat.le_refl _),hnum];simp
 ·simp[hd];rfl
def qbF(p:List UInt8):List UInt8:=hexD p.length++[13,10]++p++[13,10]
theorem qhy(l:List UInt8):endL (l++[13]++[10])=some l:=by
 unfold endL;have e:(l++[13]++[10]).length-2=l.length:=by simp
 rw[e,if_pos]
 ·simp
 ·refine⟨by simp,?_⟩;rw[List.append_assoc,List.drop_append_of_le_length (Nat.le_refl _),List.drop_of_length_le (Nat.le_refl _)];rfl
theorem qbV{a s:List UInt8}{d e g:Dec}(h:qat d a=(e,a.length))(hg:goD e)(h2:qat e s=(g,s.length)):qat d (a++s)=(g,(a++s).length):=by
 rw[qdD a d e s h hg,h2];simp[Nat.add_comm]
theorem qc2{d e:Dec}{b:UInt8}(h:feed1 d b=e):qat d [b]=(e,1):=by
 subst h;unfold qat;split
 ·rfl
 ·simp[qat]
theorem qiX(n:Nat)(d:Dec)(hs:d.st= .size)(hg:goD d)(hl:d.line=[])(hn:n<=1099511627776):qat d (hexD n++[13])=({d with line:=hexD n++[13],total:=d.total+(hexD n).length+1},(hexD n++[13]).length):=by
 have h11:=qbG n hn
 rw[qfk (hexD n++[13]) d hs hg (fun b hb=>by
  rcases List.mem_append.1 hb with hb|hb
  ·exact(qje n b hb).2
  ·simp at hb;subst hb;decide) (by rw[hl];simp;omega)]
 rw[hl];simp[Nat.add_assoc]
theorem qoL(n:Nat)(d:Dec)(hs:d.st= .size)(hl:d.line=hexD n++[13])(hn:n<=1099511627776):feed1 d 10=
  if d.most-d.body.length<n then{d with line:=[],total:=d.total+1,err:=102}
  else if n=0 then{d with line:=[],st:= .trailer,total:=d.total+1,err:=0}
  else{d with line:=[],left:=n,st:= .data,total:=d.total+1,err:=0}:=by
 have e:qfQ {d with total:=d.total+1} 10=if d.most-d.body.length<(n:Int)then({d with line:=[],total:=d.total+1},102)else if(n:Int)=0 then({d with line:=[],st:= .trailer,total:=d.total+1},0)else({d with line:=[],left:=n,st:= .data,total:=d.total+1},0):=by
  unfold qfQ;rw[if_neg (by simp)];have he:endL (({d with total:=d.total+1}:Dec).line++[10])=some (hexD n):=by show endL (d.line++[10])=_;rw[hl,qhy]
  rw[he];simp only[qjN n hn];rw[if_neg (by simp)]
 have e2:qbR {d with total:=d.total+1} 10=qfQ {d with total:=d.total+1} 10:=by unfold qbR;rw[show({d with total:=d.total+1}:Dec).st= .size from hs]
 unfold feed1;rw[e2,e];by_cases h1:d.most-d.body.length<(n:Int)
 ·rw[if_pos h1,if_pos h1]
 ·rw[if_neg h1,if_neg h1];by_cases h2:n=0
  ·rw[if_pos (by omega),if_pos h2]
  ·rw[if_neg (by omega),if_neg h2]
theorem qoS(p:List UInt8)(d:Dec)(hs:d.st= .size)(hg:goD d)(hl:d.line=[])(h0:p≠[])(hm:(p.length:Int)<=d.most-d.body.length)(hn:p.length<=1099511627776):
  qat d (qbF p)=({d with body:=d.body++p,left:=0,total:=d.total+(qbF p).length},(qbF p).length):=by
 have hp0:p.length≠0:=fun e=>h0 (List.length_eq_zero_iff.1 e);have e1:=qiX p.length d hs hg hl hn;have e2:=qoL p.length {d with line:=hexD p.length++[13],total:=d.total+(hexD p.length).length+1} hs rfl hn;rw[if_neg (by simp;omega),if_neg hp0]at e2;have e3:=qkw p {d with line:=[],left:=p.length,st:= .data,total:=d.total+(hexD p.length).length+1+1,err:=0} rfl ⟨hg.1,rfl⟩ h0 rfl
 have e4:feed1 {d with line:=[],body:=d.body++p,left:=0,st:= .first,total:=d.total+(hexD p.length).length+1+1+p.length,err:=0} 13={d with line:=[],body:=d.body++p,left:=0,st:= .second,total:=d.total+(hexD p.length).length+1+1+p.length+1,err:=0}:=by
  unfold feed1 qbR;simp[qeM]
 have e5:feed1 {d with line:=[],body:=d.body++p,left:=0,st:= .second,total:=d.total+(hexD p.length).length+1+1+p.length+1,err:=0} 10={d with line:=[],body:=d.body++p,left:=0,st:= .size,total:=d.total+(hexD p.length).length+1+1+p.length+1+1,err:=0}:=by
  unfold feed1 qbR;simp[qdg]
 have key:=qbV e1 hg (qbV (qc2 e2) ⟨hg.1,rfl⟩ (qbV e3 ⟨hg.1,rfl⟩ (qbV (qc2 e4) ⟨hg.1,rfl⟩ (qc2 e5))));have ht:qbF p=(hexD p.length++[13])++([10]++(p++([13]++[10]))):=by simp[qbF]
 rw[<-ht]at key;rw[key];refine Prod.ext ?_ rfl;have hlen:(qbF p).length=(hexD p.length).length+1+1+p.length+1+1:=by rw[ht];simp;omega
 rw[hlen];cases d;simp only at hs hl;have:=hg.2;simp only at this;subst hs;subst hl;subst this;simp;omega
def qaq(ps:List (List UInt8)):List UInt8:=ps.flatMap qbF
theorem qib:∀(ps:List (List UInt8)) (d:Dec),d.st= .size->goD d->d.line=[]->(∀p∈ps,p≠[])->(ps.flatten.length:Int)<=d.most-d.body.length->ps.flatten.length<=1099511627776->
  ∃lf,qat d (qaq ps)=({d with body:=d.body++ps.flatten,left:=lf,total:=d.total+(qaq ps).length},(qaq ps).length)
 |[],d,_,_,_,_,_,_=>⟨d.left,by simp[qaq,qat]⟩
 |p::ps,d,hs,hg,hl,h0,hm,hn=>by
  simp only[List.flatten_cons,zqK]at hm hn;have e1:=qoS p d hs hg hl (h0 p (by simp)) (by omega) (by omega);obtain⟨lf,e2⟩:=qib ps {d with body:=d.body++p,left:=0,total:=d.total+(qbF p).length} hs hg hl (fun q hq=>h0 q (by simp[hq])) (by simp only[zqK];omega) (by omega);have key:=qbV e1 hg e2;have ht:qaq (p::ps)=qbF p++qaq ps:=by simp[qaq]
  refine⟨lf,?_⟩;rw[ht,key];simp[Nat.add_assoc]
def qax(f:Fld):List UInt8:=f.name++58::(if f.value=[]then []else 32::f.value)
def qbY(l:List UInt8):Bool:=decide (l.length<=8192)&&fldB l&&decide (qaJ l=l)
def qbj(f:Fld):Bool:=mayB f.name&&qbY f.value
theorem qmO{l:List UInt8}(h:fldB l=true):∀b∈l,b≠10:=by
 intro b hb e;subst e;have:=List.all_eq_true.1 h 10 hb;exact absurd this (by decide)
theorem qfe{l:List UInt8}(h:tokB l=true):∀b∈l,qai b=true:=by
 unfold tokB at h;simp at h;exact h.1
theorem qt2:∀n,n<256->qai (UInt8.ofNat n)=true->ncol (UInt8.ofNat n)=true/\UInt8.ofNat n≠10:=by decide
theorem qgv{b:UInt8}(h:qai b=true):ncol b=true/\b≠10:=by
 have:=qt2 b.toNat b.toNat_lt;rw[qce]at this;exact this h
theorem qhc{l:List UInt8}(h:mayB l=true):qbm l=true:=by
 unfold mayB at h;simp at h;exact h.1
theorem qed{l:List UInt8}(h:qbm l=true):tokB l=true:=by
 unfold qbm at h;simp at h;exact h.2
theorem qgX(p:UInt8->Bool):∀(l:List UInt8) (c:UInt8) (r:List UInt8),(∀b∈l,p b=true)->p c=false->run p (l++c::r)=l.length
 |[],c,r,_,hc=>by unfold run;simp[hc]
 |a::l,c,r,h,hc=>by
  have:=qgX p l c r (fun b hb=>h b (by simp[hb])) hc;unfold run at this⊢;rw[List.cons_append,List.takeWhile_cons,if_pos (h a (by simp))];simp[this]
theorem qoA(v:List UInt8):qaJ (32::v)=qaJ v:=by
 unfold qaJ Lib.trimS Lib.trimRightS Lib.trimLeftS;rw[List.reverse_cons,List.dropWhile_append];split
 ·rename_i h;rw[List.isEmpty_iff.1 h];decide
 ·rw[List.reverse_append];show List.dropWhile _ (32::_)=_;rw[List.dropWhile_cons,if_pos (by decide)];rfl
theorem qlG(f:Fld)(h:qbj f=true):qbE (qax f)=some f:=by
 unfold qbj qbY at h;simp at h;obtain⟨h1,⟨h2,h3⟩,h4⟩:=h;have hn:=qhc h1;have hr:run ncol (qax f)=f.name.length:=qgX ncol f.name 58 _ (fun b hb=>(qgv (qfe (qed hn) b hb)).1) (by decide);have ht:(qax f).take f.name.length=f.name:=by unfold qax;rw[List.take_append_of_le_length (Nat.le_refl _),zqE (Nat.le_refl _)]
 have hd:(qax f).drop (f.name.length+1)=if f.value=[]then []else 32::f.value:=by
  unfold qax;rw[List.drop_append,List.drop_of_length_le (by omega)];simp
 have hlt:f.name.length<(qax f).length:=by unfold qax;simp
 unfold qbE;rw[hr,ht,hd]
 have htr:qaJ (if f.value=[]then []else 32::f.value)=f.value:=by
  split
  ·rename_i h5;rw[h5]at h4⊢;exact h4
  ·rw[qoA];exact h4
 have hfl:fldB (if f.value=[]then []else 32::f.value)=true:=by
  split
  ·rfl
  ·unfold fldB at h3⊢;rw[List.all_cons,h3];decide
 rw[htr,if_pos ⟨hlt,hn,hfl,h2⟩]
theorem qnC(f:Fld)(h:qbj f=true):∀b∈qax f,b≠10:=by
 unfold qbj qbY at h;simp at h;obtain⟨h1,⟨h2,h3⟩,h4⟩:=h;intro b hb;unfold qax at hb;rcases List.mem_append.1 hb with hb|hb
 ·exact(qgv (qfe (qed (qhc h1)) b hb)).2
 ·rcases List.mem_cons.1 hb with rfl|hb
  ·decide
  ·split at hb
   ·cases hb
   ·rcases List.mem_cons.1 hb with rfl|hb
    ·decide
    ·exact qmO h3 b hb
def qav(ts:List Fld):List UInt8:=ts.flatMap fun f=>qax f++[13,10]
def encT(ps:List (List UInt8))(ts:List Fld):List UInt8:=qaq ps++([48,13,10]++(qav ts++[13,10]))
theorem hexD0:hexD 0=[48]:=by rw[qcc (by omega)];rfl
def qan:List UInt8->List Int->List (List UInt8)
 |b,[]=>if b=[]then []else [b]
 |b,n::ns=>if b=[]then []else b.take n.toNat::qan (b.drop n.toNat) ns
theorem qdR:∀(ns:List Int) (b:List UInt8),(qan b ns).flatten=b
 |[],b=>by unfold qan;split<;>simp_all
 |n::ns,b=>by
  unfold qan;split
  ·simp_all
  ·rw[List.flatten_cons,qdR ns,List.take_append_drop]
theorem qfq:∀(ns:List Int) (b:List UInt8),(∀n∈ns,1<=n)->∀p∈qan b ns,p≠[]
 |[],b,_,p,hp=>by
  unfold qan at hp;split at hp
  ·cases hp
  ·rename_i h;simp at hp;subst hp;exact h
 |n::ns,b,hn,p,hp=>by
  unfold qan at hp;split at hp
  ·cases hp
  ·rename_i h;rcases List.mem_cons.1 hp with rfl|hp
   ·have h1:=hn n (by simp);intro e;have:=congrArg List.length e;rw[zqJ]at this;have hb:b.length≠0:=fun e=>h (List.length_eq_zero_iff.1 e);have h3:([]:List UInt8).length=0:=rfl;omega
   ·exact qfq ns _ (fun x hx=>hn x (by simp[hx])) p hp
theorem qdw:∀(ns:List Int),qan [] ns=[]
 |[]=>rfl
 |_::_=>rfl
def psz:List Par->Nat
 |[]=>0
 |p::l=>p.name.length+p.value.length+psz l
theorem qrL(l:List Par)(i:Nat):psz (l.take i)<=psz l:=by
 induction l generalizing i with
 |nil=>simp
 |cons p l ih=>
  cases i with
  |zero=>simp[psz]
  |succ i=>have:=ih i;simp[psz];omega
theorem quc{l:List Par}{i:Nat}{p:Par}(h:l[i]? =some p):p.name.length+p.value.length<=psz l:=by
 induction l generalizing i with
 |nil=>simp at h
 |cons q l ih=>
  cases i with
  |zero=>simp at h;subst h;simp[psz]
  |succ i=>have:=ih (i:=i) (by simpa using h);simp[psz];omega
theorem qud(v:List UInt8):(prtV qai v).length<=2*v.length+2:=by
 unfold prtV;have:=qg3 v;split<;>omega
theorem qta(l:List Par):(prt qai l).length<=2*psz l+5*l.length:=by
 induction l with
 |nil=>simp[prt,psz]
 |cons p l ih=>
  have e:prt qai (p::l)=prt1 qai p++prt qai l:=by simp[prt]
  have:=qud p.value;rw[e,zqK]
  have h1:(prt1 qai p).length<=p.name.length+2*p.value.length+5:=by
   unfold prt1;split<;>simp<;>omega
  simp[psz];omega
theorem qrM(l:List Par)(i:Nat)(p:Par)(h:l[i]? =some p):prt qai (l.take (i+1))=prt qai (l.take i)++prt1 qai p:=by
 rw[List.take_add_one,h];simp[prt]
def qeK(l:List Par):List UInt8×Int:=if l.all (qft qai)=true then(prt qai l,0)else([],15)
theorem qdp(l:List UInt8):tokP qai l=tokB l:=rfl
section
variable (E:Env)(H:Hp)(Q:AV->Hp->Prop)
def qrO(l:List Par)(H:Hp)(fr:List AV)(H':Hp):Prop:=∃(J:Hp) (i:Nat),H'=H++J/\i<=l.length/\(l.take i).all (qft qai)=true/\∃x:Nat->AV,fr=[x 0,x 1,x 2,x 3,.str (prt qai (l.take i)),x 5,x 6,x 7,.sl false 3 (prs l),.int .i64 l.length,.int .i64 i,x 11,x 12,x 13,x 14,x 15,x 16,x 17,x 18,x 19,x 20,x 21,x 22,x 23,x 24,x 25,x 26,x 27,x 28,x 29,x 30,x 31,x 32,x 33,x 34,x 35,x 36,x 37,x 38,x 39,x 40,x 41,x 42,x 43,x 44,x 45,x 46,x 47,x 48,x 49,x 50,x 51,x 52,x 53,x 54,x 55,x 56,x 57]
theorem qrN(hE:SE E)(l:List Par)(hl:psz l+l.length<=1048577)(hQ:Q (.tup [.str (qeK l).1,.int .i64 (qeK l).2]) H):PC Tryz.prog E 139 [.sl false 3 (prs l)] H Q:=by
 refine qac Tryz.func139 rfl [] [] (by kernel_rfl) (fun hB=>?_);simp[Tryz.ntmps139,Tryz.results139,List.replicate_succ];refine qaB (qrO l H) (fun fr _=>l.length-(ai (aget fr 10)).toNat) ⟨[],0,by simp,by omega,by simp,qag (by simp[prt])⟩ ?_;rintro fr H' ⟨J,i,rfl,hi,hall,x,rfl⟩;obtain⟨out,hout⟩:=exz (prt qai (l.take i))
 have hol:out.length<=7*1048577:=by
  rw[<-hout];have h1:=qta (l.take i);have h2:=qrL l i;rw[zqJ]at h1;omega
 rw[hout];by_cases h:i<l.length
 ·obtain⟨p,hp⟩:∃u,l[i]? =some u:=⟨_,zqD h⟩
  have hat:=prs_at hp;have hw:IntKind.i64.wrap ((i:Int)+1)=i+1:=wiz;have hpw:=quc hp;have hst:=qrM l i p hp;rw[hout]at hst;have hstep:=qbB (qft qai) l i p hp;have hstop:=qcO (qft qai) l i p hp;obtain⟨nm,vl,hs⟩:=p;simp only at hat hpw hst hstep hstop
  have bad:qft qai ⟨nm,vl,hs⟩=false->Q (.tup [.str [],.int .i64 15]) H:=fun hb=>by
   have:qeK l=([],15):=by unfold qeK;rw[if_neg (by rw[hstop hb];simp)]
   rw[this]at hQ;exact hQ
  have ncap:nm.length<=cap:=by simp only[cap];omega
  have vcap:vl.length<=cap:=by simp only[cap];omega
  simp[h,hat];refine qcb E _ _ hE nm ncap ?_;cases htk:tokB nm
  ·simp;exact qab hB rfl (qaa _) (by simp) (bad (by simp[qft,qdp,htk]))
  ·simp;refine qex E _ _ vl vcap ?_;cases hfd:fldB vl
   ·simp;exact qab hB rfl (qaa _) (by simp) (bad (by simp[qft,qdp,htk,hfd]))
   ·have hm1:nm.length+2<=maxLen/\2+nm.length<=maxLen/\nm.length+1+1<=maxLen/\out.length+(nm.length+1+1)<=maxLen/\out.length+(nm.length+2)<=maxLen:=by unfold maxLen;omega
    cases hs with
    |false=>
     by_cases hv:vl=[]
     ·subst hv;have hok:qft qai ⟨nm,[],false⟩=true:=by simp[qft,qdp,htk];rfl
      have hst2:prt qai (l.take (i+1))=out++59::32::nm:=by rw[hst];simp[prt1]
      simp[hm1,hw];exact Klz ⟨_,i+1,by simp;rfl,by omega,by rw[hstep,hall,hok];rfl,qag (by rw[hst2];simp)⟩
     ·have hne:(vl !=[])=true:=by simpa using hv
      simp[hne];exact qab hB rfl (qaa _) (by simp) (bad (by simp[qft,hv]))
    |true=>
     have hok:qft qai ⟨nm,vl,true⟩=true:=by simp[qft,qdp,htk,hfd]
     have hst2:prt qai (l.take (i+1))=out++59::32::(nm++61::prtV qai vl):=by rw[hst];simp[prt1]
     simp[hm1];refine qcb E _ _ hE vl vcap ?_;cases htv:tokB vl
     ·have hpv:prtV qai vl=quoted vl:=by unfold prtV;rw[qdp,htv];simp
      have hqa:qbT vl=(quoted vl,0):=by rw[qbT,if_pos hfd]
      have hql:=qg3 vl;rw[hpv]at hst2;have hm2:(quoted vl).length+1<=maxLen/\1+(quoted vl).length<=maxLen/\out.length+(nm.length+1+1)+((quoted vl).length+1)<=maxLen/\out.length+(nm.length+1+1+((quoted vl).length+1))<=maxLen:=by unfold maxLen;omega
      simp;refine qrH E _ _ vl (by omega) ?_;simp[hqa,hm2,hw];exact Klz ⟨_,i+1,by simp;rfl,by omega,by rw[hstep,hall,hok];rfl,qag (by rw[hst2];simp)⟩
     ·have hpv:prtV qai vl=vl:=by unfold prtV;rw[qdp,htv];simp
      rw[hpv]at hst2;have hm2:vl.length+1<=maxLen/\1+vl.length<=maxLen/\out.length+(nm.length+1+1)+(vl.length+1)<=maxLen/\out.length+(nm.length+1+1+(vl.length+1))<=maxLen:=by unfold maxLen;omega
      simp[hm2,hw];exact Klz ⟨_,i+1,by simp;rfl,by omega,by rw[hstep,hall,hok];rfl,qag (by rw[hst2];simp)⟩
 ·have ha:l.take i=l:=zqE (by omega);rw[ha]at hall hout;have:qeK l=(out,0):=by unfold qeK;rw[if_pos hall,hout]
  rw[this]at hQ;simp[h];exact qab hB rfl (qaa _) (by simp) hQ
end
section
variable (E:Env)(H:Hp)(Q:AV->Hp->Prop)
end
def Tz(w:World):Prop:=w.cell? ⟨4,15,none⟩=some (.int .u8 4)
def SZ(E:Env):Prop:=SE E/\E.Fix 4/\Tz E.w0
theorem SZ.tz{E:Env}(h:SZ E){w:World}(hw:∀b,E.Fix b->w.heap[b]? =E.w0.heap[b]?):Tz w:=by
 unfold Tz;rw[World.cell?_of_block (a:=⟨4,15,none⟩) (hw _ h.2.1)];exact h.2.2
theorem qtO(W:World)(hT:Tz W):Calls Tryz.prog 206 #[.int .u64 16] W fun e w'=>e= .returned (.int .i64 4)/\w'=W:=by
 unfold Tz at hT;have hq:IntKind.u64.wrap (bits BinOp.and IntKind.u64 16 (IntKind.u64.wrap (-16))*285870213051353865)/288230376151711744=15:=by decide
 go_enter Tryz.func206,Tryz.ntmps206
 go_wp2
 go_ret
 exact⟨rfl,rfl⟩
@[simp] theorem tzc65:tzc Tryz.prog 222=some (List.replicate 65 (.int .u8 0)):=by kernel_rfl
section
variable (E:Env)(H:Hp)(Q:AV->Hp->Prop)
theorem qtN(hE:SZ E)(hQ:Q (.int .i64 4) H):PC Tryz.prog E 206 [.int .u64 16] H Q:=by
 refine qau (v:= .int .i64 4) (by kernel_rfl) Tz (fun w hw=>hE.tz hw) (fun w β Rd cargs hS hsz hargs=>?_) (.int _ _) rfl hQ;obtain⟨u,rfl,hu⟩:=args1 hsz hargs;obtain rfl:=qaD hu;refine(qtO w hS).mono ?_;rintro e w' ⟨rfl,rfl⟩;exact⟨_,rfl,Frm.refl _ _,.int _ _⟩
theorem tz_pc(hE:SZ E)(hQ:Q (.int .i64 4) H):PC Tryz.prog E 185 [.int .u64 16] H Q:=by
 refine qac Tryz.func185 rfl [] [] (by kernel_rfl) (fun hB=>?_);simp[Tryz.ntmps185,Tryz.results185,List.replicate_succ];refine qtN E _ _ hE ?_;simp;exact aQz hB (h6:=hQ)
theorem quf(hQ:Q (.bool true) H):PC Tryz.prog E 184 [.int .i64 16] H Q:=by
 refine qac Tryz.func184 rfl [] [] (by kernel_rfl) (fun hB=>?_);simp[Tryz.ntmps184,Tryz.results184,List.replicate_succ];exact aQz hB (h6:=hQ)
def digL:List UInt8:=[48,49,50,51,52,53,54,55,56,57,97,98,99,100,101,102,103,104,105,106,107,108,109,110,111,112,113,114,115,116,117,118,119,120,121,122]
theorem qp8:∀k,k<16->digL[k]? =some (hx k):=by decide
theorem ql7{n:Int}(h0:0<=n)(h1:n<18446744073709551616):IntKind.u64.wrap n=n:=by
 show n%(2^64)=n;omega
theorem and15(u:Nat)(h:u<=1099511627776):IntKind.u64.wrap ((u%2^IntKind.u64.bits&&&15%2^IntKind.u64.bits:Nat):Int)=((u%16:Nat):Int):=by
 have e1:u%2^IntKind.u64.bits=u:=Nat.mod_eq_of_lt (by show u<18446744073709551616;omega);have e2:15%2^IntKind.u64.bits=15:=rfl;have e3:u&&&15=u%16:=Nat.and_two_pow_sub_one_eq_mod u 4;rw[e1,e2,e3];exact ql7 (by omega) (by omega)
def fbInv(n:Nat)(H:Hp)(fr:List AV)(H':Hp):Prop:=∃(u i:Nat) (tail:List UInt8) (row:List AV),H'=H++[row]/\row.length=65/\hexD u++tail=hexD n/\u<=n/\i+tail.length=65/\row.drop i=tail.map (fun b=> .int .u8 (b.toNat:Int))/\
 ∃x:Nat->AV,fr=[.nil,.int .u64 u,.int .i64 16,.bool false,.bool false,x 5,x 6,x 7,x 8,x 9,.nil,.str [],.ptr (some (H.length,0)),.int .i64 i,.int .u64 4,.int .u64 16,.int .u64 15,x 17,x 18,x 19,x 20,x 21,x 22,x 23,x 24,x 25,x 26,x 27,x 28,x 29,x 30,x 31,x 32,x 33,x 34,x 35,x 36,x 37,x 38,x 39,x 40,x 41,x 42,x 43,x 44,x 45,x 46,x 47,x 48,x 49,x 50,x 51,x 52,x 53,x 54,x 55,x 56,x 57,x 58,x 59,x 60,x 61,x 62,x 63,x 64,x 65,x 66,x 67,x 68,x 69,x 70,x 71,x 72,x 73,x 74,x 75,x 76,x 77,x 78,x 79,x 80,x 81,x 82,x 83,x 84,x 85,x 86,x 87,x 88,x 89,x 90,x 91,x 92,x 93,x 94,x 95,x 96,x 97,x 98,x 99,x 100,x 101]
theorem qjh(hE:SZ E)(n:Nat)(hn:n<=1099511627776)(hQ:Q (.tup [.nil,.str (hexD n)]) H):PC Tryz.prog E 161 [.nil,.int .u64 n,.int .i64 16,.bool false,.bool false] H Q:=by
 refine qac Tryz.func161 rfl [95] [(30,[0,0,3])] (by kernel_rfl) (fun hB=>?_);simp[Tryz.ntmps161,Tryz.results161,List.replicate_succ];refine quf E _ _ ?_;simp;refine tz_pc E _ _ hE ?_;simp;refine qaB (fbInv n H) (fun fr _=>(ai (aget fr 1)).toNat) ⟨n,65,[],List.replicate 65 (.int .u8 0),by simp,by simp,by simp,by omega,by simp,by simp,qag (by simp;exact⟨rfl,rfl,rfl⟩)⟩ ?_;rintro fr H' ⟨u,i,tail,row,rfl,hrow,hu,hun,hi,hdr,x,rfl⟩;have hlu:=qmI u;have hln:=qbG n hn;have hcat:=congrArg List.length hu;rw[zqK]at hcat;obtain⟨j,rfl⟩:∃j,i=j+1:=⟨i-1,by omega⟩
 have hw:IntKind.i64.wrap (j:Int)=j:=wiz;have hw1:IntKind.i64.wrap (((j+1:Nat):Int)-1)=j:=by rw[qak (by omega) (by omega)];omega
 by_cases h:16<=u
 ·have h':(16:Int)<=u:=by omega
  have ha:=and15 u (by omega);have hat:lat [48,49,50,51,52,53,54,55,56,57,97,98,99,100,101,102,103,104,105,106,107,108,109,110,111,112,113,114,115,116,117,118,119,120,121,122] (u%16)=some (hx (u%16)):=qp8 _ (Nat.mod_lt _ (by omega));have hj:j<=64:=by omega
  have hj2:j<65:=by omega
  simp[h',hw,hw1,ha,hat,hj,hj2,hrow,-Int.natCast_emod]
  have hsh:(u:Int).fdiv (2^min 4 IntKind.u64.bits)=((u/16:Nat):Int):=by
   show(u:Int).fdiv 16=_;rw[Int.fdiv_eq_ediv_of_nonneg _ (by omega)];omega
  refine qaH ⟨u/16,j,hx (u%16)::tail,_,rfl,by simp[hrow];omega,by rw[<-hu,qey (show ¬u<16 by omega)];simp,by omega,by simp;omega,?_,qag (by simp[hsh])⟩ (by simp[hsh];omega);rw[List.drop_append_of_le_length (by rw[zqJ];omega),List.drop_of_length_le (by rw[zqJ];omega),hdr];simp
 ·have h':¬(16:Int)<=u:=by omega
  have hat:lat [48,49,50,51,52,53,54,55,56,57,97,98,99,100,101,102,103,104,105,106,107,108,109,110,111,112,113,114,115,116,117,118,119,120,121,122] u=some (hx u):=qp8 _ (by omega);have hj:j<=64:=by omega
  have hj2:j<65:=by omega
  have hm:65-j<=maxLen:=by unfold maxLen;omega
  have m65:65<=maxLen:=by unfold maxLen;omega
  have hj3:j<=65:=by omega
  have hj4:¬65=j:=by omega
  have e1:65<=j+(64-j+1):=by omega
  have e2:List.take (65-j) ([AV.int .u8 (hx u).toNat]::List.drop (j+1) (List.map (fun x=>[x]) row))=bts (hx u::tail):=by
   rw[<-List.map_drop,hdr,List.map_map,zqE (by simp;omega)];rfl
  have e3:hexD n=hx u::tail:=by rw[<-hu,qcc (by omega)];rfl
  rw[e3]at hQ;simp[h',hw,hw1,hat,hj,hj2,hj3,hj4,m65,hrow,hm,e1,e2];exact qab hB rfl (qaa _) (by simp) hQ
theorem qjg(hE:SZ E)(n:Nat)(hn:n<=1099511627776)(hQ:Q (.str (hexD n)) H):PC Tryz.prog E 141 [.int .i64 n,.int .i64 16] H Q:=by
 refine qac Tryz.func141 rfl [] [] (by kernel_rfl) (fun hB=>?_);have hw:IntKind.u64.wrap (n:Int)=n:=ql7 (by omega) (by omega);simp[Tryz.ntmps141,Tryz.results141,List.replicate_succ,hw];refine qjh E _ _ hE n hn ?_;simp;exact aQz hB (h6:=hQ)
theorem qkA(hE:SZ E)(n:Nat)(hn:n<=1099511627776)(hQ:Q (.str (hexD n)) H):PC Tryz.prog E 140 [.int .i64 n,.int .i64 16] H Q:=by
 refine qac Tryz.func140 rfl [] [] (by kernel_rfl) (fun hB=>?_);simp[Tryz.ntmps140,Tryz.results140,List.replicate_succ];refine qjg E _ _ hE n hn ?_;simp;exact aQz hB (h6:=hQ)
def ddInv(n:Nat)(H:Hp)(fr:List AV)(H':Hp):Prop:=H'=H/\∃(u:Nat) (tail:List UInt8),hexD u++tail=hexD n/\u<=n/\∃x:Nat->AV,fr=[.int .i64 u,x 1,x 2,.str tail,x 4,x 5,x 6,x 7,x 8,x 9,x 10,x 11,x 12,x 13,x 14,x 15,x 16]
theorem quB:∀k,k<16->([48,49,50,51,52,53,54,55,56,57,97,98,99,100,101,102]:List UInt8).drop k=hx k::([48,49,50,51,52,53,54,55,56,57,97,98,99,100,101,102]:List UInt8).drop (k+1):=by decide
theorem qnW(n:Nat)(hn:n<=1099511627776)(hQ:Q (.str (hexD n)) H):PC Tryz.prog E 85 [.int .i64 n] H Q:=by
 refine qac Tryz.func85 rfl [] [] (by kernel_rfl) (fun hB=>?_);simp[Tryz.ntmps85,Tryz.results85,List.replicate_succ];refine qaB (ddInv n H) (fun fr _=>(ai (aget fr 0)).toNat) ⟨rfl,n,[],by simp,by omega,friz⟩ ?_;rintro fr H' ⟨rfl,u,tail,hu,hun,x,rfl⟩;have hln:=qbG n hn;have hcat:=congrArg List.length hu;rw[zqK]at hcat;have hmod:(u:Int).tmod 16=((u%16:Nat):Int):=by rw[Int.tmod_eq_emod_of_nonneg (by omega)];omega
 have hdiv:(u:Int).tdiv 16=((u/16:Nat):Int):=by rw[Int.tdiv_eq_ediv_of_nonneg (by omega)];omega
 obtain⟨k,hk⟩:=exz (u%16);have hk16:k<16:=by omega
 have hw:IntKind.i64.wrap ((k:Int)+1)=k+1:=wiz;have hw2:IntKind.i64.wrap ((u/16:Nat):Int)=((u/16:Nat):Int):=wiz;have p1:(0:Int)<=(k:Int)+1:=by omega
 have p2:k+1<=16:=by omega
 have p3:k<=15:=by omega
 have hl:=quB k hk16;have hm:tail.length+1<=maxLen:=by unfold maxLen;omega
 have hm2:1+tail.length<=maxLen:=by unfold maxLen;omega
 rw[hk]at hmod;by_cases h:u<16
 ·have h0:u/16=0:=by omega
  rw[h0]at hdiv hw2;have e3:hexD n=hx k::tail:=by rw[<-hu,qcc h,<-hk,Nat.mod_eq_of_lt h];rfl
  rw[e3]at hQ;have hw0:IntKind.i64.wrap 0=0:=rfl;simp[hmod,hdiv,hw,hw0,p1,p2,p3,hl,hm,hm2];exact aQz hB (h6:=hQ)
 ·have h0:(((u/16:Nat):Int)==0)=false:=by rw[beq_eq_false_iff_ne];omega
  simp[hmod,hdiv,hw,hw2,p1,p2,p3,hl,hm,hm2,h0,-Int.natCast_ediv];exact Klz ⟨rfl,u/16,hx k::tail,by rw[<-hu,qey h,<-hk];simp,by omega,friz⟩
def qfh(n:Int)(l:List Par):List UInt8×Int:=
 if n<0\/1099511627776<n then([],1)
 else if l.all (qft qai)=false then([],15)
 else if 254<(hexD n.toNat++prt qai l).length then([],100)else(hexD n.toNat++prt qai l,0)
theorem qj3(hE:SZ E)(n:Int)(l:List Par)(hl:psz l+l.length<=1048577)(hQ:Q (.tup [.str (qfh n l).1,.int .i64 (qfh n l).2]) H):PC Tryz.prog E 111 [.int .i64 n,.sl false 3 (prs l)] H Q:=by
 refine qac Tryz.func111 rfl [] [] (by kernel_rfl) (fun hB=>?_);by_cases h1:n<0
 ·have e:qfh n l=([],1):=by unfold qfh;rw[if_pos (.inl h1)]
  rw[e]at hQ;simp[Tryz.ntmps111,Tryz.results111,List.replicate_succ,h1];exact aQz hB (h6:=hQ)
 ·by_cases h2:1099511627776<n
  ·have e:qfh n l=([],1):=by unfold qfh;rw[if_pos (.inr h2)]
   rw[e]at hQ;simp[Tryz.ntmps111,Tryz.results111,List.replicate_succ,h1,h2];exact aQz hB (h6:=hQ)
  ·obtain⟨m,rfl⟩:∃m:Nat,n=m:=⟨n.toNat,by omega⟩
   have h3:¬1099511627776<(m:Int):=h2;have hln:=qbG m (by omega);have hpl:=qta l;simp[Tryz.ntmps111,Tryz.results111,List.replicate_succ,h1,h3];refine qrN E _ _ hE.1 l (by omega) ?_;cases hall:l.all (qft qai)with
   |false=>
    have e:qfh m l=([],15):=by unfold qfh;rw[if_neg (by omega),if_pos hall]
    have e2:qeK l=([],15):=by unfold qeK;rw[if_neg (by rw[hall];simp)]
    rw[e]at hQ;simp[e2];exact aQz hB (h6:=hQ)
   |true=>
    have e2:qeK l=(prt qai l,0):=by unfold qeK;rw[if_pos hall]
    have hm:(hexD m).length+(prt qai l).length<=maxLen:=by unfold maxLen;omega
    simp[e2];refine qkA E _ _ hE m (by omega) ?_;by_cases h4:254<(hexD m++prt qai l).length
    ·have e:qfh m l=([],100):=by unfold qfh;rw[if_neg (by omega),if_neg (by rw[hall];simp),if_pos (by simpa using h4)]
     have h4':(254:Int)<(hexD m).length+(prt qai l).length:=by rw[zqK]at h4;omega
     rw[e]at hQ;simp[hm,h4'];exact aQz hB (h6:=hQ)
    ·have e:qfh m l=(hexD m++prt qai l,0):=by unfold qfh;rw[if_neg (by omega),if_neg (by rw[hall];simp),if_neg (by simpa using h4)];simp
     have h4':¬(254:Int)<(hexD m).length+(prt qai l).length:=by rw[zqK]at h4;omega
     rw[e]at hQ;simp[hm,h4'];exact aQz hB (h6:=hQ)
end
section
variable (E:Env)(H:Hp)(Q:AV->Hp->Prop)
end
end Go.Proofs.YtnnhdehmlkkfjaaGreatDoor
