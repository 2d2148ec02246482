/- Part 12 of the texts below the law. -/
import Derived.Test.YtnnhdehmlkkfjaaGreatDoorPe11
set_option maxRecDepth 100000
set_option maxHeartbeats 16000000
set_option linter.unusedVariables false
set_option linter.unusedSimpArgs false
set_option linter.unusedSectionVars false
namespace Go.Proofs.YtnnhdehmlkkfjaaGreatDoor
open Go Go.RowKit
theorem qmL{k:Nat}{c:UInt8}(h:qaM k c=true)(hk:k=5\/k=7):48<=c.toNat/\c.toNat<=57:=by
 unfold qaM at h;rw[if_neg (by omega),if_pos hk]at h;simpa using h
theorem u8w(c:UInt8)(h:48<=c.toNat/\c.toNat<=57):IntKind.u8.wrap ((c.toNat:Int)-48)=c.toNat-48:=by rw[IntKind.wrap_u8];omega
section
variable (E:Env){b:Nat}
theorem quu(hE:PE E)(K:Hp)(j:Nat)(p:Prs)(c:UInt8)(n:Nat)(Q:AV->Hp->Prop)(R:Value->Hp->Prop)(hf:fitP n p)(hn:n<4194304)(hnx:p.nx=some .line)(hp:PB K b j p)
 (hG:∀p1 nx j1 K1,qct p c= .go p1 nx->PB K1 b j1 p1->(p1.dec.isSome=true->(p.dec.isSome=true/\j1=j)\/K.length<=j1)->OthP K K1 b j p.dec.isSome->BndH K1.length K1->Q (nxV b nx) K1)
 (hR:∀p1 st err at_ j1 K1,qct p c= .bad p1 st err at_->PB K1 b j1 p1->(p1.dec.isSome=true->(p.dec.isSome=true/\j1=j)\/K.length<=j1)->OthP K K1 b j p.dec.isSome->BndH K1.length K1->R (qcC st err at_) K1):
 PX Tryz.prog E 119 [.ptr (some (b,0)),.int .u8 (c.toNat:Int)] K Q R:=by
 refine qbZ R (fun _=>False) Tryz.func119 rfl [60] [(15,[0,3]),(22,[0,3]),(23,[0,0,0,0,0,0,0,0,0,0,4]),(25,[0,0,3])] (by kernel_rfl) (fun E' hpan hS' h0 hF hB=>?_);have hE':=hE.env h0 hF;have hrow:=hp.row;have hlt:=hp.lt;have ha:=hf.a;have hu:=hf.used;have hln:=hf.ln hnx;simp[Prs.av]at hrow;obtain⟨N,hN⟩:=exz (p.text.length);have m1:p.text.length<=140737488355327:=by omega
 have m3:p.text.length<=maxLen:=by unfold maxLen;omega
 have m4:p.text.length+1<=maxLen:=by unfold maxLen;omega
 rw[hN]at m1 m3 m4;have bad:qaM N c=false->R (qcC 400 111 p.used) K:=fun h=>hR p _ _ _ j K (by unfold qct;rw[hN,if_pos h];rfl) hp (fun h=> .inl ⟨h,rfl⟩) (OthP.refl ..) hB
 have more:qaM N c=true->N<9->Q (nxV b (some .line)) (K.set b (({p with text:=p.text++[c]}:Prs).av b j)):=fun h h9=>
  hG {p with text:=p.text++[c]} (some .line) j _ (by unfold qct;rw[hN,if_neg (by rw[h];simp),if_pos h9]) (hp.put (p1:={p with text:=p.text++[c]}) rfl) (fun h=> .inl ⟨h,rfl⟩) (OthP.put ..) (qbn hB b (hp.bnd (p1:={p with text:=p.text++[c]}) rfl))
 have hc0:=c.toNat_lt;rcases(by omega:N<5\/(N=5\/N=7)\/N=6\/N=8\/N=9\/9<N)with hC|hC|hC|hC|hC|hC
 ·obtain⟨x,hx⟩:∃x,([72,84,84,80,47]:List UInt8)[N]? =some x:=⟨_,zqD (by simpa using hC)⟩
  have la:=qas hx;have g1:(N:Int)<5:=by omega
  have g9:(N:Int)<9:=by omega
  by_cases hcx:c=x
  ·have hgg:qaM N c=true:=by unfold qaM;rw[if_pos hC,hx,hcx];simp
   rw[<-hcx]at la;rcases(by omega:c.toNat<48\/(48<=c.toNat/\c.toNat<=57)\/57<c.toNat)with hr|hr|hr
   ·have d1:¬(48:Int)<=c.toNat:=by omega
    have d2:(c.toNat:Int)<=57:=by omega
    simp[Tryz.ntmps119,Tryz.results119,List.replicate_succ,hrow,hN,d1,d2,m1,m3,m4,hs0 hlt,hs1 hlt,hs2 hlt,hs3 hlt,hs4 hlt,hs5 hlt,qa0,g1,g9,la];exact qaP hB hlt (qbS b j {p with text:=p.text++[c]}) rfl (hp.bnd (p1:={p with text:=p.text++[c]}) rfl) (qa2 hlt (some .line)) (more hgg (by omega))
   ·have d1:(48:Int)<=c.toNat:=by omega
    have d2:(c.toNat:Int)<=57:=by omega
    simp[Tryz.ntmps119,Tryz.results119,List.replicate_succ,hrow,hN,d1,d2,m1,m3,m4,hs0 hlt,hs1 hlt,hs2 hlt,hs3 hlt,hs4 hlt,hs5 hlt,qa0,g1,g9,la];exact qaP hB hlt (qbS b j {p with text:=p.text++[c]}) rfl (hp.bnd (p1:={p with text:=p.text++[c]}) rfl) (qa2 hlt (some .line)) (more hgg (by omega))
   ·have d1:(48:Int)<=c.toNat:=by omega
    have d2:¬(c.toNat:Int)<=57:=by omega
    simp[Tryz.ntmps119,Tryz.results119,List.replicate_succ,hrow,hN,d1,d2,m1,m3,m4,hs0 hlt,hs1 hlt,hs2 hlt,hs3 hlt,hs4 hlt,hs5 hlt,qa0,g1,g9,la];exact qaP hB hlt (qbS b j {p with text:=p.text++[c]}) rfl (hp.bnd (p1:={p with text:=p.text++[c]}) rfl) (qa2 hlt (some .line)) (more hgg (by omega))
  ·have hgb:qaM N c=false:=by unfold qaM;rw[if_pos hC,hx];simpa using fun e=>hcx e.symm
   have hcx2:((c.toNat:Int)==(x.toNat:Int))=false:=by rw[beq_eq_false_iff_ne];intro e;exact hcx (UInt8.toNat_inj.1 (by omega))
   rcases(by omega:c.toNat<48\/(48<=c.toNat/\c.toNat<=57)\/57<c.toNat)with hr|hr|hr
   ·have d1:¬(48:Int)<=c.toNat:=by omega
    have d2:(c.toNat:Int)<=57:=by omega
    simp[Tryz.ntmps119,Tryz.results119,List.replicate_succ,hrow,hN,d1,d2,g1,la,hcx2];refine qal E' hp _ _ ?_;rw[hpan];exact bad hgb
   ·have d1:(48:Int)<=c.toNat:=by omega
    have d2:(c.toNat:Int)<=57:=by omega
    simp[Tryz.ntmps119,Tryz.results119,List.replicate_succ,hrow,hN,d1,d2,g1,la,hcx2];refine qal E' hp _ _ ?_;rw[hpan];exact bad hgb
   ·have d1:(48:Int)<=c.toNat:=by omega
    have d2:¬(c.toNat:Int)<=57:=by omega
    simp[Tryz.ntmps119,Tryz.results119,List.replicate_succ,hrow,hN,d1,d2,g1,la,hcx2];refine qal E' hp _ _ ?_;rw[hpan];exact bad hgb
 ·have g1:¬(N:Int)<5:=by omega
  have g9:(N:Int)<9:=by omega
  rcases hC with hC|hC
  ·have hNv:(N:Int)=5:=by omega
   rcases(by omega:c.toNat<48\/(48<=c.toNat/\c.toNat<=57)\/57<c.toNat)with hr|hr|hr
   ·have d1:¬(48:Int)<=c.toNat:=by omega
    have d2:(c.toNat:Int)<=57:=by omega
    have hgb:qaM N c=false:=by unfold qaM;rw[if_neg (by omega),if_pos (by omega)];simp;omega
    simp[Tryz.ntmps119,Tryz.results119,List.replicate_succ,hrow,hN,d1,d2,hNv];refine qal E' hp _ _ ?_;rw[hpan];exact bad hgb
   ·have d1:(48:Int)<=c.toNat:=by omega
    have d2:(c.toNat:Int)<=57:=by omega
    have hgg:qaM N c=true:=by unfold qaM;rw[if_neg (by omega),if_pos (by omega)];simpa using hr
    simp[Tryz.ntmps119,Tryz.results119,List.replicate_succ,hrow,hN,d1,d2,m1,m3,m4,hs0 hlt,hs1 hlt,hs2 hlt,hs3 hlt,hs4 hlt,hs5 hlt,qa0,hNv];exact qaP hB hlt (qbS b j {p with text:=p.text++[c]}) rfl (hp.bnd (p1:={p with text:=p.text++[c]}) rfl) (qa2 hlt (some .line)) (more hgg (by omega))
   ·have d1:(48:Int)<=c.toNat:=by omega
    have d2:¬(c.toNat:Int)<=57:=by omega
    have hgb:qaM N c=false:=by unfold qaM;rw[if_neg (by omega),if_pos (by omega)];simp;omega
    simp[Tryz.ntmps119,Tryz.results119,List.replicate_succ,hrow,hN,d1,d2,hNv];refine qal E' hp _ _ ?_;rw[hpan];exact bad hgb
  ·have hNv:(N:Int)=7:=by omega
   rcases(by omega:c.toNat<48\/(48<=c.toNat/\c.toNat<=57)\/57<c.toNat)with hr|hr|hr
   ·have d1:¬(48:Int)<=c.toNat:=by omega
    have d2:(c.toNat:Int)<=57:=by omega
    have hgb:qaM N c=false:=by unfold qaM;rw[if_neg (by omega),if_pos (by omega)];simp;omega
    simp[Tryz.ntmps119,Tryz.results119,List.replicate_succ,hrow,hN,d1,d2,hNv];refine qal E' hp _ _ ?_;rw[hpan];exact bad hgb
   ·have d1:(48:Int)<=c.toNat:=by omega
    have d2:(c.toNat:Int)<=57:=by omega
    have hgg:qaM N c=true:=by unfold qaM;rw[if_neg (by omega),if_pos (by omega)];simpa using hr
    simp[Tryz.ntmps119,Tryz.results119,List.replicate_succ,hrow,hN,d1,d2,m1,m3,m4,hs0 hlt,hs1 hlt,hs2 hlt,hs3 hlt,hs4 hlt,hs5 hlt,qa0,hNv];exact qaP hB hlt (qbS b j {p with text:=p.text++[c]}) rfl (hp.bnd (p1:={p with text:=p.text++[c]}) rfl) (qa2 hlt (some .line)) (more hgg (by omega))
   ·have d1:(48:Int)<=c.toNat:=by omega
    have d2:¬(c.toNat:Int)<=57:=by omega
    have hgb:qaM N c=false:=by unfold qaM;rw[if_neg (by omega),if_pos (by omega)];simp;omega
    simp[Tryz.ntmps119,Tryz.results119,List.replicate_succ,hrow,hN,d1,d2,hNv];refine qal E' hp _ _ ?_;rw[hpan];exact bad hgb
 ·have hNv:(N:Int)=6:=by omega
  by_cases hcx:c=46
  ·have hgg:qaM N c=true:=by unfold qaM;rw[if_neg (by omega),if_neg (by omega),if_pos hC,hcx];simp
   have g9:(N:Int)<9:=by omega
   have d1:¬(48:Int)<=c.toNat:=by rw[hcx];decide
   have d2:(c.toNat:Int)<=57:=by rw[hcx];decide
   have d3:(c.toNat:Int)=46:=by rw[hcx];decide
   have e10:bts p.text++[[AV.int .u8 46]]=bts (p.text++[c]):=by rw[hcx];exact qa0 p.text 46
   simp[Tryz.ntmps119,Tryz.results119,List.replicate_succ,hrow,hN,d1,d2,m1,m3,m4,hs0 hlt,hs1 hlt,hs2 hlt,hs3 hlt,hs4 hlt,hs5 hlt,qa0,hNv,d3,e10];exact qaP hB hlt (qbS b j {p with text:=p.text++[c]}) rfl (hp.bnd (p1:={p with text:=p.text++[c]}) rfl) (qa2 hlt (some .line)) (more hgg (by omega))
  ·have hgb:qaM N c=false:=by unfold qaM;rw[if_neg (by omega),if_neg (by omega),if_pos hC];simpa using hcx
   have hb:=(qaE c 46 (by decide) 46 rfl hcx).1;rcases(by omega:c.toNat<48\/(48<=c.toNat/\c.toNat<=57)\/57<c.toNat)with hr|hr|hr
   ·have d1:¬(48:Int)<=c.toNat:=by omega
    have d2:(c.toNat:Int)<=57:=by omega
    simp[Tryz.ntmps119,Tryz.results119,List.replicate_succ,hrow,hN,d1,d2,hNv,hb];refine qal E' hp _ _ ?_;rw[hpan];exact bad hgb
   ·have d1:(48:Int)<=c.toNat:=by omega
    have d2:(c.toNat:Int)<=57:=by omega
    simp[Tryz.ntmps119,Tryz.results119,List.replicate_succ,hrow,hN,d1,d2,hNv,hb];refine qal E' hp _ _ ?_;rw[hpan];exact bad hgb
   ·have d1:(48:Int)<=c.toNat:=by omega
    have d2:¬(c.toNat:Int)<=57:=by omega
    simp[Tryz.ntmps119,Tryz.results119,List.replicate_succ,hrow,hN,d1,d2,hNv,hb];refine qal E' hp _ _ ?_;rw[hpan];exact bad hgb
 ·have hNv:(N:Int)=8:=by omega
  by_cases hcx:c=13
  ·have hgg:qaM N c=true:=by unfold qaM;rw[if_neg (by omega),if_neg (by omega),if_neg (by omega),if_pos hC,hcx];simp
   have g9:(N:Int)<9:=by omega
   have d1:¬(48:Int)<=c.toNat:=by rw[hcx];decide
   have d2:(c.toNat:Int)<=57:=by rw[hcx];decide
   have d3:(c.toNat:Int)=13:=by rw[hcx];decide
   have e10:bts p.text++[[AV.int .u8 13]]=bts (p.text++[c]):=by rw[hcx];exact qa0 p.text 13
   simp[Tryz.ntmps119,Tryz.results119,List.replicate_succ,hrow,hN,d1,d2,m1,m3,m4,hs0 hlt,hs1 hlt,hs2 hlt,hs3 hlt,hs4 hlt,hs5 hlt,qa0,hNv,d3,e10];exact qaP hB hlt (qbS b j {p with text:=p.text++[c]}) rfl (hp.bnd (p1:={p with text:=p.text++[c]}) rfl) (qa2 hlt (some .line)) (more hgg (by omega))
  ·have hgb:qaM N c=false:=by unfold qaM;rw[if_neg (by omega),if_neg (by omega),if_neg (by omega),if_pos hC];simpa using hcx
   have hb:=(qaE c 13 (by decide) 13 rfl hcx).1;rcases(by omega:c.toNat<48\/(48<=c.toNat/\c.toNat<=57)\/57<c.toNat)with hr|hr|hr
   ·have d1:¬(48:Int)<=c.toNat:=by omega
    have d2:(c.toNat:Int)<=57:=by omega
    simp[Tryz.ntmps119,Tryz.results119,List.replicate_succ,hrow,hN,d1,d2,hNv,hb];refine qal E' hp _ _ ?_;rw[hpan];exact bad hgb
   ·have d1:(48:Int)<=c.toNat:=by omega
    have d2:(c.toNat:Int)<=57:=by omega
    simp[Tryz.ntmps119,Tryz.results119,List.replicate_succ,hrow,hN,d1,d2,hNv,hb];refine qal E' hp _ _ ?_;rw[hpan];exact bad hgb
   ·have d1:(48:Int)<=c.toNat:=by omega
    have d2:¬(c.toNat:Int)<=57:=by omega
    simp[Tryz.ntmps119,Tryz.results119,List.replicate_succ,hrow,hN,d1,d2,hNv,hb];refine qal E' hp _ _ ?_;rw[hpan];exact bad hgb
 ·have hNv:(N:Int)=9:=by omega
  by_cases hcx:c=10
  ·have hgg:qaM N c=true:=by unfold qaM;rw[if_neg (by omega),if_neg (by omega),if_neg (by omega),if_neg (by omega),if_pos hC,hcx];simp
   subst hcx;have e10:bts p.text++[[AV.int .u8 10]]=bts (p.text++[10]):=qa0 p.text 10;obtain⟨x5,hx5⟩:∃x,p.text[5]? =some x:=⟨_,zqD (by omega)⟩
   obtain⟨x7,hx7⟩:∃x,p.text[7]? =some x:=⟨_,zqD (by omega)⟩
   have r5:=qmL (hln 5 x5 hx5) (.inl rfl);have r7:=qmL (hln 7 x7 hx7) (.inr rfl)
   have la5:lat (bts (p.text++[10])) 5=some [.int .u8 (x5.toNat:Int)]:=by
    have:(p.text++[10])[5]? =some x5:=by rw[zqA (by omega)];exact hx5
    unfold lat bts;rw[List.getElem?_map,this];rfl
   have la7:lat (bts (p.text++[10])) 7=some [.int .u8 (x7.toNat:Int)]:=by
    have:(p.text++[10])[7]? =some x7:=by rw[zqA (by omega)];exact hx7
    unfold lat bts;rw[List.getElem?_map,this];rfl
   have gd5:p.text.getD 5 0=x5:=by simp[List.getD,hx5]
   have gd7:p.text.getD 7 0=x7:=by simp[List.getD,hx7]
   have hV:qct p 10=(let p1:Prs:={p with text:=[],major:=(x5.toNat:Int)-48,minor:=(x7.toNat:Int)-48}
     if p1.major≠1\/1<p1.minor then qaA p1 505 117 else if tgtE p.meth p.targ≠0 then qaA p1 400 (tgtE p.meth p.targ)else .go {p1 with state:=2,begin_:=p.used+1} (some .fields)):=by
    unfold qct;rw[hN,if_neg (by rw[hgg];simp),if_neg (by omega),gd5,gd7]
   obtain⟨ma,hma⟩:∃m:Int,(x5.toNat:Int)-48=m:=⟨_,rfl⟩
   obtain⟨mi,hmi⟩:∃m:Int,(x7.toNat:Int)-48=m:=⟨_,rfl⟩
   rw[hma,hmi]at hV;dsimp only at hV;have w5:IntKind.u8.wrap ((x5.toNat:Int)-48)=ma:=(u8w x5 r5).trans hma;have w7:IntKind.u8.wrap ((x7.toNat:Int)-48)=mi:=(u8w x7 r7).trans hmi;have v5':IntKind.i64.wrap ma=ma:=wiz;have v7':IntKind.i64.wrap mi=mi:=wiz;have hp1:PB (K.set b (({p with text:=[],major:=ma,minor:=mi}:Prs).av b j)) b j {p with text:=[],major:=ma,minor:=mi}:=hp.put rfl;have hbd1:=qbn hB b (hp.bnd (p1:={p with text:=[],major:=ma,minor:=mi}) rfl)
   have hnil:∀l,nilL l (({p with text:=[],major:=ma,minor:=mi}:Prs).av b j)->nilH (K.set b l) (K.set b (({p with text:=[],major:=ma,minor:=mi}:Prs).av b j)):=fun l hl=>by
    have:=qc8 (K.set b l) b _ _ (hs4 hlt _) hl;rwa[hs5 hlt]at this
   have hbadv:(ma≠1\/1<mi)->R (qcC 505 117 p.used) (K.set b (({p with text:=[],major:=ma,minor:=mi}:Prs).av b j)):=fun h=>
    hR {p with text:=[],major:=ma,minor:=mi} _ _ _ j _ (by rw[hV,if_pos h];rfl) hp1 (fun h=> .inl ⟨h,rfl⟩) (OthP.put ..) hbd1
   have w11:IntKind.i64.wrap 1=1:=by decide
   by_cases hm1:ma=1
   ·by_cases hmi1:1<mi
    ·simp[Tryz.ntmps119,Tryz.results119,List.replicate_succ,hrow,hN,hNv,m1,m3,m4,e10,la5,la7,w5,w7,v5',v7',w11,hm1,hmi1,hs0 hlt,hs1 hlt,hs2 hlt,hs3 hlt,hs4 hlt,hs5 hlt];refine PX.nilTo (H1:=K.set b (({p with text:=[],major:=ma,minor:=mi}:Prs).av b j)) ?_ (hnil _ (by rw[hm1];exact qcr b j {p with text:=[],major:=1,minor:=mi} rfl)) (by simp);refine qal E' hp1 _ _ ?_;rw[hpan];exact hbadv (.inr hmi1)
    ·rw[if_neg (by omega)]at hV;simp[Tryz.ntmps119,Tryz.results119,List.replicate_succ,hrow,hN,hNv,m1,m3,m4,e10,la5,la7,w5,w7,v5',v7',w11,hm1,hmi1,hs0 hlt,hs1 hlt,hs2 hlt,hs3 hlt,hs4 hlt,hs5 hlt];refine qdf fun J=>?_;refine qoE E' _ hE' p.meth p.targ (by omega) hf.asc (fun fm pt h pa qu hq v=>⟨rfl,?_⟩);by_cases hT:tgtE p.meth p.targ=0
     ·rw[if_neg (by simp[hT])]at hV;have wu:IntKind.i64.wrap (p.used+1)=p.used+1:=wiz;simp[tgV,hT,wu,hs0 hlt,hs1 hlt,hs2 hlt,hs3 hlt,hs4 hlt,hs5 hlt];subst hm1
      exact qe3 hB hlt (qcr b j {p with text:=[],major:=1,minor:=mi,state:=2,begin_:=p.used+1} rfl) rfl (hp.bnd (p1:={p with text:=[],major:=1,minor:=mi,state:=2,begin_:=p.used+1}) rfl) (qa2 hlt (some .fields))
       (hG _ _ j _ hV (hp.put (p1:={p with text:=[],major:=1,minor:=mi,state:=2,begin_:=p.used+1}) rfl) (fun h=> .inl ⟨h,rfl⟩) (OthP.put ..) (qbn hB b (hp.bnd (p1:={p with text:=[],major:=1,minor:=mi,state:=2,begin_:=p.used+1}) rfl)))
     ·rw[if_pos hT]at hV;have hT':(tgtE p.meth p.targ==0)=false:=by simpa using hT
      have hT2:(tgtE p.meth p.targ !=0)=true:=by simpa using hT
      simp[tgV,hT',hT2,hs0 hlt,hs1 hlt,hs2 hlt,hs3 hlt,hs4 hlt,hs5 hlt]
      have hnA:=fun(J:Hp) (l:List AV) (hl:nilL l (({p with text:=[],major:=ma,minor:=mi}:Prs).av b j))=>show nilH (K.set b l++J) (K.set b (({p with text:=[],major:=ma,minor:=mi}:Prs).av b j)++J)by
       have:=qc8 (K.set b l++J) b _ _ (hs1 hlt _ _) hl;rwa[hs2 hlt]at this
      refine PX.nilTo (H1:=K.set b (({p with text:=[],major:=ma,minor:=mi}:Prs).av b j)++[[.int .i64 fm,.str h,.int .i64 pt,.str pa,.str qu,.bool hq]]) ?_ (hnA _ _ (by rw[hm1];exact qcr b j {p with text:=[],major:=1,minor:=mi} rfl)) (by simp);refine qal E' (hp1.app _) _ _ ?_;rw[hpan];refine hR _ _ _ _ j _ hV (hp1.app _) (fun h=> .inl ⟨h,rfl⟩) ⟨by simp,fun i hi h1 _=>by rw[zqA (by simpa using hi),zqF (Ne.symm h1)]⟩ ?_;have hbb:=qf5 (M:=K.length+1) hbd1 (by simp)
      have:=qeE hbb (J:=[[AV.int .i64 fm,.str h,.int .i64 pt,.str pa,.str qu,.bool hq]]) (fun X hX y hy=>by
       simp only[List.mem_cons,List.not_mem_nil,or_false]at hX;subst hX;simp at hy
       rcases hy with rfl|rfl|rfl|rfl|rfl|rfl<;>constructor)
      simpa using this
   ·have hm1':(ma==1)=false:=by simpa using hm1
    have hm2:(ma !=1)=true:=by simpa using hm1
    simp[Tryz.ntmps119,Tryz.results119,List.replicate_succ,hrow,hN,hNv,m1,m3,m4,e10,la5,la7,w5,w7,v5',v7',hm1',hm2,hs0 hlt,hs1 hlt,hs2 hlt,hs3 hlt,hs4 hlt,hs5 hlt];refine PX.nilTo (H1:=K.set b (({p with text:=[],major:=ma,minor:=mi}:Prs).av b j)) ?_ (hnil _ (qcr b j {p with text:=[],major:=ma,minor:=mi} rfl)) (by simp);refine qal E' hp1 _ _ ?_;rw[hpan];exact hbadv (.inl hm1)
  ·have hgb:qaM N c=false:=by unfold qaM;rw[if_neg (by omega),if_neg (by omega),if_neg (by omega),if_neg (by omega),if_pos hC];simpa using hcx
   have hb:=(qaE c 10 (by decide) 10 rfl hcx).1;rcases(by omega:c.toNat<48\/(48<=c.toNat/\c.toNat<=57)\/57<c.toNat)with hr|hr|hr
   ·have d1:¬(48:Int)<=c.toNat:=by omega
    have d2:(c.toNat:Int)<=57:=by omega
    simp[Tryz.ntmps119,Tryz.results119,List.replicate_succ,hrow,hN,d1,d2,hNv,hb];refine qal E' hp _ _ ?_;rw[hpan];exact bad hgb
   ·have d1:(48:Int)<=c.toNat:=by omega
    have d2:(c.toNat:Int)<=57:=by omega
    simp[Tryz.ntmps119,Tryz.results119,List.replicate_succ,hrow,hN,d1,d2,hNv,hb];refine qal E' hp _ _ ?_;rw[hpan];exact bad hgb
   ·have d1:(48:Int)<=c.toNat:=by omega
    have d2:¬(c.toNat:Int)<=57:=by omega
    simp[Tryz.ntmps119,Tryz.results119,List.replicate_succ,hrow,hN,d1,d2,hNv,hb];refine qal E' hp _ _ ?_;rw[hpan];exact bad hgb
 ·have q5:¬(N:Int)<5:=by omega
  have f5:((N:Int)==5)=false:=by rw[beq_eq_false_iff_ne];omega
  have f6:((N:Int)==6)=false:=by rw[beq_eq_false_iff_ne];omega
  have f7:((N:Int)==7)=false:=by rw[beq_eq_false_iff_ne];omega
  have f8:((N:Int)==8)=false:=by rw[beq_eq_false_iff_ne];omega
  have f9:((N:Int)==9)=false:=by rw[beq_eq_false_iff_ne];omega
  have hgb:qaM N c=false:=by unfold qaM;rw[if_neg (by omega),if_neg (by omega),if_neg (by omega),if_neg (by omega),if_neg (by omega)]
  rcases(by omega:c.toNat<48\/(48<=c.toNat/\c.toNat<=57)\/57<c.toNat)with hr|hr|hr
  ·have d1:¬(48:Int)<=c.toNat:=by omega
   have d2:(c.toNat:Int)<=57:=by omega
   simp[Tryz.ntmps119,Tryz.results119,List.replicate_succ,hrow,hN,d1,d2,q5,f5,f6,f7,f8,f9];refine qal E' hp _ _ ?_;rw[hpan];exact bad hgb
  ·have d1:(48:Int)<=c.toNat:=by omega
   have d2:(c.toNat:Int)<=57:=by omega
   simp[Tryz.ntmps119,Tryz.results119,List.replicate_succ,hrow,hN,d1,d2,q5,f5,f6,f7,f8,f9];refine qal E' hp _ _ ?_;rw[hpan];exact bad hgb
  ·have d1:(48:Int)<=c.toNat:=by omega
   have d2:¬(c.toNat:Int)<=57:=by omega
   simp[Tryz.ntmps119,Tryz.results119,List.replicate_succ,hrow,hN,d1,d2,q5,f5,f6,f7,f8,f9];refine qal E' hp _ _ ?_;rw[hpan];exact bad hgb
theorem feedOk(hE:PE E):qtw E b:=by
 intro K j p m c n Q R hf hn hnx hp hG hR;have hH:∀E':Env,E'.w0=E.w0->E'.Fix=E.Fix->qq5 E' b:=fun E' h0 hF=>qpz E' (hE.env h0 hF);cases m
 ·exact qrv E hE.1.1 K j p c n Q R hf hn hp hG hR
 ·exact qld E K j p c n Q R hf hn hp hG hR
 ·exact qkd E hE.1.1 K j p c n Q R hf hn hp hG hR
 ·exact qoG E K j p c n Q R hf hn hp hG hR
 ·exact quu E hE K j p c n Q R hf hn hnx hp hG hR
 ·exact qpS E hE.1.1 hH K j p c n Q R hf hn hp hG hR
 ·exact qnX E K j p c n Q R hf hn hp hG hR
 ·exact qnZ E hE.1.1 K j p c n Q R hf hn hp hG hR
end
theorem PC.argsD{P:Program}{E:Env}{f:FuncId}{args args':List AV}{H:Hp}{Q:AV->Hp->Prop}(h:NilL args args')(hp:PC P E f args' H Q):PC P E f args H Q:=by
 obtain⟨h1,h2⟩:=h.at;refine⟨hp.1,fun w β Rd Ow cargs hr hcell hsz hargs=>hp.2 w β Rd Ow cargs hr hcell (by rw[hsz,h1]) (fun t y u hy hu=>?_)⟩;obtain⟨x,hx⟩:=qcn h1 hy;obtain⟨r1,r2,r3⟩:=hargs t x u hx hu;have hd:=h2 t x y hx hy;exact⟨hd.rel r1,hd.bnd r2,hd.free r3⟩
theorem que{H K:Hp}(h1:H.length<=K.length)(h2:∀i,i<H.length->K[i]? =H[i]?):∃J,K=H++J:=by
 refine⟨K.drop H.length,?_⟩;apply List.ext_getElem?;intro i;by_cases hi:i<H.length
 ·rw[zqA hi,h2 i hi]
 ·rw[zqB (by omega),zqN];congr 1;omega
def chkE(a b c d:Int):Int:=if(1<=a/\a<=65536)/\(2<=b/\b<=1048576)/\(0<=c/\c<=100)/\(0<=d/\d<=1073741824)then 0 else 115
def limV(a b c d:Int):AV:= .agg [.int .i64 a,.int .i64 b,.int .i64 c,.int .i64 d]
def Rq.if(c:Bool)(r:Rq):Rq:=if c then r else .zero
theorem Rq.nil(m t b:List UInt8)(ma mi:Int):NilL [.str m,.str t,.int .i64 ma,.int .i64 mi,.nil,.str b,.nil] (Rq.mk m t ma mi [] b []).avs:=⟨.same _,.same _,.same _,.same _,.nil _,.same _,.nil _,trivial⟩
theorem Rq.nilT(m t b:List UInt8)(ma mi:Int)(fs:List Fld):NilL [.str m,.str t,.int .i64 ma,.int .i64 mi,.sl false 2 (flds fs),.str b,.nil] (Rq.mk m t ma mi fs b []).avs:=⟨.same _,.same _,.same _,.same _,.same _,.same _,.nil _,trivial⟩
theorem Rq.bnd(r:Rq)(N:Nat):∀x∈r.avs,Bnd N x:=by
 intro x hx;simp only[Rq.avs,List.mem_cons,List.not_mem_nil,or_false]at hx;rcases hx with rfl|rfl|rfl|rfl|rfl|rfl|rfl<;>first|exact qdd _ _ _|constructor
def fltV(p:Prs):AV:=if p.state=5 then .agg [.int .i64 p.fst_,.int .i64 p.ferr,.int .i64 p.fat]else .agg [.int .i64 0,.int .i64 0,.int .i64 0]
section
variable (E:Env){H:Hp}(Q:AV->Hp->Prop)
theorem qm1(n a b:Int)(hQ:Q (.bool (decide (a<=n)&&decide (n<=b))) H):PC Tryz.prog E 40 [.int .i64 n,.int .i64 a,.int .i64 b] H Q:=by
 refine qac Tryz.func40 rfl [] [] (by kernel_rfl) (fun hB=>?_);by_cases h1:a<=n
 ·by_cases h2:n<=b
  ·simp[Tryz.ntmps40,Tryz.results40,List.replicate_succ,h1,h2];exact aQz hB (h6:=(by simpa[h1,h2]using hQ))
  ·simp[Tryz.ntmps40,Tryz.results40,List.replicate_succ,h1,h2];exact aQz hB (h6:=(by simpa[h1,h2]using hQ))
 ·simp[Tryz.ntmps40,Tryz.results40,List.replicate_succ,h1];exact aQz hB (h6:=(by simpa[h1]using hQ))
theorem qpa(a b c d:Int)(hQ:Q (.int .i64 (chkE a b c d)) H):PC Tryz.prog E 20 [limV a b c d] H Q:=by
 refine qac Tryz.func20 rfl [] [] (by kernel_rfl) (fun hB=>?_);have fin:∀e,chkE a b c d=e->Q (.int .i64 e) H:=fun e h=>h▸hQ;simp[Tryz.ntmps20,Tryz.results20,List.replicate_succ,limV];refine qm1 E _ a 1 65536 ?_;by_cases h1:1<=a/\a<=65536
 ·have g1:(decide (1<=a)&&decide (a<=65536))=true:=by simpa using h1
  rw[g1];simp;refine qm1 E _ b 2 1048576 ?_;by_cases h2:2<=b/\b<=1048576
  ·have g2:(decide (2<=b)&&decide (b<=1048576))=true:=by simpa using h2
   rw[g2];simp;refine qm1 E _ c 0 100 ?_;by_cases h3:0<=c/\c<=100
   ·have g3:(decide (0<=c)&&decide (c<=100))=true:=by simpa using h3
    rw[g3];simp;refine qm1 E _ d 0 1073741824 ?_;by_cases h4:0<=d/\d<=1073741824
    ·have g4:(decide (0<=d)&&decide (d<=1073741824))=true:=by simpa using h4
     rw[g4];simp;exact qab hB rfl (qaa _) (by simp) (fin 0 (by unfold chkE;rw[if_pos ⟨h1,h2,h3,h4⟩]))
    ·have g4:(decide (0<=d)&&decide (d<=1073741824))=false:=by rw[Bool.eq_false_iff];intro h;simp at h;exact h4 h
     rw[g4];simp;exact qab hB rfl (qaa _) (by simp) (fin 115 (by unfold chkE;rw[if_neg (fun h=>h4 h.2.2.2)]))
   ·have g3:(decide (0<=c)&&decide (c<=100))=false:=by rw[Bool.eq_false_iff];intro h;simp at h;exact h3 h
    rw[g3];simp;exact qab hB rfl (qaa _) (by simp) (fin 115 (by unfold chkE;rw[if_neg (fun h=>h3 h.2.2.1)]))
  ·have g2:(decide (2<=b)&&decide (b<=1048576))=false:=by rw[Bool.eq_false_iff];intro h;simp at h;exact h2 h
   rw[g2];simp;exact qab hB rfl (qaa _) (by simp) (fin 115 (by unfold chkE;rw[if_neg (fun h=>h2 h.2.1)]))
 ·have g1:(decide (1<=a)&&decide (a<=65536))=false:=by rw[Bool.eq_false_iff];intro h;simp at h;exact h1 h
  rw[g1];simp;exact qab hB rfl (qaa _) (by simp) (fin 115 (by unfold chkE;rw[if_neg (fun h=>h1 h.1)]))
theorem qo5(hQ:Q (limV 8000 16384 100 1048576) H):PC Tryz.prog E 17 [] H Q:=by
 refine qac Tryz.func17 rfl [] [] (by kernel_rfl) (fun hB=>?_);simp[Tryz.ntmps17,Tryz.results17,List.replicate_succ];exact qab hB (v0:=limV 8000 16384 100 1048576) (by simp[limV]) (qaa _) (by simp[limV]) hQ
theorem qrP(hE:SE E)(s:List UInt8)(hl:s.length<=cap)(hQ:Q (.bool (tokB s&&decide (s.length<=24))) H):PC Tryz.prog E 21 [.str s] H Q:=by
 refine qac Tryz.func21 rfl [] [] (by kernel_rfl) (fun hB=>?_);simp[Tryz.ntmps21,Tryz.results21,List.replicate_succ];refine qcb E _ _ hE s hl ?_;cases ht:tokB s with
 |false=>
  rw[ht]at hQ;simp;exact aQz hB (h6:=hQ)
 |true=>
  rw[ht]at hQ;have e:decide ((s.length:Int)<=24)=decide (s.length<=24):=by rw[decide_eq_decide];omega
  rw[Bool.true_and,<-e]at hQ;simp;exact aQz hB (h6:=hQ)
def nwH(H:Hp)(a b c d:Int):Hp:=H++[[.int .i64 a,.int .i64 b,.int .i64 c,.int .i64 d],(newP a b c d).av (H.length+1) 0]
theorem nwH_pb(H:Hp)(a b c d:Int):PB (nwH H a b c d) (H.length+1) 0 (newP a b c d):=⟨by unfold nwH;rw[zqB (by omega)];simp,fun d hd=>by cases hd⟩
theorem qum{H:Hp}(hB:BndH H.length H)(a b c d:Int):BndH (nwH H a b c d).length (nwH H a b c d):=by
 have hl:(nwH H a b c d).length=H.length+2:=by unfold nwH;simp
 rw[hl];unfold nwH;refine qeE (qf5 hB (by omega)) (fun X hX y hy=>?_);simp only[List.mem_cons,List.not_mem_nil,or_false]at hX;rcases hX with rfl|rfl
 ·simp at hy;rcases hy with rfl|rfl|rfl|rfl<;>exact .int _ _
 ·exact Prs.bnd (by omega) (fun d hd=>by cases hd) y hy
theorem qug(a b c d:Int)(hQ1:chkE a b c d=0->BndH (nwH H a b c d).length (nwH H a b c d)->Q (.tup [.ptr (some (H.length+1,0)),.int .i64 0]) (nwH H a b c d))(hQ2:chkE a b c d≠0->Q (.tup [.ptr none,.int .i64 (chkE a b c d)]) H):PC Tryz.prog E 18 [limV a b c d] H Q:=by
 refine qac Tryz.func18 rfl [] [] (by kernel_rfl) (fun hB=>?_);simp[Tryz.ntmps18,Tryz.results18,List.replicate_succ,limV];refine qpa E _ a b c d ?_;by_cases h:chkE a b c d=0
 ·have hbn:=qum hB a b c d;simp[h];refine⟨.tup [.ptr (some (H.length+1,0)),.int .i64 0],_,nwH H a b c d,nwH H a b c d,[],rfl,qaa _,?_,(List.append_nil _).symm,by unfold nwH;simp,hbn,by unfold nwH;simp,hQ1 h hbn⟩;exact qi5 H ⟨qbD _,⟨.inl rfl,.inl rfl,.inl rfl,.inl rfl,.inl rfl,.inl rfl,.inl rfl,.inl rfl,.inl rfl,.inl rfl,.inl rfl,.inr ⟨rfl,true,2,rfl⟩,.inl rfl,.inr ⟨rfl,false,2,rfl⟩,.inl rfl,.inl rfl,.inl rfl,.inr ⟨rfl,true,1,rfl⟩,.inl rfl,.inl rfl,.inl rfl,.inl rfl,.inr ⟨rfl,true,1,rfl⟩,.inl rfl,.inl rfl,trivial⟩,trivial⟩
 ·have h':(chkE a b c d==0)=false:=by simpa using h
  have h2:(chkE a b c d !=0)=true:=by simpa using h
  simp[h',h2];exact qab hB rfl (qaa _) (by simp) (hQ2 h)
section
variable {b j:Nat}{p:Prs}
theorem qql(r:Rq)(h1:r.fields.length<=16777216)(h2:r.trailers.length<=16777216)(hQ:Q r.av H):PC Tryz.prog E 37 [r.av] H Q:=by
 refine qac Tryz.func37 rfl [] [] (by kernel_rfl) (fun hB=>?_);have m1:r.fields.length<=maxLen:=by unfold maxLen;omega
 have m2:r.trailers.length<=maxLen:=by unfold maxLen;omega
 have m3:r.fields.length*32<=140737488355328:=by omega
 have m4:r.trailers.length*32<=140737488355328:=by omega
 simp[Tryz.ntmps37,Tryz.results37,List.replicate_succ,Rq.av,Rq.avs,m1,m2,m3,m4];exact qab hB (v0:=r.av) (by simp[Rq.av,Rq.avs]) (qaa _) (by simp[Rq.av,Rq.avs,qdd]) hQ
end
end
end Go.Proofs.YtnnhdehmlkkfjaaGreatDoor
set_option linter.unnecessarySimpa false
namespace Go.Proofs.YtnnhdehmlkkfjaaGreatDoor
open Go Go.RowKit Go.Proofs
theorem qmV:∀n,n<256->(let b:=UInt8.ofNat n;(48<=b.toNat/\b.toNat<=57->dig b=(b.toNat:Int)-48)/\(¬(48<=b.toNat/\b.toNat<=57)->¬(0<=dig b/\dig b<10))):=by decide
theorem quT{b:UInt8}(h:48<=b.toNat/\b.toNat<=57):dig b=(b.toNat:Int)-48:=by
 have:=qmV b.toNat b.toNat_lt;simp at this;exact this.1 h.1 h.2
theorem dig_no{b:UInt8}(h:¬(48<=b.toNat/\b.toNat<=57)):¬(0<=dig b/\dig b<10):=by
 have:=(qmV b.toNat b.toNat_lt).2 (by simpa using h);simpa using this
def qsr(p:List UInt8)(n:Int):Prop:=qaV 10 p=true/\((n<=1099511627776/\n=qbf 10 p)\/(1099511627776<n/\1099511627776<qbf 10 p))/\0<=n/\n<=10995116277769
theorem qnV{l:List UInt8}{i:Nat}{b:UInt8}{n:Int}(h:qsr (l.take i) n)(hb:l[i]? =some b)(hd:48<=b.toNat/\b.toNat<=57):
  qsr (l.take (i+1)) (if n<=1099511627776 then 10*n+((b.toNat:Int)-48)else n):=by
 obtain⟨h1,h2,h3,h4⟩:=h;have hs:=qcR 10 l i b hb;have ho:=qc0 10 l i b hb;have hdg:=quT hd;have hn0:=qbw 10 (by omega) (l.take i) h1;rw[hdg]at hs ho;refine⟨?_,?_,?_,?_⟩
 ·rw[ho,h1,decide_eq_true (by omega)];rfl
 ·rcases h2 with⟨h5,h6⟩|⟨h5,h6⟩
  ·rw[if_pos h5];by_cases hm:10*n+((b.toNat:Int)-48)<=1099511627776
   ·exact .inl ⟨hm,by rw[hs,<-h6];omega⟩
   ·exact .inr ⟨by omega,by rw[hs,<-h6];omega⟩
  ·rw[if_neg (by omega)];exact .inr ⟨h5,by rw[hs];omega⟩
 ·split<;>omega
 ·split<;>omega
theorem qqa{l:List UInt8}{n:Int}(h:qsr l n):decA l=if l=[]\/1099511627776<n then-1 else n:=by
 obtain⟨h1,h2,h3,h4⟩:=h;by_cases hl:l=[]
 ·rw[if_pos (.inl hl),hl];decide
 rcases h2 with⟨h5,h6⟩|⟨h5,h6⟩
 ·have e:qae 10 1099511627776 l=(qbf 10 l,0):=by
   unfold qae;rw[if_neg hl,if_neg (by rw[h1];simp),if_neg (by omega)]
  rw[qqc (by rw[e]),e,if_neg (by rintro(h|h);exact hl h;omega),h6]
 ·have e:qae 10 1099511627776 l=(0,12):=by
   unfold qae;rw[if_neg hl,if_neg (by rw[h1];simp),if_pos (.inr h6)]
  rw[qjp (by rw[e];decide),if_pos (.inr h5)]
theorem qmX{l:List UInt8}{i:Nat}{b:UInt8}(hb:l[i]? =some b)(hd:¬(48<=b.toNat/\b.toNat<=57)):decA l= -1:=by
 apply qjp;have hne:l≠[]:=fun e=>by rw[e]at hb;simp at hb
 unfold qae;rw[if_neg hne,if_pos (qdz 10 l i b hb (dig_no hd))];decide
section
variable (E:Env)(H:Hp)(Q:AV->Hp->Prop)
def ddcInv(l:List UInt8)(H:Hp)(fr:List AV)(H':Hp):Prop:=H'=H/\∃(i:Nat) (n:Int),i<=l.length/\qsr (l.take i) n/\∃x:Nat->AV,fr=[.str l,x 1,x 2,.int .i64 n,.int .i64 i,x 5,x 6,x 7,x 8,x 9,x 10,x 11,x 12,x 13,x 14,x 15,x 16,x 17,x 18,x 19,x 20,x 21,x 22,x 23,x 24,x 25,x 26,x 27,x 28,x 29,x 30,x 31,x 32,x 33,x 34,x 35,x 36,x 37]
theorem qdZ(l:List UInt8)(hl:l.length<=cap)(hQ:Q (.int .i64 (decA l)) H):PC Tryz.prog E 116 [.str l] H Q:=by
 simp only[cap]at hl;have fin:∀a:Int,decA l=a->Q (.int .i64 a) H:=fun a ha=>ha▸hQ;refine qac Tryz.func116 rfl [] [] (by kernel_rfl) (fun hB=>?_);simp[Tryz.ntmps116,Tryz.results116,List.replicate_succ];refine qaB (ddcInv l H) (fun fr _=>l.length-(ai (aget fr 4)).toNat) ⟨rfl,0,0,by omega,⟨rfl,.inl ⟨by omega,rfl⟩,by omega,by omega⟩,friz⟩ ?_;rintro fr H' ⟨rfl,i,n,hi,hn,x,rfl⟩;obtain⟨_,_,n0,n1⟩:=id hn;by_cases h:i<l.length
 ·obtain⟨b,hb⟩:∃b,l[i]? =some b:=⟨_,zqD h⟩
  have hat:=qas hb;have hbn:=b.toNat_lt;have hw:IntKind.i64.wrap ((i:Int)+1)=i+1:=wiz;by_cases h48:(b.toNat:Int)<48
  ·simp[h,hat,h48];exact aQz hB (h6:=(fin _ (qmX hb (by omega))))
  by_cases h57:(57:Int)<b.toNat
  ·simp[h,hat,h48,h57];exact aQz hB (h6:=(fin _ (qmX hb (by omega))))
  have hst:=qnV hn hb (by omega)
  have w1:IntKind.u8.wrap ((b.toNat:Int)-48)=(b.toNat:Int)-48:=by
   unfold IntKind.wrap;simp[IntKind.signed,IntKind.bits,IntKind.min];omega
  by_cases hM:n<=1099511627776
  ·rw[if_pos hM]at hst;have w2:IntKind.i64.wrap (10*n)=10*n:=wiz;have w3:IntKind.i64.wrap ((b.toNat:Int)-48)=(b.toNat:Int)-48:=wiz;have w4:IntKind.i64.wrap (10*n+((b.toNat:Int)-48))=10*n+((b.toNat:Int)-48):=wiz;simp[h,hat,h48,h57,hM,w1,w2,w3,w4,hw];exact Klz ⟨rfl,i+1,_,by omega,hst,friz⟩
  ·rw[if_neg hM]at hst;simp[h,hat,h48,h57,hM,hw];exact Klz ⟨rfl,i+1,_,by omega,hst,friz⟩
 ·obtain rfl:i=l.length:=by omega
  rw[zqE (Nat.le_refl _)]at hn;have he:=qqa hn;by_cases h0:l=[]
  ·rw[if_pos (.inl h0)]at he;have h0':(l==[])=true:=by rw[h0];rfl
   simp[h0'];exact aQz hB (h6:=(fin _ he))
  have h0':(l==[])=false:=by simpa using h0
  by_cases hM:1099511627776<n
  ·rw[if_pos (.inr hM)]at he;simp[h0',hM];exact aQz hB (h6:=(fin _ he))
  ·rw[if_neg (by rintro(h|h);exact h0 h;exact hM h)]at he;simp[h0',hM];exact aQz hB (h6:=(fin _ he))
def dlnInv(acc:List (List UInt8))(m:Int)(H:Hp)(fr:List AV)(H':Hp):Prop:=H'=H/\∃i:Nat,i<=acc.length/\(∀y∈acc.take i,decA y=m)/\(0<i->0<=m)/\
 ∃x:Nat->AV,fr=[x 0,x 1,x 2,x 3,x 4,.sl false 1 (strs acc),x 6,x 7,x 8,x 9,x 10,x 11,x 12,x 13,x 14,x 15,x 16,x 17,x 18,x 19,x 20,x 21,x 22,x 23,x 24,.sl false 1 (strs acc),.int .i64 acc.length,.int .i64 i,x 28,x 29,x 30,x 31,x 32,x 33,x 34,x 35,x 36,x 37,x 38,x 39,x 40,x 41,x 42,x 43,x 44,x 45,x 46,x 47]
theorem qiI(l:List Fld)(hl:fsz l+l.length<=4194304)(hQ:Q (.tup [.int .i64 (qaG l).1,.bool (qaG l).2.1,.int .i64 (qaG l).2.2]) H):PC Tryz.prog E 83 [.sl false 2 (flds l)] H Q:=by
 have fin:∀a:Int×Bool×Int,qaG l=a->Q (.tup [.int .i64 a.1,.bool a.2.1,.int .i64 a.2.2]) H:=fun a ha=>ha▸hQ;have hcn:nCL.length<=cap:=by simp[nCL,cap]
 have hvz:=qdJ l nCL;refine qac Tryz.func83 rfl [] [(9,[0,0,0,0,0,1])] (by kernel_rfl) (fun hB=>?_);simp[Tryz.ntmps83,Tryz.results83,List.replicate_succ];refine qhA E _ _ l nCL (by omega) hcn ?_;by_cases h0:allB l nCL=[]
 ·have hs0:strs ([]:List (List UInt8))=[]:=rfl;simp[h0,hs0];exact aQz hB (h6:=(fin _ (by unfold qaG;rw[if_pos h0]:qaG l=(0,false,0))))
 have h0':(((allB l nCL).length:Int)==0)=false:=by
  rw[beq_eq_false_iff_ne];intro e;exact h0 (List.length_eq_zero_iff.1 (by omega))
 simp[h0'];refine qmU E _ _ l nCL hl hcn ?_;cases hacc:qaY (allB l nCL)with
 |none=>
  have e1:qda l nCL=([],14):=by unfold qda;rw[hacc]
  have e2:qaG l=(0,false,66):=by unfold qaG;rw[if_neg h0,hacc]
  rw[e1];simp;exact aQz hB (h6:=(fin _ e2))
 |some acc=>
  have e1:qda l nCL=(acc,0):=by unfold qda;rw[hacc]
  have hmem:=qdC _ _ hacc;have hlen:=qca _ _ hacc;rw[e1];cases acc with
  |nil=>
   have e2:qaG l=(0,false,66):=by unfold qaG;rw[if_neg h0,hacc]
   have hs0:strs ([]:List (List UInt8))=[]:=rfl;simp[hs0];exact aQz hB (h6:=(fin _ e2))
  |cons w r=>
   have e2:qaG l=if decA w<0\/(r.all fun y=>decide (decA y=decA w))=false then(0,false,66)else(decA w,true,0):=by unfold qaG;rw[if_neg h0,hacc]
   obtain⟨acc,ha⟩:=exz (w::r);have hw0:acc[0]? =some w:=by rw[<-ha];rfl
   have hat0:=qcW hw0;have hpos:0<acc.length:=by rw[<-ha];simp
   have hne:((acc.length:Int)==0)=false:=by rw[beq_eq_false_iff_ne];omega
   have hbad:∀y∈acc,(decA y<0\/decA y≠decA w)->qaG l=(0,false,66):=fun y hy hb=>by
    rw[e2];apply if_pos;by_cases hlt:decA w<0
    ·exact .inl hlt
    right;rw[<-ha]at hy;rcases List.mem_cons.1 hy with rfl|hy
    ·rcases hb with hb|hb
     ·exact absurd hb hlt
     ·exact absurd rfl hb
    ·rw[List.all_eq_false];refine⟨y,hy,?_⟩;simp only[decide_eq_true_eq];rcases hb with hb|hb
     ·omega
     ·exact hb
   have hgood:(∀y∈acc,decA y=decA w)->0<=decA w->qaG l=(decA w,true,0):=fun h1 h2=>by
    rw[e2];apply if_neg;rintro(h|h)
    ·omega
    ·rw[List.all_eq_false]at h;obtain⟨y,hy,hh⟩:=h;exact hh (by simpa using h1 y (by rw[<-ha];exact List.mem_cons_of_mem _ hy))
   rw[ha]at hmem hlen⊢;have hwl:=hmem w (zqH hw0);clear e2 hacc e1;simp[hne];refine qaB (dlnInv acc (decA w) H) (fun fr _=>acc.length-(ai (aget fr 27)).toNat) ⟨rfl,0,by omega,by simp,by omega,friz⟩ ?_;rintro fr H' ⟨rfl,i,hi,hall,hm0,x,rfl⟩;by_cases h:i<acc.length
   ·obtain⟨u,hu⟩:∃u,acc[i]? =some u:=⟨_,zqD h⟩
    have hat:=qcW hu;have hum:=zqH hu;have hul:=hmem u hum;have hw:IntKind.i64.wrap ((i:Int)+1)=i+1:=wiz;simp[h,hat,hat0,hpos];refine qdZ E _ _ u (by simp only[cap];omega) ?_;by_cases hneg:decA u<0
    ·simp[hneg];exact aQz hB (h6:=(fin _ (hbad u hum (.inl hneg))))
    simp[hneg,hat0,hpos];refine qdZ E _ _ u (by simp only[cap];omega) ?_;simp[hat0,hpos];refine qdZ E _ _ w (by simp only[cap];omega) ?_;by_cases heq:decA u=decA w
    ·simp[heq,hw];refine Klz ⟨rfl,i+1,by omega,fun y hy=>?_,fun _=>by omega,friz⟩;rw[List.take_add_one,hu]at hy;rcases List.mem_append.1 hy with hy|hy
     ·exact hall y hy
     ·simp at hy;subst hy;exact heq
    ·have heq':(decA u !=decA w)=true:=by simpa using heq
     simp[heq'];exact aQz hB (h6:=(fin _ (hbad u hum (.inr heq))))
   ·obtain rfl:i=acc.length:=by omega
    rw[zqE (Nat.le_refl _)]at hall;have hres:=hgood hall (hm0 hpos);simp[hat0,hpos];refine qdZ E _ _ w (by simp only[cap];omega) ?_;simp;exact aQz hB (h6:=(fin _ hres))
theorem qlO(l:List Fld)(hl:fsz l+l.length<=4194304)(hQ:Q (.tup [.sl false 1 (strs (qaI l).1),.bool (qaI l).2.1,.int .i64 (qaI l).2.2]) H):PC Tryz.prog E 82 [.sl false 2 (flds l)] H Q:=by
 refine qac Tryz.func82 rfl [] [] (by kernel_rfl) (fun hB=>?_);have fin:∀a:List (List UInt8)×Bool×Int,qaI l=a->Q (.tup [.sl false 1 (strs a.1),.bool a.2.1,.int .i64 a.2.2]) H:=fun a ha=>ha▸hQ;have hcn:nTE.length<=cap:=by simp[nTE,cap]
 simp[Tryz.ntmps82,Tryz.results82,List.replicate_succ];refine qhA E _ _ l nTE (by omega) hcn ?_;by_cases h0:allB l nTE=[]
 ·have e:qaI l=([],false,0):=by unfold qaI;rw[if_pos h0]
  have hs0:strs ([]:List (List UInt8))=[]:=rfl;simp[h0,hs0];exact qaw hB (v0:= .tup [.nil,.bool false,.int .i64 0]) (by simp) (qdB 1 _ _ rfl rfl) (by simp) (fin _ e)
 have h0':(((allB l nTE).length:Int)==0)=false:=by
  rw[beq_eq_false_iff_ne];intro e;exact h0 (List.length_eq_zero_iff.1 (by omega))
 simp[h0'];refine qiH E _ _ l nTE hl hcn ?_;by_cases he:(qb6 l nTE).2=0
 ·have e:qaI l=((qb6 l nTE).1,true,0):=by unfold qaI;rw[if_neg h0,if_pos he]
  simp[he];exact qaw hB (v0:= .tup [.sl false 1 (strs (qb6 l nTE).1),.bool true,.int .i64 0]) (by simp) (qaa _) (by simp[qcN]) (fin _ e)
 ·have e:qaI l=([],false,67):=by unfold qaI;rw[if_neg h0,if_neg he]
  have he2:((qb6 l nTE).2 !=0)=true:=by simpa using he
  simp[he2];exact qaw hB (v0:= .tup [.nil,.bool false,.int .i64 67]) (by simp) (qdB 1 _ _ rfl rfl) (by simp) (fin _ e)
theorem qe1(l:List Fld)(old:Bool)(hl:fsz l+l.length<=4194304)(hQ:Q (.tup [.int .i64 (qaj l old).1,.int .i64 (qaj l old).2.1,.int .i64 (qaj l old).2.2]) H):PC Tryz.prog E 58 [.sl false 2 (flds l),.bool old] H Q:=by
 have fin:∀a:Int×Int×Int,qaj l old=a->Q (.tup [.int .i64 a.1,.int .i64 a.2.1,.int .i64 a.2.2]) H:=fun a ha=>ha▸hQ;have hcl:=qm0 l hl;refine qac Tryz.func58 rfl [] [] (by kernel_rfl) (fun hB=>?_);simp[Tryz.ntmps58,Tryz.results58,List.replicate_succ];refine qlO E _ _ l hl ?_;obtain⟨⟨cs,cd,ce⟩,hC⟩:=exz (qaI l);obtain⟨⟨n,tl,f⟩,hL⟩:=exz (qaG l);have hF:=qiE (old:=old) hC hL;rw[hC]at hcl;rw[hC];simp only at hcl⊢;by_cases h1:ce=0;rotate_left
 ·rw[if_pos (.inl h1)]at hF;have h1':(ce !=0)=true:=by simpa using h1
  simp[h1'];exact aQz hB (h6:=(fin _ hF))
 subst h1;cases cd with
 |true=>
  cases old with
  |true=>
   rw[if_pos (.inr ⟨rfl,.inl rfl⟩)]at hF;simp;exact aQz hB (h6:=(fin _ hF))
  |false=>
   by_cases h2:cs=[qb2]
   ·subst h2;rw[if_neg (by simp)]at hF;have hat:lat (strs [qb2]) 0=some [.str qb2]:=rfl;have hv:(qb2 !=[99,104,117,110,107,101,100])=false:=by decide
    simp[hat,hv];refine qiI E _ _ l hl ?_;rw[hL];simp only;by_cases h3:f=0
    ·subst h3;rw[if_neg (by simp)]at hF;cases tl with
     |true=>
      rw[if_pos ⟨rfl,rfl⟩]at hF;simp;exact aQz hB (h6:=(fin _ hF))
     |false=>
      rw[if_neg (by simp),if_pos rfl]at hF;simp;exact aQz hB (h6:=(fin _ hF))
    ·rw[if_pos h3]at hF;have h3':(f !=0)=true:=by simpa using h3
     simp[h3'];exact aQz hB (h6:=(fin _ hF))
   ·rw[if_pos (.inr ⟨rfl,.inr h2⟩)]at hF
    match cs,h2 with
    |[],_=>
     simp;exact aQz hB (h6:=(fin _ hF))
    |[c],h2=>
     have hat:lat (strs [c]) 0=some [.str c]:=rfl;have hv:(c !=[99,104,117,110,107,101,100])=true:=by simpa[qb2]using h2
     simp[hat,hv];exact aQz hB (h6:=(fin _ hF))
    |c::d::r,_=>
     have hl:((r.length:Int)+1+1 !=1)=true:=by rw[bne_iff_ne];omega
     simp[hl];exact aQz hB (h6:=(fin _ hF))
 |false=>
  simp;refine qiI E _ _ l hl ?_;rw[hL];simp only;by_cases h3:f=0
  ·subst h3;cases tl with
   |true=>
    rw[if_neg (by simp),if_neg (by simp),if_neg (by simp),if_neg (by simp),if_pos rfl]at hF;simp;exact aQz hB (h6:=(fin _ hF))
   |false=>
    rw[if_neg (by simp),if_neg (by simp),if_neg (by simp),if_neg (by simp),if_neg (by simp)]at hF;simp;exact aQz hB (h6:=(fin _ hF))
  ·rw[if_neg (by simp),if_pos h3]at hF;have h3':(f !=0)=true:=by simpa using h3
   simp[h3'];exact aQz hB (h6:=(fin _ hF))
end
section
variable (E:Env)(H:Hp)(Q:AV->Hp->Prop)
theorem qkM(l:List UInt8)(hl:l.length<=cap)(hQ:Q (.tup [.agg [.str (qaR l).1.name,.str (qaR l).1.value],.int .i64 (qaR l).2.1,.int .i64 (qaR l).2.2]) H):
  PC Tryz.prog E 70 [.str l] H Q:=by
 refine qac Tryz.func70 rfl [] [] (by kernel_rfl) (fun hB=>?_);have hl':=hl;simp only[cap]at hl'
 have bad:∀(fr:List AV) (pl e:Int),qaR l=((⟨[],[]⟩:Fld),pl,e)->aget fr 2= .ptr (some (H.length,0))->aget fr 3= .int .i64 pl->aget fr 4= .int .i64 e->qci Tryz.prog [ResultVar.cell 2 89,ResultVar.tmp 3,ResultVar.tmp 4] H.length Q .ret fr (H++[[.str [],.str []]]):=fun fr pl e h0 h2 h3 h4=>
  qab hB (v0:= .tup [.agg [.str [],.str []],.int .i64 pl,.int .i64 e]) (by simp[h2,h3,h4]) (qaa _) (by simp) (by rw[h0]at hQ;exact hQ)
 obtain⟨c,hc⟩:=exz (run ncol l);have hcl:=qbp ncol l;rw[hc]at hcl;have hib:=qcJ l;rw[hc]at hib
 have hcase:(∃a r,l=a::r/\qaf a=true)\/(l=[]\/∃a r,l=a::r/\qaf a=false):=by
  cases l with
  |nil=>exact .inr (.inl rfl)
  |cons a r=>
   cases hb:qaf a
   ·exact .inr (.inr ⟨a,r,rfl,hb⟩)
   ·exact .inl ⟨a,r,rfl,hb⟩
 have key:∀fr:List AV,(∃x:Nat->AV,fr=[.str l,x 1,.ptr (some (H.length,0)),x 3,x 4,x 5,x 6,x 7,x 8,x 9,x 10,x 11,x 12,x 13,x 14,x 15,x 16,x 17,x 18,x 19,x 20,x 21,x 22,x 23,x 24,x 25,x 26,x 27,x 28,x 29,x 30,x 31,x 32,x 33,x 34,x 35,x 36,x 37,x 38,x 39,x 40,x 41,x 42,x 43,x 44,x 45,x 46,x 47,x 48,x 49,x 50,x 51,x 52,x 53,x 54,x 55,x 56,x 57,x 58,x 59,x 60,x 61,x 62,x 63,x 64,x 65,x 66,x 67,x 68,x 69,x 70,x 71,x 72,x 73,x 74,x 75,x 76,x 77,x 78,x 79,x 80,x 81,x 82])->True:=fun _ _=>trivial;rcases hcase with⟨a,r,rfl,hb⟩|hcase
 ·have hc0:=qiw a r hb;have hne:(a::r !=[])=true:=rfl;simp[Tryz.ntmps70,Tryz.results70,List.replicate_succ,hne];refine qa9 E _ _ a ?_;simp[hb];exact bad _ 0 63 hc0 rfl rfl rfl
 case' inr=>
  rcases hcase with rfl|⟨a,r,hl0,hb⟩
  case' inl=>
   simp[Tryz.ntmps70,Tryz.results70,List.replicate_succ]
  case' inr=>
   have hne:(l !=[])=true:=by rw[hl0];rfl
   have hl1:0<l.length:=by rw[hl0];simp
   have hla:lat l 0=some a:=by rw[hl0];rfl
   simp[Tryz.ntmps70,Tryz.results70,List.replicate_succ,hne,hl1,hla];refine qa9 E _ _ a ?_;simp[hb];have hnf:lnb l=false:=by rw[hl0];exact hb
   clear hne hla hl0
 rotate_left
 ·refine qhs E _ _ [] 58 (by simp[cap]) ?_;rw[show Lib.indexByte [] 58= -1 from rfl];simp;exact bad _ 0 62 qki rfl rfl rfl
 ·refine qhs E _ _ l 58 hl ?_;rw[hib];by_cases hcc:c<l.length;rotate_left
  ·have hno:=qhj hnf (by omega);simp[hcc];exact bad _ l.length 62 hno rfl rfl rfl
  ·by_cases hz:c=0
   ·have hno:=qit hnf (by omega) (by omega);subst hz;simp[hcc];exact bad _ 0 60 hno rfl rfl rfl
   ·have hz2:((c:Int)==0)=false:=by simp;omega
    simp[hcc,hz,hz2];refine qaB (qtq l c H) (fun fr _=>c-(ai (aget fr 6)).toNat) ⟨rfl,0,by omega,by omega,by simp,friz⟩ ?_;rintro fr H' ⟨rfl,i,hi,hi2,hall,x,rfl⟩;by_cases h:i<c
    ·obtain⟨b,hbi⟩:∃b,l[i]? =some b:=⟨_,zqD (by omega)⟩
     have hat:=qas hbi;by_cases h128:i=128
     ·have hno:=qiv hnf (by omega) (by omega) hall (by omega) (by omega) (by omega);subst h128;have h':(128:Int)<c:=by omega
      simp[h'];exact bad _ 128 60 hno rfl rfl rfl
     ·have h128':((i:Int)==128)=false:=by simp;omega
      have hw:IntKind.i64.wrap ((i:Int)+1)=i+1:=wiz;have hil:i<l.length:=by omega
      simp[h,h128',hat,hil];refine qdM E _ _ b ?_;cases hs:qai b with
      |false=>
       have hno:=qkk hnf (by omega) (by omega) hall (by omega) (by omega) hbi hs;simp;exact bad _ i 60 hno rfl rfl rfl
      |true=>
       simp[hw];exact Klz ⟨rfl,i+1,by omega,by omega,by rw[qa8 qai l i b hbi,hall,hs];rfl,friz⟩
    ·obtain rfl:i=c:=by omega
     have hnm:qbm (l.take i)=true:=by
      have:l.take i≠[]:=by intro e;have h2:=congrArg List.length e;rw[zqJ]at h2;have h3:min i l.length=0:=h2;omega
      unfold qbm tokB;rw[hall,decide_eq_true (by rw[zqJ];omega)];simpa using this
     have hw:IntKind.i64.wrap ((i:Int)+1)=((i+1:Nat):Int):=by rw[qak (by omega) (by omega)];omega
     simp[hw,-Int.natCast_add];refine qaB (qtp l i H) (fun fr _=>l.length-(ai (aget fr 7)).toNat) ⟨rfl,i+1,by omega,by omega,by simp[fldB],friz⟩ ?_;rintro fr H' ⟨rfl,k,hk,hk2,hfl,y,rfl⟩;by_cases hkl:k<l.length
     ·obtain⟨b,hbk⟩:∃b,l[k]? =some b:=⟨_,zqD hkl⟩
      have hat:=qas hbk;have hwk:IntKind.i64.wrap ((k:Int)+1)=k+1:=wiz;have hdk:(l.drop (i+1))[k-(i+1)]? =some b:=by rw[zqN,show i+1+(k-(i+1))=k by omega];exact hbk
      simp[hkl,hat];refine qef E _ _ b ?_;cases hs:fcB b with
      |false=>
       have hno:=qkg hnf (by omega) (by rw[hc];exact hnm) (i:=k) (by omega) (by rw[hc];exact hfl) (by rw[hc];exact hdk) hs;simp;exact bad _ k 61 (by rw[hno];congr 2;omega) rfl rfl rfl
      |true=>
       simp[hwk];refine Klz ⟨rfl,k+1,by omega,by omega,?_,friz⟩;rw[show k+1-(i+1)=k-(i+1)+1 by omega,fldB,qa8 fcB _ _ b hdk];rw[fldB]at hfl;rw[hfl,hs];rfl
     ·have hfl':fldB (l.drop (i+1))=true:=by
       rw[zqE (by rw[zqI];omega)]at hfl;exact hfl
      have hi1:i+1<=l.length:=by omega
      simp[hkl,hw,hi1,-Int.natCast_add];refine qcm E _ _ (l.drop (i+1)) (by rw[zqI];omega) ?_;have htl:=qgN (l.drop (i+1));rw[zqI]at htl;by_cases hbig:8192<(qaJ (l.drop (i+1))).length
      ·have hno:=qkj hnf (by omega) (by rw[hc];exact hnm) (by rw[hc];exact hfl') (by rw[hc];exact hbig);have hbig':(8192:Int)<(qaJ (l.drop (i+1))).length:=by omega
       simp[hbig',hw,-Int.natCast_add];refine qaB (qto l i H) (fun fr _=>l.length-(ai (aget fr 9)).toNat) ⟨rfl,i+1,by omega,by omega,by simp,friz⟩ ?_;rintro fr H' ⟨rfl,m,hm,hm2,hbl,z,rfl⟩
       have hml:m<l.length:=by
        apply Nat.lt_of_not_le;intro hge;rw[zqE (by rw[zqI];omega)]at hbl;rw[qjF _ hbl]at hbig;simp at hbig
       obtain⟨b,hbm⟩:∃b,l[m]? =some b:=⟨_,zqD hml⟩
       have hat:=qas hbm;have hwm:IntKind.i64.wrap ((m:Int)+1)=m+1:=wiz;have hwm2:IntKind.i64.wrap ((m:Int)+8192)=m+8192:=wiz;have hdm:(l.drop (i+1))[m-(i+1)]? =some b:=by rw[zqN,show i+1+(m-(i+1))=m by omega];exact hbm
       simp[hml,hat];refine qa9 E _ _ b ?_;cases hs:qaf b with
       |false=>
        simp[hwm2];have hrb:=qby qaf (l.drop (i+1)) _ hbl (by rw[zqI];omega) (fun c hc=>by rw[hdm]at hc;cases hc;exact hs);exact bad _ (m+8192) 61 (by rw[hno,hc,hrb];congr 2;omega) rfl rfl rfl
       |true=>
        simp[hwm];refine Klz ⟨rfl,m+1,by omega,by omega,?_,friz⟩;rw[show m+1-(i+1)=m-(i+1)+1 by omega,qa8 qaf _ _ b hdm,hbl,hs];rfl
      ·have hbig':¬(8192:Int)<(qaJ (l.drop (i+1))).length:=by omega
       have hf:=qhi hnf (by omega) (by rw[hc];exact hnm) (by rw[hc];exact hfl') (by rw[hc];exact hbig);rw[hc]at hf;rw[hf]at hQ;have hil:i<=l.length:=by omega
       simp[hbig',hil];exact qab hB (v0:= .tup [.agg [.str (l.take i),.str (qaJ (l.drop (i+1)))],.int .i64 0,.int .i64 0]) (by simp) (qaa _) (by simp) hQ
end
end Go.Proofs.YtnnhdehmlkkfjaaGreatDoor
namespace Go.Proofs.YtnnhdehmlkkfjaaGreatDoor
open Go Go.RowKit
section
open Go.Lib
variable (E:Env){H:Hp}(Q:AV->Hp->Prop)
def lkN(state used st err at_:Int):List AV:=[.int .i64 state,.int .i64 used,.bool false,.str [],.str [],.int .i64 0,.int .i64 0,.nil,.str [],.nil,.bool false,.int .i64 st,.int .i64 err,.int .i64 at_]
theorem qaz(st err met at_:Int)(h1: -1<=met)(h2:met<=4611686018427387904)(hQ:Q (Lk.av ⟨5,met+1,false,.zero,false,st,err,at_⟩) H):PC Tryz.prog E 47 [.int .i64 st,.int .i64 err,.int .i64 met,.int .i64 at_] H Q:=by
 refine PC.nilD ?_;refine qac Tryz.func47 rfl [] [] (by kernel_rfl) (fun hB=>?_);have w1:IntKind.i64.wrap (met+1)=met+1:=wiz;simp[Tryz.ntmps47,Tryz.results47,List.replicate_succ,w1];exact qab (v0:= .agg (lkN 5 (met+1) st err at_)) hB (by simp[lkN]) (qaa _) (by simp[lkN]) ⟨_,qcP (by simp[lkN,Lk.av,Rq.avs,Rq.zero,flds]),hQ⟩
theorem qeB(st:Int)(s:List UInt8)(hQ:Q (Lk.av ⟨st,s.length,false,.zero,false,0,0,0⟩) H):PC Tryz.prog E 46 [.int .i64 st,.str s] H Q:=by
 refine PC.nilD ?_;refine qac Tryz.func46 rfl [] [] (by kernel_rfl) (fun hB=>?_);simp[Tryz.ntmps46,Tryz.results46,List.replicate_succ];exact qab (v0:= .agg (lkN st s.length 0 0 0)) hB (by simp[lkN]) (qaa _) (by simp[lkN]) ⟨_,qcP (by simp[lkN,Lk.av,Rq.avs,Rq.zero,flds]),hQ⟩
theorem qlN(c:UInt8)(k:Nat)(hk:k<10)(hQ:Q (.bool (qaM k c)) H):PC Tryz.prog E 49 [.int .u8 (c.toNat:Int),.int .i64 (k:Int)] H Q:=by
 refine qac Tryz.func49 rfl [] [] (by kernel_rfl) (fun hB=>?_);rcases(by omega:k=0\/k=1\/k=2\/k=3\/k=4\/k=5\/k=6\/k=7\/k=8\/k=9)with rfl|rfl|rfl|rfl|rfl|rfl|rfl|rfl|rfl|rfl
 ·have e:qaM 0 c=((c.toNat:Int)==72):=by rw[Bool.eq_iff_iff];simp[qaM,<-UInt8.toNat_inj];omega
  rw[e]at hQ;have hla:lat ([72,84,84,80,47,48,46,48,13,10]:List UInt8) 0=some 72:=rfl;simp[Tryz.ntmps49,Tryz.results49,List.replicate_succ,hla];exact aQz hB (h6:=hQ)
 ·have e:qaM 1 c=((c.toNat:Int)==84):=by rw[Bool.eq_iff_iff];simp[qaM,<-UInt8.toNat_inj];omega
  rw[e]at hQ;have hla:lat ([72,84,84,80,47,48,46,48,13,10]:List UInt8) 1=some 84:=rfl;simp[Tryz.ntmps49,Tryz.results49,List.replicate_succ,hla];exact aQz hB (h6:=hQ)
 ·have e:qaM 2 c=((c.toNat:Int)==84):=by rw[Bool.eq_iff_iff];simp[qaM,<-UInt8.toNat_inj];omega
  rw[e]at hQ;have hla:lat ([72,84,84,80,47,48,46,48,13,10]:List UInt8) 2=some 84:=rfl;simp[Tryz.ntmps49,Tryz.results49,List.replicate_succ,hla];exact aQz hB (h6:=hQ)
 ·have e:qaM 3 c=((c.toNat:Int)==80):=by rw[Bool.eq_iff_iff];simp[qaM,<-UInt8.toNat_inj];omega
  rw[e]at hQ;have hla:lat ([72,84,84,80,47,48,46,48,13,10]:List UInt8) 3=some 80:=rfl;simp[Tryz.ntmps49,Tryz.results49,List.replicate_succ,hla];exact aQz hB (h6:=hQ)
 ·have e:qaM 4 c=((c.toNat:Int)==47):=by rw[Bool.eq_iff_iff];simp[qaM,<-UInt8.toNat_inj];omega
  rw[e]at hQ;have hla:lat ([72,84,84,80,47,48,46,48,13,10]:List UInt8) 4=some 47:=rfl;simp[Tryz.ntmps49,Tryz.results49,List.replicate_succ,hla];exact aQz hB (h6:=hQ)
 ·have e:qaM 5 c=qbX c:=by rw[Bool.eq_iff_iff];simp[qaM,qbX]
  rw[e]at hQ;have hla:lat ([72,84,84,80,47,48,46,48,13,10]:List UInt8) 5=some 48:=rfl;simp[Tryz.ntmps49,Tryz.results49,List.replicate_succ,hla];refine qdP E _ _ c ?_
  generalize qbX c=z at hQ⊢
  simp;exact aQz hB (h6:=hQ)
 ·have e:qaM 6 c=((c.toNat:Int)==46):=by rw[Bool.eq_iff_iff];simp[qaM,<-UInt8.toNat_inj];omega
  rw[e]at hQ;have hla:lat ([72,84,84,80,47,48,46,48,13,10]:List UInt8) 6=some 46:=rfl;simp[Tryz.ntmps49,Tryz.results49,List.replicate_succ,hla];exact aQz hB (h6:=hQ)
 ·have e:qaM 7 c=qbX c:=by rw[Bool.eq_iff_iff];simp[qaM,qbX]
  rw[e]at hQ;have hla:lat ([72,84,84,80,47,48,46,48,13,10]:List UInt8) 7=some 48:=rfl;simp[Tryz.ntmps49,Tryz.results49,List.replicate_succ,hla];refine qdP E _ _ c ?_
  generalize qbX c=z at hQ⊢
  simp;exact aQz hB (h6:=hQ)
 ·have e:qaM 8 c=((c.toNat:Int)==13):=by rw[Bool.eq_iff_iff];simp[qaM,<-UInt8.toNat_inj];omega
  rw[e]at hQ;have hla:lat ([72,84,84,80,47,48,46,48,13,10]:List UInt8) 8=some 13:=rfl;simp[Tryz.ntmps49,Tryz.results49,List.replicate_succ,hla];exact aQz hB (h6:=hQ)
 ·have e:qaM 9 c=((c.toNat:Int)==10):=by rw[Bool.eq_iff_iff];simp[qaM,<-UInt8.toNat_inj];omega
  rw[e]at hQ;have hla:lat ([72,84,84,80,47,48,46,48,13,10]:List UInt8) 9=some 10:=rfl;simp[Tryz.ntmps49,Tryz.results49,List.replicate_succ,hla];exact aQz hB (h6:=hQ)
theorem qq9(m f r:Int)(hr:0<=r)(s:List UInt8)(hs:s.length<=1000000000)(hm:0<=m/\m<=9223372036854775807)
  (hQ:∀t e dn B T,Ends m r f s t e dn B T->Q (wkA t e dn B (.sl false 2 (flds T))) H):
  PC Tryz.prog E 97 [.str s,.int .i64 m,.int .i64 r,.int .i64 f] H Q:=by
 obtain⟨r',rfl⟩:=Int.eq_ofNat_of_zero_le hr;exact qtB E _ Q m f r' s hs hm hQ
end
theorem Lk.bnd(x:Lk)(N:Nat):Bnd N x.av:=by
 refine .agg _ fun y hy=>?_;simp only[Rq.avs,List.mem_append,List.mem_cons,List.not_mem_nil,or_false]at hy;rcases hy with(((rfl|rfl|rfl)|(rfl|rfl|rfl|rfl|rfl|rfl|rfl))|(rfl|rfl|rfl|rfl))<;>first|exact qdd _ _ _|constructor
theorem qb4(p:Prs)(st err at_:Int):qaX (SR.bad p st err at_).prs=⟨5,p.used+1,false,.zero,false,st,err,at_⟩:=by simp[qaX,SR.prs]
theorem qom{q p:Prs}{s R:List UInt8}{i n:Nat}{t:Nat}{e:Int}{dn:Bool}{B:List UInt8}{T:List Fld}(hf:qao q s=((qao (adv {p with state:=3,dec:=some (newD p.lb p.lh p.lf)} (some .chunked)) R).1,n))(hu:p.used=i)(hb:p.bodied=false)(hEn:Ends p.lb p.lh p.lf R t e dn B T):
  (e≠0->qaX (qao q s).1=⟨5,((i+t:Nat):Int)+1,false,.zero,false,stC e,e,((i+t:Nat):Int)⟩)/\
  (e=0->dn=true->qaX (qao q s).1=⟨4,((i+1+t:Nat):Int),true,⟨p.meth,p.targ,p.major,p.minor,p.fields,B,T⟩,false,0,0,0⟩)/\
  (e=0->dn=false->qaX (qao q s).1=⟨3,((i+1+R.length:Nat):Int),true,⟨p.meth,p.targ,p.major,p.minor,p.fields,[],[]⟩,R.isEmpty&&!decide (p.minor=0)&&expB p.fields,0,0,0⟩):=by
 obtain⟨e1,e2,e3,e4,e5⟩:=hEn;obtain⟨c1,c2,c3⟩:=qf3 R (adv {p with state:=3,dec:=some (newD p.lb p.lh p.lf)} (some .chunked)) (newD p.lb p.lh p.lf) rfl rfl ⟨rfl,rfl⟩;rw[hf];refine⟨fun he=>?_,fun he hd=>?_,fun he hd=>?_⟩
 ·rw[c1 (by rw[e2];exact he)];simp only[qaX,adv,if_true,e1,e2,hu,Lk.mk.injEq,true_and,and_true];exact⟨by omega,by omega⟩
 ·rw[c2 (by rw[e2];exact he) (by rw[e3];exact hd)];simp only[qaX,adv,e1,e4,e5,hu,Prs.rq];rw[if_neg (by decide),if_pos trivial];simp only[Lk.mk.injEq,true_and,and_true];omega
 ·rw[c3 (by rw[e2];exact he) (by rw[e3];exact hd)];simp only[qaX,adv,hu,Prs.rqH,Prs.waits,hb];rw[if_neg (by decide),if_neg (by decide),if_pos trivial];simp only[Lk.mk.injEq,true_and,and_true];refine⟨by omega,?_⟩;simp
theorem qsx{q p:Prs}{s R:List UInt8}{i n:Nat}{l:Int}(hf:qao q s=((qao (adv {p with state:=3,left:=l} (some .counted)) R).1,n))(hu:p.used=i)(hb:p.bodied=false)(hl:0<l)(hR:(R.length:Int)<l):
  qaX (qao q s).1=⟨3,((i+1+R.length:Nat):Int),true,⟨p.meth,p.targ,p.major,p.minor,p.fields,[],[]⟩,R.isEmpty&&!decide (p.minor=0)&&expB p.fields,0,0,0⟩:=by
 obtain⟨c1,c2⟩:=qdc R (adv {p with state:=3,left:=l} (some .counted)) rfl hl;rw[hf,c1 hR];simp only[qaX,adv,hu,Prs.rqH,Prs.waits,hb];rw[if_neg (by decide),if_neg (by decide),if_pos trivial];simp only[Lk.mk.injEq,true_and,and_true];refine⟨by omega,?_⟩;simp
theorem qsy{q p:Prs}{s R:List UInt8}{i n:Nat}{l:Int}(hf:qao q s=((qao (adv {p with state:=3,left:=l} (some .counted)) R).1,n))(hu:p.used=i)(hb:p.body=[])(ht:p.trailers=[])(hl:0<l)(hR:l<=(R.length:Int)):
  qaX (qao q s).1=⟨4,((i+1+l.toNat:Nat):Int),true,⟨p.meth,p.targ,p.major,p.minor,p.fields,R.take l.toNat,[]⟩,false,0,0,0⟩:=by
 obtain⟨c1,c2⟩:=qdc R (adv {p with state:=3,left:=l} (some .counted)) rfl hl;rw[hf,c2 hR];simp only[qaX,adv,hu,Prs.rq,hb,ht];rw[if_neg (by decide),if_pos trivial];simp only[Lk.mk.injEq,true_and,and_true,List.nil_append];omega
theorem qjC{q p:Prs}{s R:List UInt8}{i n:Nat}(hf:qao q s=((qao (adv {p with state:=4,rbody:=p.body} none) R).1,n))(hu:p.used=i)(hb:p.body=[])(ht:p.trailers=[]):
  qaX (qao q s).1=⟨4,((i+1:Nat):Int),true,⟨p.meth,p.targ,p.major,p.minor,p.fields,[],[]⟩,false,0,0,0⟩:=by
 rw[hf,qbk R rfl];simp only[qaX,adv,hu,Prs.rq,hb,ht];rw[if_neg (by decide),if_pos trivial];rfl
theorem qpw(l:List Fld)(old:Bool):(qd7 l old).1.length<=fsz l:=by
 have hsz:=qfK l [72,111,115,116];unfold qd7;rcases hal:allB l [72,111,115,116]with _|⟨v,_|⟨w,t⟩⟩
 ·simp only;split<;>exact Nat.zero_le _
 ·rw[hal]at hsz;simp only;split
  ·exact Nat.zero_le _
  ·exact hsz v (.head _)
 ·exact Nat.zero_le _
theorem qky(l:List Fld)(old:Bool):((qaj l old).1≠1->(qaj l old).1≠2->(qaj l old).2.1=0)/\0<=(qaj l old).2.1:=by
 have hl:0<=(qaG l).1:=by
  unfold qaG
  repeat' split
  all_goals first|exact Int.le_refl _|skip
  rename_i h;simp only[not_or]at h;show 0<=decA _;omega
 unfold qaj
 repeat' split
 all_goals first|exact⟨fun h=>absurd rfl h,hl⟩|exact⟨fun _ h=>absurd rfl h,Int.le_refl _⟩|exact⟨fun _ _=>rfl,Int.le_refl _⟩
def lenS(p:Prs)(kd ln:Int):SR:=
 if p.lb<ln then qaA p 413 114
 else if kd=2 then .go {p with state:=3,dec:=some (newD p.lb p.lh p.lf)} (some .chunked)
 else if 0<ln then .go {p with state:=3,left:=ln} (some .counted)
 else qdY {p with state:=3}
def expS(p:Prs)(kd ln:Int):SR:=
 if allB p.fields [69,120,112,101,99,116]≠[]/\((qb6 p.fields [69,120,112,101,99,116]).2≠0\/(qb6 p.fields [69,120,112,101,99,116]).1≠[[49,48,48,45,99,111,110,116,105,110,117,101]])then qaA p 417 116
 else lenS p kd ln
theorem qoO{I P:List AV->Hp->Prop}{G:Prop}(main:(∀fr H',I fr H'->P fr H')->G)(tail:∀fr H',I fr H'->P fr H'):G:=main tail
section
open Go.Lib
variable (E:Env){H:Hp}(Q:AV->Hp->Prop)
def hdK(p:Prs)(H:Hp):Hp:=H++[[.int .i64 p.lt,.int .i64 p.lh,.int .i64 p.lf,.int .i64 p.lb],[.str p.meth,.str p.targ,.int .i64 p.major,.int .i64 p.minor,.sl false 2 (flds p.fields),.str [],.sl false 2 []],[.int .i64 0,.int .i64 0,.bool false,.str [],.str [],.int .i64 0,.int .i64 0,.nil,.str [],.nil,.bool false,.int .i64 0,.int .i64 0,.int .i64 0]]
def hdI1(p:Prs)(s R:List UInt8)(i:Nat)(old hok:Bool)(kd ln:Int)(H:Hp)(fr:List AV)(K:Hp):Prop:=qa7 p=expS p kd ln/\K=hdK p H/\
 ∃x:Nat->AV,fr=[x 0,.str s,.int .i64 (i:Int),x 3,.ptr (some (H.length,0)),x 5,x 6,.ptr (some (H.length+1,0)),.ptr (some (H.length+2,0)),.bool old,.int .i64 kd,.int .i64 ln,x 12,x 13,x 14,x 15,x 16,x 17,x 18,x 19,x 20,x 21,x 22,x 23,x 24,x 25,x 26,x 27,x 28,x 29,x 30,x 31,x 32,x 33,x 34,x 35,x 36,x 37,x 38,x 39,x 40,x 41,x 42,x 43,x 44,x 45,x 46,x 47,x 48,x 49,x 50,x 51,x 52,x 53,x 54,x 55,x 56,x 57,x 58,x 59,x 60,x 61,x 62,x 63,x 64,x 65,x 66,x 67,x 68,x 69,x 70,x 71,x 72,x 73,x 74,x 75,x 76,x 77,x 78,x 79,x 80,x 81,x 82,x 83,x 84,x 85,x 86,x 87,x 88,x 89,x 90,x 91,x 92,x 93,x 94,x 95,x 96,x 97,x 98,x 99,x 100,x 101,x 102,x 103,x 104,x 105,x 106,x 107,x 108,x 109,x 110,x 111,x 112,x 113,x 114,x 115,x 116,x 117,x 118,x 119,x 120,x 121,x 122,x 123,x 124,x 125,x 126,x 127,x 128,x 129,x 130,x 131,x 132,x 133,x 134,x 135,x 136,x 137,x 138,x 139,x 140,x 141,x 142,x 143,x 144,x 145,x 146,x 147,x 148,x 149,x 150,x 151,x 152,x 153,x 154,x 155,x 156,x 157,x 158,x 159,x 160,x 161,x 162,x 163,x 164,x 165,x 166,x 167,x 168,x 169,x 170,x 171,x 172,x 173,x 174,x 175,x 176,x 177,x 178,x 179,x 180,x 181,x 182,x 183,x 184,x 185,x 186,x 187,x 188,x 189,x 190,x 191,x 192,x 193,x 194,x 195,x 196,x 197,x 198]
def hdI2(p:Prs)(s R:List UInt8)(i:Nat)(old:Bool)(ex:Bool)(kd ln:Int)(H:Hp)(fr:List AV)(K:Hp):Prop:=qa7 p=lenS p kd ln/\K=hdK p H/\
 ∃x:Nat->AV,fr=[x 0,.str s,.int .i64 (i:Int),x 3,.ptr (some (H.length,0)),x 5,x 6,.ptr (some (H.length+1,0)),.ptr (some (H.length+2,0)),.bool old,.int .i64 kd,.int .i64 ln,x 12,x 13,x 14,x 15,x 16,x 17,.bool ex,x 19,x 20,x 21,x 22,x 23,x 24,x 25,x 26,x 27,x 28,x 29,x 30,x 31,x 32,x 33,x 34,x 35,x 36,x 37,x 38,x 39,x 40,x 41,x 42,x 43,x 44,x 45,x 46,x 47,x 48,x 49,x 50,x 51,x 52,x 53,x 54,x 55,x 56,x 57,x 58,x 59,x 60,x 61,x 62,x 63,x 64,x 65,x 66,x 67,x 68,x 69,x 70,x 71,x 72,x 73,x 74,x 75,x 76,x 77,x 78,x 79,x 80,x 81,x 82,x 83,x 84,x 85,x 86,x 87,x 88,x 89,x 90,x 91,x 92,x 93,x 94,x 95,x 96,x 97,x 98,x 99,x 100,x 101,x 102,x 103,x 104,x 105,x 106,x 107,x 108,x 109,x 110,x 111,x 112,x 113,x 114,x 115,x 116,x 117,x 118,x 119,x 120,x 121,x 122,x 123,x 124,x 125,x 126,x 127,x 128,x 129,x 130,x 131,x 132,x 133,x 134,x 135,x 136,x 137,x 138,x 139,x 140,x 141,x 142,x 143,x 144,x 145,x 146,x 147,x 148,x 149,x 150,x 151,x 152,x 153,x 154,x 155,x 156,x 157,x 158,x 159,x 160,x 161,x 162,x 163,x 164,x 165,x 166,x 167,x 168,x 169,x 170,x 171,x 172,x 173,x 174,x 175,x 176,x 177,x 178,x 179,x 180,x 181,x 182,x 183,x 184,x 185,x 186,x 187,x 188,x 189,x 190,x 191,x 192,x 193,x 194,x 195,x 196,x 197,x 198]
def hdI3(p:Prs)(s:List UInt8)(i:Nat)(WV:Bool)(kd ln:Int)(H:Hp)(fr:List AV)(K:Hp):Prop:=K=H++[[.int .i64 p.lt,.int .i64 p.lh,.int .i64 p.lf,.int .i64 p.lb],[.str p.meth,.str p.targ,.int .i64 p.major,.int .i64 p.minor,.sl false 2 (flds p.fields),.str [],.sl false 2 []],[.int .i64 0,.int .i64 0,.bool false,.str [],.str [],.int .i64 0,.int .i64 0,.nil,.str [],.nil,.bool false,.int .i64 0,.int .i64 0,.int .i64 0],[.int .i64 3,.int .i64 (s.length:Int),.bool true,.str p.meth,.str p.targ,.int .i64 p.major,.int .i64 p.minor,.sl false 2 (flds p.fields),.str [],.sl false 2 [],.bool WV,.int .i64 0,.int .i64 0,.int .i64 0]]/\
 ∃x:Nat->AV,fr=[x 0,.str s,.int .i64 ((i+1:Nat):Int),x 3,.ptr (some (H.length,0)),x 5,x 6,.ptr (some (H.length+1,0)),.ptr (some (H.length+2,0)),x 9,.int .i64 kd,.int .i64 ln,x 12,x 13,x 14,x 15,x 16,x 17,x 18,x 19,x 20,.ptr (some (H.length+3,0)),x 22,x 23,x 24,x 25,x 26,x 27,x 28,x 29,x 30,x 31,x 32,x 33,x 34,x 35,x 36,x 37,x 38,x 39,x 40,x 41,x 42,x 43,x 44,x 45,x 46,x 47,x 48,x 49,x 50,x 51,x 52,x 53,x 54,x 55,x 56,x 57,x 58,x 59,x 60,x 61,x 62,x 63,x 64,x 65,x 66,x 67,x 68,x 69,x 70,x 71,x 72,x 73,x 74,x 75,x 76,x 77,x 78,x 79,x 80,x 81,x 82,x 83,x 84,x 85,x 86,x 87,x 88,x 89,x 90,x 91,x 92,x 93,x 94,x 95,x 96,x 97,x 98,x 99,x 100,x 101,x 102,x 103,x 104,x 105,x 106,x 107,x 108,x 109,x 110,x 111,x 112,x 113,x 114,x 115,x 116,x 117,x 118,x 119,x 120,x 121,x 122,x 123,x 124,x 125,x 126,x 127,x 128,x 129,x 130,x 131,x 132,x 133,x 134,x 135,x 136,x 137,x 138,x 139,x 140,x 141,x 142,x 143,x 144,x 145,x 146,x 147,x 148,x 149,x 150,x 151,x 152,x 153,x 154,x 155,x 156,x 157,x 158,x 159,x 160,x 161,x 162,x 163,x 164,x 165,x 166,x 167,x 168,x 169,x 170,x 171,x 172,x 173,x 174,x 175,x 176,x 177,x 178,x 179,x 180,x 181,x 182,x 183,x 184,x 185,x 186,x 187,x 188,x 189,x 190,x 191,x 192,x 193,x 194,x 195,x 196,x 197,x 198]
theorem qmW(q p0 p:Prs)(s:List UInt8)(i:Nat)(m:Md)(c:UInt8)(hF:Fd q s p0 i)(hc:s[i]? =some c)(hm:p0.nx=some m)(hs:qba p0 m c=qa7 p)(hu:p.used=i)(hb:p.bodied=false)(hbo:p.body=[])(htr:p.trailers=[])
  (hlh:0<=p.lh) (hlb:0<=p.lb/\p.lb<=1073741824) (hsz:fsz p.fields+p.fields.length<=4194304) (hl:s.length<=1000000000) (hQ:Q (qaX (qao q s).1).av H):
  PC Tryz.prog E 69 [limV p.lt p.lh p.lf p.lb,.str s,.int .i64 (i:Int),(Rq.mk p.meth p.targ p.major p.minor p.fields [] []).av] H Q:=by
 refine qj5 (fun i=>i=H.length+4) Tryz.func69 rfl [] [(26,[0,0,0,0,0,0,0,0,0,4]),(36,[0,0,0,2,0,2])] (by kernel_rfl) (fun E' hS' h0' hF' hB=>?_);have fin:∀x:Lk,qaX (qao q s).1=x->Q x.av H:=fun x hx=>hx▸hQ;clear hQ;have hlt:=(zqC.1 hc).1;obtain⟨R,hR⟩:=exz (s.drop (i+1));have hRl:R.length=s.length-(i+1):=by rw[<-hR,zqI]
 have htR:R.take (s.length-(i+1))=R:=zqE (by omega);have hRs:((i+1+R.length:Nat):Int)=(s.length:Int):=by omega
 have bad:∀st err,qa7 p=qaA p st err->qaX (qao q s).1=⟨5,(i:Int)+1,false,.zero,false,st,err,(i:Int)⟩:=fun st err h=>by
  unfold qaA at h;rw[Fd.bad hF hc hm (hs.trans h),qb4,hu]
 have gol:∀p1 nx,qa7 p= .go p1 nx->qao q s=((qao (adv p1 nx) R).1,(qao (adv p1 nx) R).2+(i+1)):=fun p1 nx h=>by
  have:=(Fd.go hF hc hm (hs.trans h)).2;rwa[hR]at this
 have w1:IntKind.i64.wrap ((i:Int)+1)=((i+1:Nat):Int):=by rw[qak (by omega) (by omega)];omega
 have q1:i+1<=s.length:=hlt;obtain⟨W,hW⟩:=exz (R.isEmpty)
 have hWl:(((i+1:Nat):Int)==(s.length:Int))=W:=by
  rw[<-hW,Bool.eq_iff_iff];simp;rw[<-List.length_eq_zero_iff];omega
 obtain⟨old,hold⟩:=exz ((p.minor==0));have hold2:decide (p.minor=0)=old:=by rw[<-hold];rfl
 have hS:qa7 p=qa7 p:=rfl
 conv at hS=>rhs;unfold qa7
 dsimp only at hS;rw[hold2]at hS;have hkind:=qky p.fields old;obtain⟨kd,ln,e0,hFr⟩:∃kd ln e0,qaj p.fields old=(kd,ln,e0):=⟨_,_,_,rfl⟩
 obtain⟨h,hok,e1,hHo⟩:∃h hok e1,qd7 p.fields old=(h,hok,e1):=⟨_,_,_,rfl⟩
 rw[hFr]at hkind;obtain⟨hk,hln0⟩:=hkind;simp only at hk hln0;rw[hFr,hHo]at hS;simp only at hS;simp[Tryz.ntmps69,Tryz.results69,List.replicate_succ,limV,Rq.av,Rq.avs,hold];refine qe1 E' _ _ p.fields old (by omega) ?_;rw[hFr];by_cases h67:e0=67
 ·subst h67;rw[if_pos rfl]at hS;simp[w1,-Int.natCast_add];refine qaz E' _ 501 67 (i:Int) (i:Int) (by omega) (by omega) ?_;simp[Lk.av,Rq.avs,Rq.zero,flds,-Int.natCast_add];exact qab (v0:=Lk.av ⟨5,(i:Int)+1,false,.zero,false,501,67,(i:Int)⟩) (v:=Lk.av ⟨5,(i:Int)+1,false,.zero,false,501,67,(i:Int)⟩) hB (by simp[Lk.av,Rq.avs,Rq.zero,flds]) (qaa _) (Lk.bnd ⟨5,(i:Int)+1,false,.zero,false,501,67,(i:Int)⟩ _) (fin ⟨5,(i:Int)+1,false,.zero,false,501,67,(i:Int)⟩ (bad _ _ hS))
 ·rw[if_neg h67]at hS;have h67':(e0==67)=false:=by simpa using h67
  by_cases h0:e0=0
  ·subst h0;rw[if_neg (by simp)]at hS;simp;refine qoW E' _ p.fields old (by omega) (fun h' hok' e1' hx=>?_);rw[hHo]at hx;obtain⟨rfl,rfl,rfl⟩:h=h'/\hok=hok'/\e1=e1':=by simpa using hx
   by_cases he1:e1=0
   ·subst he1;rw[if_neg (by simp)]at hS;simp;apply qoO (I:=hdI1 p s R i old hok kd ln H)
    ·intro tail;by_cases hh:h=[]
     ·rw[if_neg (fun x=>x.1 hh)]at hS;subst hh;simp[-qa4];exact tail _ _ ⟨hS,rfl,qag (by simp[flds])⟩
     ·have hh':(h !=[])=true:=by simpa using hh
      have hhl:h.length<=1073741824:=by
       have:=qpw p.fields old;rw[hHo]at this;simp only at this;omega
      simp[hh'];refine qg0 E' _ h hhl (fun h2 p2 e2 hA=>?_);rw[hA]at hS;simp only at hS;simp;by_cases he2:e2=0
      ·subst he2;rw[if_neg (fun x=>x.2 rfl)]at hS;simp[-qa4];exact tail _ _ ⟨hS,rfl,qag (by simp[flds])⟩
      ·rw[if_pos ⟨hh,he2⟩]at hS;have b1:(e2==0)=false:=by simpa using he2
       have b2:(e2 !=0)=true:=by simpa using he2
       simp[b1,b2,-Int.natCast_add];refine qaz E' _ 400 e2 (i:Int) (i:Int) (by omega) (by omega) ?_;simp[Lk.av,Rq.avs,Rq.zero,flds,-Int.natCast_add];exact qab (v0:=Lk.av ⟨5,(i:Int)+1,false,.zero,false,400,e2,(i:Int)⟩) (v:=Lk.av ⟨5,(i:Int)+1,false,.zero,false,400,e2,(i:Int)⟩) hB (by simp[Lk.av,Rq.avs,Rq.zero,flds]) (qaa _) (Lk.bnd ⟨5,(i:Int)+1,false,.zero,false,400,e2,(i:Int)⟩ _) (fin ⟨5,(i:Int)+1,false,.zero,false,400,e2,(i:Int)⟩ (bad _ _ hS))
    clear hS;rintro _ _ ⟨hS,rfl,x,rfl⟩;simp[hdK];refine qhA E' _ _ p.fields [69,120,112,101,99,116] (by omega) (by decide) ?_;simp;apply qoO (I:=hdI2 p s R i old (expB p.fields) kd ln H)
    ·intro tail;unfold expS at hS;cases hexp:expB p.fields with
     |false=>
      have hnil:allB p.fields [69,120,112,101,99,116]=[]:=by unfold expB expL at hexp;simpa using hexp
      rw[if_neg (fun h=>h.1 hnil)]at hS;rw[hexp]at tail;simp[hnil,-qa4];exact tail _ _ ⟨hS,rfl,qag (by simp[flds])⟩
     |true=>
      have hnil:allB p.fields [69,120,112,101,99,116]≠[]:=by unfold expB expL at hexp;simpa using hexp
      have hpos:0<(allB p.fields [69,120,112,101,99,116]).length:=List.length_pos_iff.2 hnil;rw[hexp]at tail;simp[hpos];refine qiH E' _ _ p.fields [69,120,112,101,99,116] (by omega) (by decide) ?_;obtain⟨tl,te,htk⟩:∃tl te,qb6 p.fields [69,120,112,101,99,116]=(tl,te):=⟨_,_,rfl⟩
      rw[htk]at hS⊢;simp only at hS;by_cases hte:te=0
      ·subst hte;rcases tl with _|⟨t0,_|⟨t1,tr⟩⟩
       ·rw[if_pos ⟨hnil,.inr (by simp)⟩]at hS;simp[strs,-Int.natCast_add];refine qaz E' _ 417 116 (i:Int) (i:Int) (by omega) (by omega) ?_;simp[Lk.av,Rq.avs,Rq.zero,flds,-Int.natCast_add];exact qab (v0:=Lk.av ⟨5,(i:Int)+1,false,.zero,false,417,116,(i:Int)⟩) (v:=Lk.av ⟨5,(i:Int)+1,false,.zero,false,417,116,(i:Int)⟩) hB (by simp[Lk.av,Rq.avs,Rq.zero,flds]) (qaa _) (Lk.bnd ⟨5,(i:Int)+1,false,.zero,false,417,116,(i:Int)⟩ _) (fin ⟨5,(i:Int)+1,false,.zero,false,417,116,(i:Int)⟩ (bad _ _ hS))
       ·have hat0:lat (strs [t0]) 0=some [AV.str t0]:=rfl;simp[hat0];by_cases ht0:t0=[49,48,48,45,99,111,110,116,105,110,117,101]
        ·subst ht0;rw[if_neg (fun h=>h.2.elim (fun h=>h rfl) (fun h=>h rfl))]at hS;simp[-qa4];exact tail _ _ ⟨hS,rfl,qag (by simp[flds])⟩
        ·rw[if_pos ⟨hnil,.inr (by simpa using ht0)⟩]at hS;have ht0':(t0==[49,48,48,45,99,111,110,116,105,110,117,101])=false:=by simpa using ht0
         have ht0'':(t0 !=[49,48,48,45,99,111,110,116,105,110,117,101])=true:=by simpa using ht0
         simp[ht0',ht0'',-Int.natCast_add];refine qaz E' _ 417 116 (i:Int) (i:Int) (by omega) (by omega) ?_;simp[Lk.av,Rq.avs,Rq.zero,flds,-Int.natCast_add];exact qab (v0:=Lk.av ⟨5,(i:Int)+1,false,.zero,false,417,116,(i:Int)⟩) (v:=Lk.av ⟨5,(i:Int)+1,false,.zero,false,417,116,(i:Int)⟩) hB (by simp[Lk.av,Rq.avs,Rq.zero,flds]) (qaa _) (Lk.bnd ⟨5,(i:Int)+1,false,.zero,false,417,116,(i:Int)⟩ _) (fin ⟨5,(i:Int)+1,false,.zero,false,417,116,(i:Int)⟩ (bad _ _ hS))
       ·rw[if_pos ⟨hnil,.inr (by simp)⟩]at hS;have g1:¬((tr.length:Int)+1+1)=1:=by omega
        have g2:((tr.length:Int)+1+1 !=1)=true:=by simpa using g1
        have g3:(((tr.length+1+1:Nat):Int) !=1)=true:=by simp;omega
        simp[strs,g1,g2,g3,-Int.natCast_add];refine qaz E' _ 417 116 (i:Int) (i:Int) (by omega) (by omega) ?_;simp[Lk.av,Rq.avs,Rq.zero,flds,-Int.natCast_add];exact qab (v0:=Lk.av ⟨5,(i:Int)+1,false,.zero,false,417,116,(i:Int)⟩) (v:=Lk.av ⟨5,(i:Int)+1,false,.zero,false,417,116,(i:Int)⟩) hB (by simp[Lk.av,Rq.avs,Rq.zero,flds]) (qaa _) (Lk.bnd ⟨5,(i:Int)+1,false,.zero,false,417,116,(i:Int)⟩ _) (fin ⟨5,(i:Int)+1,false,.zero,false,417,116,(i:Int)⟩ (bad _ _ hS))
      ·rw[if_pos ⟨hnil,.inl hte⟩]at hS;have hte':(te==0)=false:=by simpa using hte
       have hte2:(te !=0)=true:=by simpa using hte
       simp[hte',hte2,-Int.natCast_add];refine qaz E' _ 417 116 (i:Int) (i:Int) (by omega) (by omega) ?_;simp[Lk.av,Rq.avs,Rq.zero,flds,-Int.natCast_add];exact qab (v0:=Lk.av ⟨5,(i:Int)+1,false,.zero,false,417,116,(i:Int)⟩) (v:=Lk.av ⟨5,(i:Int)+1,false,.zero,false,417,116,(i:Int)⟩) hB (by simp[Lk.av,Rq.avs,Rq.zero,flds]) (qaa _) (Lk.bnd ⟨5,(i:Int)+1,false,.zero,false,417,116,(i:Int)⟩ _) (fin ⟨5,(i:Int)+1,false,.zero,false,417,116,(i:Int)⟩ (bad _ _ hS))
    clear hS;rintro _ _ ⟨hS,rfl,x,rfl⟩;unfold lenS at hS;simp[hdK];by_cases hbig:p.lb<ln
    ·rw[if_pos hbig]at hS;simp[hbig,-Int.natCast_add];refine qaz E' _ 413 114 (i:Int) (i:Int) (by omega) (by omega) ?_;simp[Lk.av,Rq.avs,Rq.zero,flds,-Int.natCast_add];exact qab (v0:=Lk.av ⟨5,(i:Int)+1,false,.zero,false,413,114,(i:Int)⟩) (v:=Lk.av ⟨5,(i:Int)+1,false,.zero,false,413,114,(i:Int)⟩) hB (by simp[Lk.av,Rq.avs,Rq.zero,flds]) (qaa _) (Lk.bnd ⟨5,(i:Int)+1,false,.zero,false,413,114,(i:Int)⟩ _) (fin ⟨5,(i:Int)+1,false,.zero,false,413,114,(i:Int)⟩ (bad _ _ hS))
    ·rw[if_neg hbig]at hS;have hbig':¬p.lb<ln:=hbig;obtain⟨WV,hWV⟩:=exz ((R.isEmpty&&!decide (p.minor=0)&&expB p.fields))
     generalize hex:expB p.fields=ex at hWV⊢
     rw[hold2,hW]at hWV;simp[hbig',w1,-qa4,-Int.natCast_add];apply qoO (I:=hdI3 p s i WV kd ln H)
     ·intro tail;simp only[qa4,qot];simp[w1,-qa4,-Int.natCast_add];simp only[qa4,qot];cases ex with
      |false=>
       obtain rfl:false=WV:=by rw[<-hWV];simp
       simp[-qa4,-Int.natCast_add];exact tail _ _ ⟨rfl,qag (by simp[flds])⟩
      |true=>
       cases old with
       |true=>
        obtain rfl:false=WV:=by rw[<-hWV];simp
        simp[-qa4,-Int.natCast_add];exact tail _ _ ⟨rfl,qag (by simp[flds])⟩
       |false=>
        obtain rfl:W=WV:=by rw[<-hWV];simp
        simp[hWl,-qa4,-Int.natCast_add];exact tail _ _ ⟨rfl,qag (by simp[flds])⟩
     rintro _ _ ⟨rfl,x,rfl⟩;have hwq:(R.isEmpty&&!decide (p.minor=0)&&expB p.fields)=WV:=by rw[hold2,hW,hex,hWV]
     simp[-Int.natCast_add];by_cases hk2:kd=2
     ·rw[if_pos hk2]at hS;subst hk2;simp[q1,hR,htR,-Int.natCast_add];refine qdf fun J=>?_;refine qq9 E' _ p.lb p.lf p.lh (by omega) R (by omega) (by omega) (fun t e dn B T hEn=>⟨rfl,?_⟩);have hE2:=qom (gol _ _ hS) hu hb hEn;have ht:t<=R.length:=by have:=hEn.1;rw[<-this];exact qmP _ _
      have w3:IntKind.i64.wrap (((i+1:Nat):Int)+(t:Int))=((i+1+t:Nat):Int):=by rw[qak (by omega) (by omega)];omega
      have w4:IntKind.i64.wrap (((i+1+t:Nat):Int)-1)=((i+t:Nat):Int):=by rw[qak (by omega) (by omega)];omega
      by_cases he:e=0
      ·subst he;cases dn with
       |true=>
        have hx:=hE2.2.1 rfl rfl;simp[wkA,w3,hS',-Int.natCast_add];exact qab (v0:=Lk.av ⟨4,((i+1+t:Nat):Int),true,⟨p.meth,p.targ,p.major,p.minor,p.fields,B,T⟩,false,0,0,0⟩) (v:=Lk.av ⟨4,((i+1+t:Nat):Int),true,⟨p.meth,p.targ,p.major,p.minor,p.fields,B,T⟩,false,0,0,0⟩) hB (by simp[Lk.av,Rq.avs,Rq.zero,flds]) (qaa _) (Lk.bnd ⟨4,((i+1+t:Nat):Int),true,⟨p.meth,p.targ,p.major,p.minor,p.fields,B,T⟩,false,0,0,0⟩ _) (fin ⟨4,((i+1+t:Nat):Int),true,⟨p.meth,p.targ,p.major,p.minor,p.fields,B,T⟩,false,0,0,0⟩ hx)
       |false=>
        have hx:=hE2.2.2 rfl rfl;rw[hwq,hRs]at hx;simp[wkA];exact qab (v0:=Lk.av ⟨3,(s.length:Int),true,⟨p.meth,p.targ,p.major,p.minor,p.fields,[],[]⟩,WV,0,0,0⟩) (v:=Lk.av ⟨3,(s.length:Int),true,⟨p.meth,p.targ,p.major,p.minor,p.fields,[],[]⟩,WV,0,0,0⟩) hB (by simp[Lk.av,Rq.avs,Rq.zero,flds]) (qaa _) (Lk.bnd ⟨3,(s.length:Int),true,⟨p.meth,p.targ,p.major,p.minor,p.fields,[],[]⟩,WV,0,0,0⟩ _) (fin ⟨3,(s.length:Int),true,⟨p.meth,p.targ,p.major,p.minor,p.fields,[],[]⟩,WV,0,0,0⟩ hx)
      ·have he1:(e==0)=false:=by simpa using he
       have he2:(e !=0)=true:=by simpa using he
       have hx:=hE2.1 he;by_cases h102:e=102
       ·subst h102;simp[wkA,w3,w4,-Int.natCast_add];refine qaz E' _ 413 102 ((i+t:Nat):Int) ((i+t:Nat):Int) (by omega) (by omega) ?_;simp[Lk.av,Rq.avs,Rq.zero,flds,-Int.natCast_add];exact qab (v0:=Lk.av ⟨5,((i+t:Nat):Int)+1,false,.zero,false,413,102,((i+t:Nat):Int)⟩) (v:=Lk.av ⟨5,((i+t:Nat):Int)+1,false,.zero,false,413,102,((i+t:Nat):Int)⟩) hB (by simp[Lk.av,Rq.avs,Rq.zero,flds]) (qaa _) (Lk.bnd ⟨5,((i+t:Nat):Int)+1,false,.zero,false,413,102,((i+t:Nat):Int)⟩ _) (fin ⟨5,((i+t:Nat):Int)+1,false,.zero,false,413,102,((i+t:Nat):Int)⟩ hx)
       ·have b1:(e==102)=false:=by simpa using h102
        by_cases h104:e=104
        ·subst h104;simp[wkA,w3,w4,-Int.natCast_add];refine qaz E' _ 431 104 ((i+t:Nat):Int) ((i+t:Nat):Int) (by omega) (by omega) ?_;simp[Lk.av,Rq.avs,Rq.zero,flds,-Int.natCast_add];exact qab (v0:=Lk.av ⟨5,((i+t:Nat):Int)+1,false,.zero,false,431,104,((i+t:Nat):Int)⟩) (v:=Lk.av ⟨5,((i+t:Nat):Int)+1,false,.zero,false,431,104,((i+t:Nat):Int)⟩) hB (by simp[Lk.av,Rq.avs,Rq.zero,flds]) (qaa _) (Lk.bnd ⟨5,((i+t:Nat):Int)+1,false,.zero,false,431,104,((i+t:Nat):Int)⟩ _) (fin ⟨5,((i+t:Nat):Int)+1,false,.zero,false,431,104,((i+t:Nat):Int)⟩ hx)
        ·have b2:(e==104)=false:=by simpa using h104
         have hst:stC e=400:=by unfold stC;rw[if_neg h102,if_neg h104]
         rw[hst]at hx;simp[wkA,he1,he2,b1,b2,w3,w4,-Int.natCast_add];refine qaz E' _ 400 e ((i+t:Nat):Int) ((i+t:Nat):Int) (by omega) (by omega) ?_;simp[Lk.av,Rq.avs,Rq.zero,flds,-Int.natCast_add];exact qab (v0:=Lk.av ⟨5,((i+t:Nat):Int)+1,false,.zero,false,400,e,((i+t:Nat):Int)⟩) (v:=Lk.av ⟨5,((i+t:Nat):Int)+1,false,.zero,false,400,e,((i+t:Nat):Int)⟩) hB (by simp[Lk.av,Rq.avs,Rq.zero,flds]) (qaa _) (Lk.bnd ⟨5,((i+t:Nat):Int)+1,false,.zero,false,400,e,((i+t:Nat):Int)⟩ _) (fin ⟨5,((i+t:Nat):Int)+1,false,.zero,false,400,e,((i+t:Nat):Int)⟩ hx)
     ·rw[if_neg hk2]at hS;have hk2':(kd==2)=false:=by simpa using hk2
      by_cases hk1:kd=1
      ·subst hk1;have w5:IntKind.i64.wrap ((s.length:Int)-((i+1:Nat):Int))=(R.length:Int):=by rw[qak (by omega) (by omega)];omega
       by_cases hsh:(R.length:Int)<ln
       ·have hpos:0<ln:=by omega
        rw[if_pos hpos]at hS;have hx:=qsx (gol _ _ hS) hu hb hpos hsh;rw[hwq,hRs]at hx;simp[w5,hsh,-Int.natCast_add];exact qab (v0:=Lk.av ⟨3,(s.length:Int),true,⟨p.meth,p.targ,p.major,p.minor,p.fields,[],[]⟩,WV,0,0,0⟩) (v:=Lk.av ⟨3,(s.length:Int),true,⟨p.meth,p.targ,p.major,p.minor,p.fields,[],[]⟩,WV,0,0,0⟩) hB (by simp[Lk.av,Rq.avs,Rq.zero,flds]) (qaa _) (Lk.bnd ⟨3,(s.length:Int),true,⟨p.meth,p.targ,p.major,p.minor,p.fields,[],[]⟩,WV,0,0,0⟩ _) (fin ⟨3,(s.length:Int),true,⟨p.meth,p.targ,p.major,p.minor,p.fields,[],[]⟩,WV,0,0,0⟩ hx)
       ·obtain⟨L,rfl⟩:∃L:Nat,ln=L:=⟨ln.toNat,by omega⟩
        have hx:qaX (qao q s).1=⟨4,((i+1+L:Nat):Int),true,⟨p.meth,p.targ,p.major,p.minor,p.fields,(R.take L),[]⟩,false,0,0,0⟩:=by
         by_cases hpos:(0:Int)<L
         ·rw[if_pos hpos]at hS;have:=qsy (gol _ _ hS) hu hbo htr hpos (by omega);rw[this];rfl
         ·rw[if_neg hpos]at hS;have h0:L=0:=by omega
          rw[qjC (gol _ _ hS) hu hbo htr,h0];rfl
        have w6:IntKind.i64.wrap (((i+1:Nat):Int)+(L:Int))=((i+1+L:Nat):Int):=by rw[qak (by omega) (by omega)];omega
        have q2:i+1+L<=s.length:=by omega
        have q3:i+1<=i+1+L:=by omega
        have q4:i+1+L-(i+1)=L:=by omega
        simp[w5,hsh,w6,q1,q2,q3,q4,hR,-Int.natCast_add];exact qab (v0:=Lk.av ⟨4,((i+1+L:Nat):Int),true,⟨p.meth,p.targ,p.major,p.minor,p.fields,(R.take L),[]⟩,false,0,0,0⟩) (v:=Lk.av ⟨4,((i+1+L:Nat):Int),true,⟨p.meth,p.targ,p.major,p.minor,p.fields,(R.take L),[]⟩,false,0,0,0⟩) hB (by simp[Lk.av,Rq.avs,Rq.zero,flds]) (qaa _) (Lk.bnd ⟨4,((i+1+L:Nat):Int),true,⟨p.meth,p.targ,p.major,p.minor,p.fields,(R.take L),[]⟩,false,0,0,0⟩ _) (fin ⟨4,((i+1+L:Nat):Int),true,⟨p.meth,p.targ,p.major,p.minor,p.fields,(R.take L),[]⟩,false,0,0,0⟩ hx)
      ·obtain rfl:ln=0:=hk hk1 hk2;have hk1':(kd==1)=false:=by simpa using hk1
       have hln':¬(0:Int)<0:=by omega
       rw[if_neg hln']at hS;have w6:IntKind.i64.wrap ((i+1:Nat):Int)=((i+1:Nat):Int):=wiz;have hx:=qjC (gol _ _ hS) hu hbo htr;simp[hk1',hk2',w6,-Int.natCast_add];exact qab (v0:=Lk.av ⟨4,((i+1:Nat):Int),true,⟨p.meth,p.targ,p.major,p.minor,p.fields,[],[]⟩,false,0,0,0⟩) (v:=Lk.av ⟨4,((i+1:Nat):Int),true,⟨p.meth,p.targ,p.major,p.minor,p.fields,[],[]⟩,false,0,0,0⟩) hB (by simp[Lk.av,Rq.avs,Rq.zero,flds]) (qaa _) (Lk.bnd ⟨4,((i+1:Nat):Int),true,⟨p.meth,p.targ,p.major,p.minor,p.fields,[],[]⟩,false,0,0,0⟩ _) (fin ⟨4,((i+1:Nat):Int),true,⟨p.meth,p.targ,p.major,p.minor,p.fields,[],[]⟩,false,0,0,0⟩ hx)
   ·rw[if_pos he1]at hS;have b1:(e1==0)=false:=by simpa using he1
    have b2:(e1 !=0)=true:=by simpa using he1
    simp[b1,b2,-Int.natCast_add];refine qaz E' _ 400 e1 (i:Int) (i:Int) (by omega) (by omega) ?_;simp[Lk.av,Rq.avs,Rq.zero,flds,-Int.natCast_add];exact qab (v0:=Lk.av ⟨5,(i:Int)+1,false,.zero,false,400,e1,(i:Int)⟩) (v:=Lk.av ⟨5,(i:Int)+1,false,.zero,false,400,e1,(i:Int)⟩) hB (by simp[Lk.av,Rq.avs,Rq.zero,flds]) (qaa _) (Lk.bnd ⟨5,(i:Int)+1,false,.zero,false,400,e1,(i:Int)⟩ _) (fin ⟨5,(i:Int)+1,false,.zero,false,400,e1,(i:Int)⟩ (bad _ _ hS))
  ·rw[if_pos h0]at hS;have b1:(e0==0)=false:=by simpa using h0
   have b2:(e0 !=0)=true:=by simpa using h0
   simp[b1,b2,h67',-Int.natCast_add];refine qaz E' _ 400 e0 (i:Int) (i:Int) (by omega) (by omega) ?_;simp[Lk.av,Rq.avs,Rq.zero,flds,-Int.natCast_add];exact qab (v0:=Lk.av ⟨5,(i:Int)+1,false,.zero,false,400,e0,(i:Int)⟩) (v:=Lk.av ⟨5,(i:Int)+1,false,.zero,false,400,e0,(i:Int)⟩) hB (by simp[Lk.av,Rq.avs,Rq.zero,flds]) (qaa _) (Lk.bnd ⟨5,(i:Int)+1,false,.zero,false,400,e0,(i:Int)⟩ _) (fin ⟨5,(i:Int)+1,false,.zero,false,400,e0,(i:Int)⟩ (bad _ _ hS))
end
end Go.Proofs.YtnnhdehmlkkfjaaGreatDoor
namespace Go.Proofs.YtnnhdehmlkkfjaaGreatDoor
open Go Go.RowKit Go.Proofs
section
variable (E:Env)(H:Hp)(Q:AV->Hp->Prop)
end
theorem qmy{l:List UInt8}(h:(qaR l).2.2=0):(qaR l).1.name.length+(qaR l).1.value.length+1<=l.length:=by
 unfold qaR at h⊢;split at h
 ·simp at h
 split at h
 ·simp at h
 split at h
 ·simp at h
 split at h
 ·simp at h
 split at h
 ·simp at h
 split at h
 ·simp at h
 rename_i h1 h2 h3 h4 h5 h6;rw[if_neg h1,if_neg h2,if_neg h3,if_neg h4,if_neg h5,if_neg h6];have:=qgN (l.drop (run ncol l+1));rw[zqI]at this;simp only[zqJ];omega
theorem qkh(l:List UInt8):0<=(qaR l).2.1/\(qaR l).2.1<=l.length+8192:=by
 have h1:=qbp ncol l;have h2:=qbp qaf (l.drop (run ncol l+1));have h3:=qbp fcB (l.drop (run ncol l+1));have h4:=qbp qai l;rw[zqI]at h2 h3;unfold qaR
 (repeat' split)<;>simp only<;>omega
section
variable (E:Env)(H:Hp)(Q:AV->Hp->Prop)
end
end Go.Proofs.YtnnhdehmlkkfjaaGreatDoor
namespace Go.Proofs.YtnnhdehmlkkfjaaGreatDoor
open Go Go.RowKit
def pI(p0:Prs)(s:List UInt8)(fr0 i bg:Nat)(l:List Fld):Prs:={p0 with used:=i,fields:=l,text:=(s.drop bg).take (i-bg),begin_:=bg,head:=(i:Int)-fr0}
def pI1(p0:Prs)(s:List UInt8)(fr0 i bg:Nat)(l:List Fld)(c:UInt8):Prs:={p0 with used:=i,fields:=l,text:=(s.drop bg).take (i-bg)++[c],begin_:=bg,head:=(i:Int)-fr0+1}
theorem qtd(p0:Prs)(s:List UInt8)(fr0 i bg:Nat)(l:List Fld)(c:UInt8)(hb:bg<=i)(hc:s[i]? =some c)(h1:p0.nx=some .fields):adv (pI1 p0 s fr0 i bg l c) (some .fields)=pI p0 s fr0 (i+1) bg l:=by
 have e:(s.drop bg).take (i+1-bg)=(s.drop bg).take (i-bg)++[c]:=by
  rw[show i+1-bg=(i-bg)+1 by omega,List.take_add_one,zqN,show bg+(i-bg)=i by omega,hc];rfl
 unfold adv pI1 pI;rw[e];cases p0;simp at h1⊢;exact⟨h1.symm,by omega⟩
theorem pI_0(p0:Prs)(s:List UInt8)(fr0:Nat)(h2:p0.used=fr0)(h3:p0.fields=[])(h4:p0.text=[])(h5:p0.begin_=fr0)(h6:p0.head=0):pI p0 s fr0 fr0 fr0 []=p0:=by
 unfold pI;cases p0;simp at h2 h3 h4 h5 h6⊢;simp[h2,h3,h4,h5,h6]
def pI2(p0:Prs)(s:List UInt8)(fr0 i bg:Nat)(l:List Fld):Prs:={p0 with used:=i,fields:=l,text:=[],begin_:=bg,head:=(i:Int)-fr0+1}
theorem qnK(p0:Prs)(s:List UInt8)(fr0 i bg:Nat)(l:List Fld)(c:UInt8):qbg (pI p0 s fr0 i bg l) c=
  if(i:Int)-fr0=p0.lh then qaA (pI p0 s fr0 i bg l) 431 113
  else if(((s.drop bg).take (i-bg)).getLast? ==some 13)≠(c==10)then qaA {pI p0 s fr0 i bg l with head:=(i:Int)-fr0+1} 400 111
  else if c≠10 then .go (pI1 p0 s fr0 i bg l c) (some .fields)
  else if((s.drop bg).take (i-bg)).dropLast=[]then qa7 (pI2 p0 s fr0 i bg l)
  else if(l.length:Int)=p0.lf then qaA (pI2 p0 s fr0 i bg l) 431 113
  else if(qaR ((s.drop bg).take (i-bg)).dropLast).2.2≠0 then .bad (pI2 p0 s fr0 i bg l) 400 (qaR ((s.drop bg).take (i-bg)).dropLast).2.2 (bg+(qaR ((s.drop bg).take (i-bg)).dropLast).2.1)
  else .go {pI2 p0 s fr0 i bg l with fields:=l++[(qaR ((s.drop bg).take (i-bg)).dropLast).1],begin_:=i+1} (some .fields):=rfl
theorem pI_nx(p0:Prs)(s:List UInt8)(fr0 i bg:Nat)(l:List Fld)(f:Fld)(h1:p0.nx=some .fields):adv {pI2 p0 s fr0 i bg l with fields:=l++[f],begin_:=i+1} (some .fields)=pI p0 s fr0 (i+1) (i+1) (l++[f]):=by
 unfold adv pI2 pI;cases p0;simp at h1⊢;exact⟨h1.symm,by omega⟩
section
open Go.Lib
variable (E:Env){H:Hp}(Q:AV->Hp->Prop)
def dfI(q p0:Prs)(s:List UInt8)(fr0:Nat)(H:Hp)(fr:List AV)(K:Hp):Prop:=∃(J:Hp) (i bg:Nat) (l:List Fld) (z:AV),fr0<=bg/\bg<=i/\i<=s.length/\(i:Int)-fr0<=p0.lh/\fsz l+l.length+fr0<=bg/\(l.length:Int)<=p0.lf/\(l=[]/\z= .nil\/z= .sl true 2 (flds l))/\Fd q s (pI p0 s fr0 i bg l) i/\
 K=H++([[.int .i64 p0.lt,.int .i64 p0.lh,.int .i64 p0.lf,.int .i64 p0.lb],[.str p0.meth,.str p0.targ,.int .i64 p0.major,.int .i64 p0.minor,z,.str [],.nil],[.int .i64 0,.int .i64 0,.bool false,.str [],.str [],.int .i64 0,.int .i64 0,.nil,.str [],.nil,.bool false,.int .i64 0,.int .i64 0,.int .i64 0]]++J)/\
 ∃x:Nat->AV,fr=[x 0,.str s,.int .i64 (fr0:Int),x 3,.ptr (some (H.length,0)),x 5,x 6,.ptr (some (H.length+1,0)),.ptr (some (H.length+2,0)),.int .i64 (i:Int),.int .i64 (bg:Int),x 11,x 12,x 13,x 14,x 15,x 16,x 17,x 18,x 19,x 20,x 21,x 22,x 23,x 24,x 25,x 26,x 27,x 28,x 29,x 30,x 31,x 32,x 33,x 34,x 35,x 36,x 37,x 38,x 39,x 40,x 41,x 42,x 43,x 44,x 45,x 46,x 47,x 48,x 49,x 50,x 51,x 52,x 53,x 54,x 55,x 56,x 57,x 58,x 59,x 60,x 61,x 62,x 63,x 64,x 65,x 66,x 67,x 68,x 69,x 70,x 71,x 72,x 73,x 74,x 75,x 76,x 77,x 78,x 79,x 80,x 81,x 82,x 83,x 84,x 85,x 86,x 87,x 88,x 89,x 90,x 91,x 92,x 93,x 94,x 95,x 96,x 97,x 98,x 99,x 100,x 101,x 102,x 103,x 104,x 105,x 106,x 107,x 108,x 109,x 110,x 111,x 112,x 113,x 114,x 115,x 116,x 117,x 118]
theorem qnT(q p0:Prs)(s:List UInt8)(fr0:Nat)(hF:Fd q s p0 fr0)(h1:p0.nx=some .fields)(h2:p0.used=fr0)(h3:p0.fields=[])(h4:p0.text=[])(h5:p0.begin_=fr0)(h6:p0.head=0)(h7:p0.state=2)(h8:p0.bodied=false)(h9:p0.body=[])(h10:p0.trailers=[])
  (hlh:0<=p0.lh/\p0.lh<=1048576) (hlf:0<=p0.lf/\p0.lf<=100) (hlb:0<=p0.lb/\p0.lb<=1073741824) (hl:s.length<=1000000000) (hQ:Q (qaX (qao q s).1).av H):
  PC Tryz.prog E 51 [limV p0.lt p0.lh p0.lf p0.lb,.str s,.int .i64 (fr0:Int),.agg [.str p0.meth,.str p0.targ,.int .i64 p0.major,.int .i64 p0.minor,.nil,.str [],.nil]] H Q:=by
 refine qac Tryz.func51 rfl [111] [] (by kernel_rfl) (fun hB=>?_);have fin:∀x:Lk,qaX (qao q s).1=x->Q x.av H:=fun x hx=>hx▸hQ;clear hQ;simp[Tryz.ntmps51,Tryz.results51,List.replicate_succ,limV];refine qaB (dfI q p0 s fr0 H) (fun fr _=>s.length-(ai (aget fr 9)).toNat) ⟨[],fr0,fr0,[],.nil,by omega,by omega,hF.1,by omega,by simp[fsz],by simpa using hlf.1,.inl ⟨rfl,rfl⟩,by rw[pI_0 p0 s fr0 h2 h3 h4 h5 h6];exact hF,by simp,friz⟩ ?_;clear hF;rintro fr K ⟨J,i,bg,l,z,hfb,hbi,hi,hih,hsz,hlc,hz,hFd,rfl,x,rfl⟩;have hn:(pI p0 s fr0 i bg l).nx=some .fields:=h1;by_cases hlt:i<s.length;rotate_left
 ·obtain rfl:i=s.length:=by omega
  have hx:qaX (qao q s).1=⟨2,(s.length:Int),false,.zero,false,0,0,0⟩:=by
   rw[Fd.fin hFd];simp[qaX,pI,h7]
  simp;refine qeB E _ 2 s ?_;simp[Lk.av,Rq.avs,Rq.zero,flds];exact qab (v0:=Lk.av ⟨2,(s.length:Int),false,.zero,false,0,0,0⟩) (v:=Lk.av ⟨2,(s.length:Int),false,.zero,false,0,0,0⟩) hB (by simp[Lk.av,Rq.avs,Rq.zero,flds]) (qaa _) (Lk.bnd ⟨2,(s.length:Int),false,.zero,false,0,0,0⟩ _) (fin ⟨2,(s.length:Int),false,.zero,false,0,0,0⟩ hx)
 obtain⟨c,hc⟩:∃c,s[i]? =some c:=⟨_,zqD hlt⟩
 have la:=qas hc;have hil:((i:Int)==(s.length:Int))=false:=by rw[beq_eq_false_iff_ne];omega
 have w1:IntKind.i64.wrap ((i:Int)+1)=i+1:=wiz;have w0:IntKind.i64.wrap ((i:Int)-fr0)=i-fr0:=wiz
 have bad:∀p1 st err,p1.used=(i:Int)->qbg (pI p0 s fr0 i bg l) c=qaA p1 st err->qaX (qao q s).1=⟨5,(i:Int)+1,false,.zero,false,st,err,(i:Int)⟩:=fun p1 st err hu h=>by
  unfold qaA at h;rw[Fd.bad hFd hc hn (show qba _ .fields c=_ from h),qb4,hu]
 have hS:=qnK p0 s fr0 i bg l c;by_cases hhd:(i:Int)-fr0=p0.lh
 ·rw[if_pos hhd]at hS;have hb:=bad _ 431 113 rfl hS;have hge:p0.lh<=(i:Int)-fr0:=by omega
  simp[hil,w0,hge];refine qaz E _ 431 113 (i:Int) (i:Int) (by omega) (by omega) ?_;simp[Lk.av,Rq.avs,Rq.zero,flds];exact qab (v0:=Lk.av ⟨5,(i:Int)+1,false,.zero,false,431,113,(i:Int)⟩) (v:=Lk.av ⟨5,(i:Int)+1,false,.zero,false,431,113,(i:Int)⟩) hB (by simp[Lk.av,Rq.avs,Rq.zero,flds]) (qaa _) (Lk.bnd ⟨5,(i:Int)+1,false,.zero,false,431,113,(i:Int)⟩ _) (fin ⟨5,(i:Int)+1,false,.zero,false,431,113,(i:Int)⟩ hb)
 have hge:¬p0.lh<=(i:Int)-fr0:=by omega
 rw[if_neg hhd]at hS;obtain⟨l13,h13⟩:=exz ((((s.drop bg).take (i-bg)).getLast? ==some 13));rw[h13]at hS;by_cases hib:i=bg
 ·have e13:l13=false:=by rw[<-h13,hib];simp
  subst e13;have hib':((i:Int)==(bg:Int))=true:=by rw[beq_iff_eq];omega
  have hgt:¬(bg:Int)<i:=by omega
  by_cases hc10:c=10
  ·subst hc10;rw[if_pos (by decide)]at hS;have hbad:=bad _ _ _ rfl hS;simp[hil,w0,hge,la,hib',hgt];refine qaz E _ 400 111 (i:Int) (i:Int) (by omega) (by omega) ?_;simp[Lk.av,Rq.avs,Rq.zero,flds];exact qab (v0:=Lk.av ⟨5,(i:Int)+1,false,.zero,false,400,111,(i:Int)⟩) (v:=Lk.av ⟨5,(i:Int)+1,false,.zero,false,400,111,(i:Int)⟩) hB (by simp[Lk.av,Rq.avs,Rq.zero,flds]) (qaa _) (Lk.bnd ⟨5,(i:Int)+1,false,.zero,false,400,111,(i:Int)⟩ _) (fin ⟨5,(i:Int)+1,false,.zero,false,400,111,(i:Int)⟩ hbad)
  ·have b1:=(qaE c 10 (by decide) 10 rfl hc10).1;have b2:=(qaE c 10 (by decide) 10 rfl hc10).2;rw[if_neg (by simpa using hc10),if_pos hc10]at hS;have hgo:=Fd.go hFd hc hn (show qba _ .fields c=_ from hS);rw[qtd p0 s fr0 i bg l c hbi hc h1]at hgo;simp[hil,w0,hge,la,hib',hgt,b1,b2,w1];exact Klz ⟨J,i+1,bg,l,z,hfb,by omega,by omega,by omega,by omega,hlc,hz,hgo,rfl,friz⟩
 have hbl:bg<i:=by omega
 obtain⟨e,he⟩:∃e,s[i-1]? =some e:=⟨_,zqD (by omega)⟩
 have le:=qas he;have wm:IntKind.i64.wrap ((i:Int)-1)=((i-1:Nat):Int):=by rw[qak (by omega) (by omega)];omega
 have e13:l13=(e==13):=by
  rw[<-h13,List.getLast?_eq_getElem?,zqJ,zqI,Nat.min_eq_left (by omega),zqG (by omega),zqN,show bg+(i-bg-1)=i-1 by omega,he];simp
 subst e13;have hib':((i:Int)==(bg:Int))=false:=by rw[beq_eq_false_iff_ne];omega
 have hgt:(bg:Int)<i:=by omega
 by_cases hc10:c=10
 ·subst hc10;by_cases h13':e=13
  ·subst h13';rw[if_neg (by decide),if_neg (by simp)]at hS;obtain⟨line,hline⟩:=exz ((s.drop bg).take (i-1-bg))
   have hdl:((s.drop bg).take (i-bg)).dropLast=line:=by
    rw[List.dropLast_eq_take,zqJ,zqI,List.take_take,<-hline];congr 1;omega
   have hll:line.length=i-1-bg:=by rw[<-hline,zqJ,zqI];omega
   rw[hdl]at hS;have q1:bg<=i-1:=by omega
   have q2:i-1<=s.length:=by omega
   by_cases hl0:line=[]
   ·rw[if_pos hl0]at hS;obtain⟨X,hX⟩:=exz (qaX (qao q s).1);have hl0':(line==[])=true:=by rw[hl0];rfl
    rcases hz with⟨rfl,rfl⟩|rfl
    ·simp[hil,w0,hge,la,le,hib',hgt,wm,q1,q2,hline,hl0'];refine PC.argsD (args':=[limV p0.lt p0.lh p0.lf p0.lb,.str s,.int .i64 (i:Int),(Rq.mk p0.meth p0.targ p0.major p0.minor [] [] []).av]) ⟨.same _,.same _,.same _,qcP (Rq.nil _ _ _ _ _),trivial⟩ (qmW E _ q (pI p0 s fr0 i bg []) (pI2 p0 s fr0 i bg []) s i .fields 10 hFd hc hn (show qba _ .fields 10=_ from hS) rfl h8 h9 h10 hlh.1 hlb (by show fsz []+List.length []<=_;omega) hl ?_);rw[hX];simp[Lk.av,Rq.avs];exact qab (v0:=Lk.av X) (v:=Lk.av X) hB (by simp[Lk.av,Rq.avs,Rq.zero,flds]) (qaa _) (Lk.bnd X _) (fin X hX)
    ·simp[hil,w0,hge,la,le,hib',hgt,wm,q1,q2,hline,hl0'];refine PC.argsD (args':=[limV p0.lt p0.lh p0.lf p0.lb,.str s,.int .i64 (i:Int),(Rq.mk p0.meth p0.targ p0.major p0.minor l [] []).av]) ⟨.same _,.same _,.same _,qcP (Rq.nilT _ _ _ _ _ _),trivial⟩ (qmW E _ q (pI p0 s fr0 i bg l) (pI2 p0 s fr0 i bg l) s i .fields 10 hFd hc hn (show qba _ .fields 10=_ from hS) rfl h8 h9 h10 hlh.1 hlb (by show fsz l+List.length l<=_;omega) hl ?_);rw[hX];simp[Lk.av,Rq.avs];exact qab (v0:=Lk.av X) (v:=Lk.av X) hB (by simp[Lk.av,Rq.avs,Rq.zero,flds]) (qaa _) (Lk.bnd X _) (fin X hX)
   ·rw[if_neg hl0]at hS;have hl0':(line==[])=false:=by simpa using hl0
    rcases hz with⟨rfl,rfl⟩|rfl
    ·by_cases hful:((([]:List Fld).length:Int):Int)=p0.lf
     ·rw[if_pos hful]at hS;have hb:=bad _ _ _ rfl hS;have hge2:p0.lf<=(([]:List Fld).length:Int):=by omega
      have hge3:p0.lf<=0:=by simpa using hge2
      simp[hil,w0,hge,la,le,hib',hgt,wm,q1,q2,hline,hl0',hge3,flds];refine qaz E _ 431 113 (i:Int) (i:Int) (by omega) (by omega) ?_;simp[Lk.av,Rq.avs,Rq.zero,flds];exact qab (v0:=Lk.av ⟨5,(i:Int)+1,false,.zero,false,431,113,(i:Int)⟩) (v:=Lk.av ⟨5,(i:Int)+1,false,.zero,false,431,113,(i:Int)⟩) hB (by simp[Lk.av,Rq.avs,Rq.zero,flds]) (qaa _) (Lk.bnd ⟨5,(i:Int)+1,false,.zero,false,431,113,(i:Int)⟩ _) (fin ⟨5,(i:Int)+1,false,.zero,false,431,113,(i:Int)⟩ hb)
     ·rw[if_neg hful]at hS;have hge2:¬p0.lf<=(([]:List Fld).length:Int):=by omega
      have hge3:¬p0.lf<=0:=by simpa using hge2
      simp[hil,w0,hge,la,le,hib',hgt,wm,q1,q2,hline,hl0',hge3,flds];refine qkM E _ _ line (by simp only[cap];omega) ?_;have hrg:=qkh line;have hls:=qmy (l:=line);obtain⟨nm,vl,pl,er,hLX⟩:∃nm vl pl er,qaR line=(⟨nm,vl⟩,pl,er):=⟨_,_,_,_,rfl⟩
      rw[hLX]at hS hrg hls⊢;simp only at hS hrg hls;by_cases hee:er=0
      ·subst hee;rw[if_neg (by simp)]at hS;have hls:=hls rfl;have hgo:=Fd.go hFd hc hn (show qba _ .fields 10=_ from hS);rw[pI_nx p0 s fr0 i bg ([]:List Fld) ⟨nm,vl⟩ h1]at hgo;have hfs:[[AV.str nm,AV.str vl]]=flds ([]++[⟨nm,vl⟩]):=by simp[flds]
       have hsn:=qhn ([]:List Fld) ⟨nm,vl⟩;have m1:([]:List Fld).length+1<=maxLen:=by unfold maxLen;simp only[List.length_nil]at*;omega
       have m2:(([]:List Fld).length+1)*32<=140737488355328:=by simp only[List.length_nil]at*;omega
       have m3:1<=maxLen:=by unfold maxLen;omega
       simp[w1,m3];exact Klz ⟨_,i+1,i+1,([]:List Fld)++[⟨nm,vl⟩],_,by omega,by omega,by omega,by omega,by rw[hsn];simp only[zqK,zqL,List.length_nil]at*;omega,by simp only[zqK,zqL,List.length_nil]at*;omega,.inr rfl,hgo,by simp[flds];rfl,friz⟩
      ·rw[if_pos hee]at hS;have hee1:(er==0)=false:=by simpa using hee
       have hee2:(er !=0)=true:=by simpa using hee
       have wp:IntKind.i64.wrap ((bg:Int)+pl)=bg+pl:=wiz
       have hb:qaX (qao q s).1=⟨5,(i:Int)+1,false,.zero,false,400,er,bg+pl⟩:=by
        rw[Fd.bad hFd hc hn (show qba _ .fields 10=_ from hS),qb4];rfl
       simp[hee1,hee2,wp];refine qaz E _ 400 er (i:Int) (bg+pl) (by omega) (by omega) ?_;simp[Lk.av,Rq.avs,Rq.zero,flds];exact qab (v0:=Lk.av ⟨5,(i:Int)+1,false,.zero,false,400,er,(bg+pl)⟩) (v:=Lk.av ⟨5,(i:Int)+1,false,.zero,false,400,er,(bg+pl)⟩) hB (by simp[Lk.av,Rq.avs,Rq.zero,flds]) (qaa _) (Lk.bnd ⟨5,(i:Int)+1,false,.zero,false,400,er,(bg+pl)⟩ _) (fin ⟨5,(i:Int)+1,false,.zero,false,400,er,(bg+pl)⟩ hb)
    ·by_cases hful:((l.length:Int):Int)=p0.lf
     ·rw[if_pos hful]at hS;have hb:=bad _ _ _ rfl hS;have hge2:p0.lf<=(l.length:Int):=by omega
      have hge3:p0.lf<=(l.length:Int):=by simpa using hge2
      simp[hil,w0,hge,la,le,hib',hgt,wm,q1,q2,hline,hl0',hge3,List.length_map];refine qaz E _ 431 113 (i:Int) (i:Int) (by omega) (by omega) ?_;simp[Lk.av,Rq.avs,Rq.zero,flds];exact qab (v0:=Lk.av ⟨5,(i:Int)+1,false,.zero,false,431,113,(i:Int)⟩) (v:=Lk.av ⟨5,(i:Int)+1,false,.zero,false,431,113,(i:Int)⟩) hB (by simp[Lk.av,Rq.avs,Rq.zero,flds]) (qaa _) (Lk.bnd ⟨5,(i:Int)+1,false,.zero,false,431,113,(i:Int)⟩ _) (fin ⟨5,(i:Int)+1,false,.zero,false,431,113,(i:Int)⟩ hb)
     ·rw[if_neg hful]at hS;have hge2:¬p0.lf<=(l.length:Int):=by omega
      have hge3:¬p0.lf<=(l.length:Int):=by simpa using hge2
      simp[hil,w0,hge,la,le,hib',hgt,wm,q1,q2,hline,hl0',hge3,List.length_map];refine qkM E _ _ line (by simp only[cap];omega) ?_;have hrg:=qkh line;have hls:=qmy (l:=line);obtain⟨nm,vl,pl,er,hLX⟩:∃nm vl pl er,qaR line=(⟨nm,vl⟩,pl,er):=⟨_,_,_,_,rfl⟩
      rw[hLX]at hS hrg hls⊢;simp only at hS hrg hls;by_cases hee:er=0
      ·subst hee;rw[if_neg (by simp)]at hS;have hls:=hls rfl;have hgo:=Fd.go hFd hc hn (show qba _ .fields 10=_ from hS);rw[pI_nx p0 s fr0 i bg l ⟨nm,vl⟩ h1]at hgo;have hfs:flds l++[[.str nm,.str vl]]=flds (l++[⟨nm,vl⟩]):=by simp[flds]
       have hsn:=qhn l ⟨nm,vl⟩;have m1:l.length+1<=maxLen:=by unfold maxLen;simp only[List.length_nil]at*;omega
       have m2:(l.length+1)*32<=140737488355328:=by simp only[List.length_nil]at*;omega
       simp[w1,m1,m2,hfs,List.length_map];exact Klz ⟨_,i+1,i+1,l++[⟨nm,vl⟩],_,by omega,by omega,by omega,by omega,by rw[hsn];simp only[zqK,zqL,List.length_nil]at*;omega,by simp only[zqK,zqL,List.length_nil]at*;omega,.inr rfl,hgo,by simp[flds];rfl,friz⟩
      ·rw[if_pos hee]at hS;have hee1:(er==0)=false:=by simpa using hee
       have hee2:(er !=0)=true:=by simpa using hee
       have wp:IntKind.i64.wrap ((bg:Int)+pl)=bg+pl:=wiz
       have hb:qaX (qao q s).1=⟨5,(i:Int)+1,false,.zero,false,400,er,bg+pl⟩:=by
        rw[Fd.bad hFd hc hn (show qba _ .fields 10=_ from hS),qb4];rfl
       simp[hee1,hee2,wp];refine qaz E _ 400 er (i:Int) (bg+pl) (by omega) (by omega) ?_;simp[Lk.av,Rq.avs,Rq.zero,flds];exact qab (v0:=Lk.av ⟨5,(i:Int)+1,false,.zero,false,400,er,(bg+pl)⟩) (v:=Lk.av ⟨5,(i:Int)+1,false,.zero,false,400,er,(bg+pl)⟩) hB (by simp[Lk.av,Rq.avs,Rq.zero,flds]) (qaa _) (Lk.bnd ⟨5,(i:Int)+1,false,.zero,false,400,er,(bg+pl)⟩ _) (fin ⟨5,(i:Int)+1,false,.zero,false,400,er,(bg+pl)⟩ hb)
  ·have b3:=(qaE e 13 (by decide) 13 rfl h13').1;have b4:=(qaE e 13 (by decide) 13 rfl h13').2;rw[if_pos (by simpa using h13')]at hS;have hbad:=bad _ _ _ rfl hS;simp[hil,w0,hge,la,le,hib',hgt,wm,b3,b4];refine qaz E _ 400 111 (i:Int) (i:Int) (by omega) (by omega) ?_;simp[Lk.av,Rq.avs,Rq.zero,flds];exact qab (v0:=Lk.av ⟨5,(i:Int)+1,false,.zero,false,400,111,(i:Int)⟩) (v:=Lk.av ⟨5,(i:Int)+1,false,.zero,false,400,111,(i:Int)⟩) hB (by simp[Lk.av,Rq.avs,Rq.zero,flds]) (qaa _) (Lk.bnd ⟨5,(i:Int)+1,false,.zero,false,400,111,(i:Int)⟩ _) (fin ⟨5,(i:Int)+1,false,.zero,false,400,111,(i:Int)⟩ hbad)
 ·have b1:=(qaE c 10 (by decide) 10 rfl hc10).1;have b2:=(qaE c 10 (by decide) 10 rfl hc10).2;by_cases h13':e=13
  ·subst h13';rw[if_pos (by simpa using hc10)]at hS;have hbad:=bad _ _ _ rfl hS;simp[hil,w0,hge,la,le,hib',hgt,wm,b1,b2];refine qaz E _ 400 111 (i:Int) (i:Int) (by omega) (by omega) ?_;simp[Lk.av,Rq.avs,Rq.zero,flds];exact qab (v0:=Lk.av ⟨5,(i:Int)+1,false,.zero,false,400,111,(i:Int)⟩) (v:=Lk.av ⟨5,(i:Int)+1,false,.zero,false,400,111,(i:Int)⟩) hB (by simp[Lk.av,Rq.avs,Rq.zero,flds]) (qaa _) (Lk.bnd ⟨5,(i:Int)+1,false,.zero,false,400,111,(i:Int)⟩ _) (fin ⟨5,(i:Int)+1,false,.zero,false,400,111,(i:Int)⟩ hbad)
  ·have b3:=(qaE e 13 (by decide) 13 rfl h13').1;have b4:=(qaE e 13 (by decide) 13 rfl h13').2;rw[if_neg (fun h=>h (by rw[beq_eq_false_iff_ne.2 h13',beq_eq_false_iff_ne.2 hc10])),if_pos hc10]at hS;have hgo:=Fd.go hFd hc hn (show qba _ .fields c=_ from hS);rw[qtd p0 s fr0 i bg l c hbi hc h1]at hgo;simp[hil,w0,hge,la,le,hib',hgt,wm,b1,b2,b3,b4,w1];exact Klz ⟨J,i+1,bg,l,z,hfb,by omega,by omega,by omega,by omega,hlc,hz,hgo,rfl,friz⟩
end
end Go.Proofs.YtnnhdehmlkkfjaaGreatDoor
namespace Go.Proofs.YtnnhdehmlkkfjaaGreatDoor
open Go Go.RowKit Go.Proofs
section
variable (E:Env)(H:Hp)(Q:AV->Hp->Prop)
def dfpInv(l:List Fld)(H:Hp)(fr:List AV)(H':Hp):Prop:=∃(J:Hp) (i:Nat),i<=l.length/\H'=H++J/\(∀g∈l.take i,(qa6 g).2=0)/\
 ∃x:Nat->AV,fr=[x 0,x 1,x 2,x 3,.str (qav (l.take i)),x 5,x 6,x 7,x 8,x 9,x 10,x 11,.sl false 2 (flds l),.int .i64 l.length,.int .i64 i,x 15,x 16,x 17,x 18,x 19,x 20,x 21,x 22,x 23,x 24,x 25,x 26,x 27,x 28,x 29,x 30,x 31]
theorem qiK(l:List Fld)(hl:fsz l+l.length<=16777216)(hQ:Q (.tup [.str (qbt l).1,.int .i64 (qbt l).2]) H):PC Tryz.prog E 57 [.sl false 2 (flds l)] H Q:=by
 have fin:∀a:List UInt8×Int,qbt l=a->Q (.tup [.str a.1,.int .i64 a.2]) H:=fun a ha=>ha▸hQ;refine qac Tryz.func57 rfl [] [] (by kernel_rfl) (fun hB=>?_);simp[Tryz.ntmps57,Tryz.results57,List.replicate_succ];by_cases h100:100<l.length
 ·have h1:(100:Int)<l.length:=by omega
  simp[h1];exact qaw hB (v0:= .tup [.str [],.int .i64 65]) (by simp) (qaa _) (by simp) (fin ([],65) (by unfold qbt;rw[if_pos h100]))
 have h1:¬(100:Int)<l.length:=by omega
 simp[h1];refine qaB (dfpInv l H) (fun fr _=>l.length-(ai (aget fr 14)).toNat) ⟨[],0,by omega,by simp,by simp,qag (by simp[qav])⟩ ?_;rintro fr H2 ⟨J2,i,hi,rfl,hall,x,rfl⟩;have hlin:=qcx (l.take i);have hsz:=qgz l i;rw[zqJ]at hlin;by_cases h:i<l.length
 ·obtain⟨f,hf⟩:∃f,l[i]? =some f:=⟨_,zqD h⟩
  have hat:=qdj hf;have hfm:=qeh hf;have hw:IntKind.i64.wrap ((i:Int)+1)=i+1:=wiz;have hlt:=qfv f;simp[h,hat];refine qfD E _ _ f (by omega) (by omega) ?_;by_cases hz:(qa6 f).2=0
  ·have hz1:=qmz hz;have m1:(qax f).length+2<=maxLen:=by unfold maxLen;omega
   have m0:(qax f).length+1+1<=maxLen:=by unfold maxLen;omega
   have m2:(qav (l.take i)).length+((qax f).length+1+1)<=maxLen:=by unfold maxLen;omega
   have m3:(qav (l.take i)).length+((qax f).length+2)<=maxLen:=by unfold maxLen;omega
   have hst:=qdS l i f hf;simp[hz,hz1,m1,m0,m2,m3,hw];refine Klz ⟨_,i+1,by omega,rfl,fun g hg=>?_,qag (by simp[hst])⟩;rw[List.take_add_one,hf]at hg;rcases List.mem_append.1 hg with hg|hg
   ·exact hall g hg
   ·simp at hg;subst hg;exact hz
  ·have hz2:((qa6 f).2 !=0)=true:=by simpa using hz
   simp[hz2];exact qab hB (v0:= .tup [.str [],.int .i64 (qa6 f).2]) (by simp) (qaa _) (by simp) (fin ([],(qa6 f).2) (qg4 (by omega) hf hall hz))
 ·obtain rfl:i=l.length:=by omega
  rw[zqE (Nat.le_refl _)]at hall hlin⊢;simp;exact qab hB (v0:= .tup [.str (qav l),.int .i64 0]) (by simp) (qaa _) (by simp) (fin (qav l,0) (qig (by omega) hall))
end
section
variable (E:Env)(H:Hp)(Q:AV->Hp->Prop)
end
@[simp] theorem bnd_ints {N:Nat} (l:List Int):(∀r∈ints l,∀x∈r,Bnd N x)=True:=eq_true fun r hr x hx=>by
 obtain⟨z,_,rfl⟩:=List.mem_map.1 hr;simp at hx;subst hx;exact .int _ _
section
variable (E:Env)(H:Hp)(Q:AV->Hp->Prop)
end
section
variable (E:Env)(H:Hp)(Q:AV->Hp->Prop)
end
end Go.Proofs.YtnnhdehmlkkfjaaGreatDoor
namespace Go.Proofs.YtnnhdehmlkkfjaaGreatDoor
open Go Go.RowKit Go.Proofs Go.Deep
section
variable (E:Env)(H:Hp)(Q:AV->Hp->Prop)
end
def Tabs(W : World) : Prop := qh2 W ∧ Tz W ∧ Lib.TabIs Tryz.prog W "internal/strconv.uint64pow10" .u64 Lib.pow10Tab
theorem tab_lt{W : World}(hT : Lib.TabIs Tryz.prog W "internal/strconv.uint64pow10" .u64 Lib.pow10Tab) : 1 < W.heap.size := by
 have:=hT;unfold Lib.TabIs World.var? at this;rw[qfT]at this;simp only[Option.bind_some]at this;by_cases h:1<W.heap.size
 ·exact h
 ·rw[Array.getElem?_eq_none (by omega)]at this;cases this
end Go.Proofs.YtnnhdehmlkkfjaaGreatDoor
namespace Go.Proofs.YtnnhdehmlkkfjaaGreatDoor
open Go Go.RowKit Go.Proofs
theorem qo8{l:List Fld}(h:(qbt l).2=0):(qbt l).1=qav l/\l.length<=100/\∀f∈l,okL f:=by
 unfold qbt at h⊢;by_cases h1:100<l.length
 ·rw[if_pos h1]at h;simp at h
 rw[if_neg h1]at h⊢;cases hf:l.find? (fun f=>decide ((qa6 f).2≠0))with
 |some f=>
  rw[hf]at h;have:=List.find?_some hf;simp only[decide_eq_true_eq]at this;exact absurd h this
 |none=>
  rw[List.find?_eq_none]at hf;exact⟨rfl,by omega,fun f hm=>qul.1 (by have:=hf f hm;simpa using this)⟩
theorem qp2{b:List UInt8}{ns:List Int}{ts:List Fld}(h:(qbh b ns ts).2=0):(∀z∈ns,1<=z)/\(∀g∈ts,qbj g=true)/\(qbh b ns ts).1=encT (qan b ns) ts:=by
 unfold qbh at h⊢;by_cases h1:qcA ns=false
 ·rw[if_pos h1]at h;simp at h
 rw[if_neg h1]at h⊢;by_cases h2:ts.all qbj=false
 ·rw[if_pos h2]at h;simp at h
 rw[if_neg h2];rw[Bool.not_eq_false]at h1 h2;exact⟨fun z hz=>by have:=List.all_eq_true.1 h1 z hz;simpa using this,List.all_eq_true.1 h2,rfl⟩
section
variable (E:Env)(H:Hp)(Q:AV->Hp->Prop)
end
end Go.Proofs.YtnnhdehmlkkfjaaGreatDoor
