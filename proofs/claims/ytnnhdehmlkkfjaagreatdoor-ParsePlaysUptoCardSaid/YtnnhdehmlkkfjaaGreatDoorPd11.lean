/- Part 11 of the texts below the law. -/
import Derived.Test.YtnnhdehmlkkfjaaGreatDoorPd10
set_option maxRecDepth 100000
set_option maxHeartbeats 16000000
set_option linter.unusedVariables false
set_option linter.unusedSimpArgs false
set_option linter.unusedSectionVars false
namespace Go.Proofs.YtnnhdehmlkkfjaaGreatDoor
open Go Go.RowKit
theorem PB.app{K:Hp}{b j:Nat}{p:Prs}(h:PB K b j p)(J:Hp):PB (K++J) b j p:=
 ⟨by rw[zqA h.lt];exact h.row,fun d hd=>by
  obtain⟨q1,q2⟩:=h.dec d hd
  exact⟨q1,by rw[zqA (zqC.1 q2).1];exact q2⟩⟩
theorem OthP.app(K:Hp)(b j:Nat)(d:Bool)(J:Hp):OthP K (K++J) b j d:=⟨by simp,fun i hi _ _=>zqA hi⟩
section
variable (E:Env){K:Hp}{b j:Nat}{p:Prs}(Q:AV->Hp->Prop)
theorem qnZ(hp:PB K b j p)(hQ:Q (.bool (decide (p.minor=0))) K):PC Tryz.prog E 44 [.ptr (some (b,0))] K Q:=by
 have hrow:=hp.row;simp[Prs.av]at hrow;refine qac Tryz.func44 rfl [] [] (by kernel_rfl) (fun hB=>?_);simp[Tryz.ntmps44,Tryz.results44,List.replicate_succ,hrow];exact aQz hB (h6:=hQ)
theorem qdY(hp:PB K b j p)(hl:fsz p.fields+p.fields.length<=16777216)(hQ:Q (.bool (expB p.fields)) K):PC Tryz.prog E 45 [.ptr (some (b,0))] K Q:=by
 have hrow:=hp.row;simp[Prs.av]at hrow;refine qac Tryz.func45 rfl [] [] (by kernel_rfl) (fun hB=>?_);simp[Tryz.ntmps45,Tryz.results45,List.replicate_succ,hrow];refine qjV E _ _ p.fields [69,120,112,101,99,116] (by omega) (by decide) ?_;unfold expB expL at hQ;cases hl:allB p.fields [69,120,112,101,99,116]with
 |nil=>
  rw[hl]at hQ;simp[strs];exact aQz hB (h6:=hQ)
 |cons a r=>
  rw[hl]at hQ;have g:(0:Int)<(r.length:Int)+1:=by omega
  simp[strs,g];exact aQz hB (h6:=hQ)
end
section
variable {K:Hp}{b j:Nat}{p:Prs}{Q:AV->Hp->Prop}{P:Program}{rs:List ResultVar}{fr:List AV}
theorem qdA(hp:PB K b j p)(hB:BndH K.length K)(hlt:b<K.length){ln:Int}
  (hG:PB (K.set b (({p with state:=3,dec:=some (newD p.lb p.lh p.lf)}:Prs).av b (K.length+1))++[[AV.int .i64 2,AV.int .i64 ln],(newD p.lb p.lh p.lf).av]) b (K.length+1) {p with state:=3,dec:=some (newD p.lb p.lh p.lf)}->
   (true=true->(p.dec.isSome=true/\K.length+1=j)\/K.length<=K.length+1)->OthP K (K.set b (({p with state:=3,dec:=some (newD p.lb p.lh p.lf)}:Prs).av b (K.length+1))++[[AV.int .i64 2,AV.int .i64 ln],(newD p.lb p.lh p.lf).av]) b j p.dec.isSome->
   BndH (K.set b (({p with state:=3,dec:=some (newD p.lb p.lh p.lf)}:Prs).av b (K.length+1))++[[AV.int .i64 2,AV.int .i64 ln],(newD p.lb p.lh p.lf).av]).length (K.set b (({p with state:=3,dec:=some (newD p.lb p.lh p.lf)}:Prs).av b (K.length+1))++[[AV.int .i64 2,AV.int .i64 ln],(newD p.lb p.lh p.lf).av])->
   Q (nxV b (some .chunked)) (K.set b (({p with state:=3,dec:=some (newD p.lb p.lh p.lf)}:Prs).av b (K.length+1))++[[AV.int .i64 2,AV.int .i64 ln],(newD p.lb p.lh p.lf).av])) (h1:ares P fr (K.set b (({p with state:=3,dec:=some (newD p.lb p.lh p.lf)}:Prs).av b (K.length+1))++[[AV.int .i64 2,AV.int .i64 ln],(newD p.lb p.lh p.lf).av]) rs=some (nxV b (some .chunked)):=by rfl):
  qbU P rs K.length Q .ret fr (K.set b (({p with state:=3,dec:=some (newD p.lb p.lh p.lf)}:Prs).av b (K.length+1))++[[AV.int .i64 2,AV.int .i64 ln],(newD p.lb p.lh p.lf).av]):=by
 have hbd:BndH (K.length+2) (K.set b (({p with state:=3,dec:=some (newD p.lb p.lh p.lf)}:Prs).av b (K.length+1))++[[AV.int .i64 2,AV.int .i64 ln],(newD p.lb p.lh p.lf).av]):=by
  refine qcU (qdG (qd2 hB (by omega)) _ ?_) ?_
  ·exact Prs.bnd (by omega) (fun _ _=>by omega)
  ·intro X hX y hy;simp only[List.mem_cons,List.not_mem_nil,or_false]at hX;rcases hX with rfl|rfl
   ·simp at hy;rcases hy with rfl|rfl<;>exact .int _ _
   ·exact Dec.bnd _ _ y hy
 have hlen:(K.set b (({p with state:=3,dec:=some (newD p.lb p.lh p.lf)}:Prs).av b (K.length+1))++[[AV.int .i64 2,AV.int .i64 ln],(newD p.lb p.lh p.lf).av]).length=K.length+2:=by simp
 rw[<-hlen]at hbd;refine qbk (v:=nxV b (some .chunked)) h1 (by rw[hlen];omega) hbd (qaY (by rw[hlen];omega) (some .chunked)) (hG ⟨hs1 hlt _ _,fun d hd=>?_⟩ (fun _=> .inr (by omega)) ⟨by rw[hlen];omega,fun i hi h1 _=>by rw[zqA (by simpa using hi),zqF (Ne.symm h1)]⟩ hbd);cases hd;exact⟨by omega,by rw[zqB (by simp)];simp⟩
theorem qdz(hp:PB K b j p)(hB:BndH K.length K)(hlt:b<K.length)(kd ln:Int)
  (hG:PB (K.set b (({p with state:=3,left:=ln}:Prs).av b j)++[[AV.int .i64 kd,AV.int .i64 ln]]) b j {p with state:=3,left:=ln}->
   (p.dec.isSome=true->(p.dec.isSome=true/\j=j)\/K.length<=j)->OthP K (K.set b (({p with state:=3,left:=ln}:Prs).av b j)++[[AV.int .i64 kd,AV.int .i64 ln]]) b j p.dec.isSome->
   BndH (K.set b (({p with state:=3,left:=ln}:Prs).av b j)++[[AV.int .i64 kd,AV.int .i64 ln]]).length (K.set b (({p with state:=3,left:=ln}:Prs).av b j)++[[AV.int .i64 kd,AV.int .i64 ln]])->
   Q (nxV b (some .counted)) (K.set b (({p with state:=3,left:=ln}:Prs).av b j)++[[AV.int .i64 kd,AV.int .i64 ln]])) (h1:ares P fr (K.set b (({p with state:=3,left:=ln}:Prs).av b j)++[[AV.int .i64 kd,AV.int .i64 ln]]) rs=some (nxV b (some .counted)):=by rfl):
  qbU P rs K.length Q .ret fr (K.set b (({p with state:=3,left:=ln}:Prs).av b j)++[[AV.int .i64 kd,AV.int .i64 ln]]):=by
 have hbd:BndH (K.length+1) (K.set b (({p with state:=3,left:=ln}:Prs).av b j)++[[AV.int .i64 kd,AV.int .i64 ln]]):=by
  refine qcU (qd2 (qdG hB _ (hp.bnd (p1:={p with state:=3,left:=ln}) rfl)) (by omega)) ?_;intro X hX y hy;simp only[List.mem_cons,List.not_mem_nil,or_false]at hX;subst hX;simp at hy;rcases hy with rfl|rfl<;>exact .int _ _
 have hlen:(K.set b (({p with state:=3,left:=ln}:Prs).av b j)++[[AV.int .i64 kd,AV.int .i64 ln]]).length=K.length+1:=by simp
 rw[<-hlen]at hbd;exact qbk (v:=nxV b (some .counted)) h1 (by rw[hlen];omega) hbd (qaY (by rw[hlen];omega) (some .counted)) (hG ((hp.put (p1:={p with state:=3,left:=ln}) rfl).app _) (fun h=> .inl ⟨h,rfl⟩) ⟨by rw[hlen];omega,fun i hi h1 _=>by rw[zqA (by simpa using hi),zqF (Ne.symm h1)]⟩ hbd)
end
section
variable (E:Env){b:Nat}
theorem qom(hE:PE E):qpH E b:=by
 intro K j p n Q R hf hn hp hG hR;refine qbJ R (fun _=>False) Tryz.func166 rfl [] [(1,[0,0,0,0,0,0,4,4]),(7,[0,0,0,0,0,0,1]),(6,[0,0,3]),(3,[0,0,3]),(11,[0,0,3]),(15,[0,3]),(17,[0,3])] (by kernel_rfl) (fun E' hpan hS' h0 hF hB=>?_);have hE':=hE.env h0 hF;have hrow:=hp.row;have hlt:=hp.lt;have ha:=hf.a;simp[Prs.av]at hrow;simp[Tryz.ntmps166,Tryz.results166,List.replicate_succ,hrow];refine qch fun J=>?_;refine qnZ E' _ (hp.app J) ⟨rfl,?_⟩;refine qch fun J2=>?_;refine qmz E' _ _ hE'.1.1 p.fields _ (by omega) ⟨rfl,?_⟩;have hSd:qa1 p=qa1 p:=rfl
 conv at hSd=>rhs;unfold qa1
 dsimp only at hSd;obtain⟨kd,ln,e0,hFr⟩:∃kd ln e0,qa9 p.fields (decide (p.minor=0))=(kd,ln,e0):=⟨_,_,_,rfl⟩
 obtain⟨h,hok,e1,hHo⟩:∃h hok e1,qe3 p.fields (decide (p.minor=0))=(h,hok,e1):=⟨_,_,_,rfl⟩
 rw[hFr,hHo]at hSd;simp only at hSd;rw[hFr];have hp1:PB (K++[[AV.int .i64 kd,AV.int .i64 ln]]) b j p:=hp.app _
 have hB1:BndH (K++[[AV.int .i64 kd,AV.int .i64 ln]]).length (K++[[AV.int .i64 kd,AV.int .i64 ln]]):=by
  have hbb:=qd2 (M:=K.length+1) hB (by simp)
  have:=qcU hbb (J:=[[.int .i64 kd,.int .i64 ln]]) (fun X hX y hy=>by
   simp only[List.mem_cons,List.not_mem_nil,or_false]at hX;subst hX;simp at hy
   rcases hy with rfl|rfl<;>exact .int _ _)
  simpa using this
 have hrow1:=hp1.row;simp[Prs.av]at hrow1;have hk1:(K++[[AV.int .i64 kd,.int .i64 ln]])[K.length]? =some [.int .i64 kd,.int .i64 ln]:=by simp
 have hlt1:b<(K++[[AV.int .i64 kd,.int .i64 ln]]).length:=hp1.lt;by_cases z67:e0=67
 ·subst z67;rw[if_pos rfl]at hSd;simp[qal,KP,qag,hrow];refine qaj E' hp1 _ _ ?_;rw[hpan];exact hR p _ _ _ j _ hSd hp1 (fun h=> .inl ⟨h,rfl⟩) (OthP.app ..) hB1
 rw[if_neg z67]at hSd;by_cases z0:e0=0;rotate_left
 ·have z0':(e0==0)=false:=by simpa using z0
  have z67':(e0==67)=false:=by simpa using z67
  rw[if_pos z0]at hSd;simp[qal,KP,qag,hrow,z0',z67'];refine qaj E' hp1 _ _ ?_;rw[hpan];exact hR p _ _ _ j _ hSd hp1 (fun h=> .inl ⟨h,rfl⟩) (OthP.app ..) hB1
 subst z0;rw[if_neg (by simp)]at hSd;simp[qal,KP,qag,hrow,hrow1];refine qnZ E' _ hp1 ?_;simp[qal,KP,qag,hrow1];refine qqI E' _ p.fields _ (by omega) (fun h' ok' e1' hH'=>?_)
 obtain⟨rfl,rfl,rfl⟩:h=h'/\hok=ok'/\e1=e1':=by
  have:=hHo.symm.trans hH';simpa using this
 clear hH';by_cases y1:e1=0;rotate_left
 ·have y1':(e1==0)=false:=by simpa using y1
  have y1'':(e1 !=0)=true:=by simpa using y1
  rw[if_pos y1]at hSd;simp[qal,KP,qag,hrow1,y1',y1''];refine qaj E' hp1 _ _ ?_;rw[hpan];exact hR p _ _ _ j _ hSd hp1 (fun h=> .inl ⟨h,rfl⟩) (OthP.app ..) hB1
 subst y1;rw[if_neg (by simp)]at hSd;by_cases hh:h=[]
 ·rw[if_neg (fun x=>x.1 hh)]at hSd;have hS:=hSd;clear hSd;simp[qal,KP,qag,hrow1,hh];refine qdY E' _ hp1 (by omega) ?_;cases hexp:expB p.fields with
  |false=>
   have hnil:allB p.fields [69,120,112,101,99,116]=[]:=by unfold expB expL at hexp;simpa using hexp
   rw[if_neg (fun h=>h.1 hnil)]at hS;simp[qal,KP];by_cases hbig:p.lb<ln
   ·rw[if_pos hbig]at hS;simp[qal,KP,hrow1,hk1,hbig,hs0 hlt];refine qaj E' hp1 _ _ ?_;rw[hpan];exact hR p _ _ _ j _ hS hp1 (fun h=> .inl ⟨h,rfl⟩) (OthP.app ..) hB1
   ·rw[if_neg hbig]at hS;have hbig':¬p.lb<ln:=hbig;by_cases hk2:kd=2
    ·rw[if_pos hk2]at hS;subst hk2;simp[qal,KP,hrow1,hk1,hbig',hs0 hlt,hs1 hlt,hs2 hlt,hs3 hlt,hs4 hlt,hs5 hlt,-List.append_assoc,zqB];refine qiD E' _ _ _ _ _ (fun _ _ _=>?_) (fun h=>by have:=hf.lb;have:=hf.lh;have:=hf.lf;omega);simp[qal,KP,hrow1,hs0 hlt,hs1 hlt,hs2 hlt,hs3 hlt,hs4 hlt,hs5 hlt];exact qdA hp hB hlt (hG _ (some .chunked) (K.length+1) _ hS)
    ·rw[if_neg hk2]at hS;have hk2':(kd==2)=false:=by simpa using hk2
     by_cases hpos:0<ln
     ·rw[if_pos hpos]at hS;simp[qal,KP,hrow1,hk1,hbig',hk2',hpos,hs0 hlt,hs1 hlt,hs2 hlt,hs3 hlt,hs4 hlt,hs5 hlt];exact qdz hp hB hlt kd ln (hG _ (some .counted) j _ hS)
     ·rw[if_neg hpos]at hS;simp[qal,KP,hrow1,hk1,hbig',hk2',hpos,hs0 hlt,hs1 hlt,hs2 hlt,hs3 hlt,hs4 hlt,hs5 hlt];have h3:PB (K.set b (({p with state:=3}:Prs).av b j)++[[AV.int .i64 kd,AV.int .i64 ln]]) b j {p with state:=3}:=(hp.put (p1:={p with state:=3}) rfl).app _;refine qfy E' (p:={p with state:=3}) h3 (by have:=hf.b;simp only;omega) (fun K1 g1 g2 g3=>?_);simp[qal,KP];unfold qcK at hS;have hlK:K1.length=K.length+1:=by rw[g2];simp
      exact qbk (v:= .raw .nilFunc) rfl (by omega) g3 (.raw _) (hG _ none j _ hS g1 (fun h=> .inl ⟨h,rfl⟩) ⟨by omega,fun i hi h1 _=>by rw[g2,zqF (Ne.symm h1),zqA (by simpa using hi),zqF (Ne.symm h1)]⟩ g3)
  |true=>
   have hnil:allB p.fields [69,120,112,101,99,116]≠[]:=by unfold expB expL at hexp;simpa using hexp
   simp[qal,KP,hrow1];refine qgj E' _ _ hE'.1.1 p.fields [69,120,112,101,99,116] (by omega) (by decide) ?_;obtain⟨tl,te,htk⟩:∃tl te,qbQ p.fields [69,120,112,101,99,116]=(tl,te):=⟨_,_,rfl⟩
   rw[htk]at hS⊢;simp only at hS;by_cases hte:te=0
   ·subst hte;rcases tl with _|⟨t0,_|⟨t1,tr⟩⟩
    ·rw[if_pos ⟨hnil,.inr (by simp)⟩]at hS;simp[qal,KP,strs];refine qaj E' hp1 _ _ ?_;rw[hpan];exact hR p _ _ _ j _ hS hp1 (fun h=> .inl ⟨h,rfl⟩) (OthP.app ..) hB1
    ·have hat0:lat (strs [t0]) 0=some [AV.str t0]:=rfl;by_cases ht0:t0=[49,48,48,45,99,111,110,116,105,110,117,101]
     ·subst ht0;rw[if_neg (fun h=>h.2.elim (fun h=>h rfl) (fun h=>h rfl))]at hS;simp[qal,KP,hat0];by_cases hbig:p.lb<ln
      ·rw[if_pos hbig]at hS;simp[qal,KP,hrow1,hk1,hbig,hs0 hlt];refine qaj E' hp1 _ _ ?_;rw[hpan];exact hR p _ _ _ j _ hS hp1 (fun h=> .inl ⟨h,rfl⟩) (OthP.app ..) hB1
      ·rw[if_neg hbig]at hS;have hbig':¬p.lb<ln:=hbig;by_cases hk2:kd=2
       ·rw[if_pos hk2]at hS;subst hk2;simp[qal,KP,hrow1,hk1,hbig',hs0 hlt,hs1 hlt,hs2 hlt,hs3 hlt,hs4 hlt,hs5 hlt,-List.append_assoc,zqB];refine qiD E' _ _ _ _ _ (fun _ _ _=>?_) (fun h=>by have:=hf.lb;have:=hf.lh;have:=hf.lf;omega);simp[qal,KP,hrow1,hs0 hlt,hs1 hlt,hs2 hlt,hs3 hlt,hs4 hlt,hs5 hlt];exact qdA hp hB hlt (hG _ (some .chunked) (K.length+1) _ hS)
       ·rw[if_neg hk2]at hS;have hk2':(kd==2)=false:=by simpa using hk2
        by_cases hpos:0<ln
        ·rw[if_pos hpos]at hS;simp[qal,KP,hrow1,hk1,hbig',hk2',hpos,hs0 hlt,hs1 hlt,hs2 hlt,hs3 hlt,hs4 hlt,hs5 hlt];exact qdz hp hB hlt kd ln (hG _ (some .counted) j _ hS)
        ·rw[if_neg hpos]at hS;simp[qal,KP,hrow1,hk1,hbig',hk2',hpos,hs0 hlt,hs1 hlt,hs2 hlt,hs3 hlt,hs4 hlt,hs5 hlt];have h3:PB (K.set b (({p with state:=3}:Prs).av b j)++[[AV.int .i64 kd,AV.int .i64 ln]]) b j {p with state:=3}:=(hp.put (p1:={p with state:=3}) rfl).app _;refine qfy E' (p:={p with state:=3}) h3 (by have:=hf.b;simp only;omega) (fun K1 g1 g2 g3=>?_);simp[qal,KP];unfold qcK at hS;have hlK:K1.length=K.length+1:=by rw[g2];simp
         exact qbk (v:= .raw .nilFunc) rfl (by omega) g3 (.raw _) (hG _ none j _ hS g1 (fun h=> .inl ⟨h,rfl⟩) ⟨by omega,fun i hi h1 _=>by rw[g2,zqF (Ne.symm h1),zqA (by simpa using hi),zqF (Ne.symm h1)]⟩ g3)
     ·rw[if_pos ⟨hnil,.inr (by simpa using ht0)⟩]at hS;have ht0':(t0==[49,48,48,45,99,111,110,116,105,110,117,101])=false:=by simpa using ht0
      have ht0'':(t0 !=[49,48,48,45,99,111,110,116,105,110,117,101])=true:=by simpa using ht0
      simp[qal,KP,hat0,ht0',ht0''];refine qaj E' hp1 _ _ ?_;rw[hpan];exact hR p _ _ _ j _ hS hp1 (fun h=> .inl ⟨h,rfl⟩) (OthP.app ..) hB1
    ·rw[if_pos ⟨hnil,.inr (by simp)⟩]at hS;have g1:¬((tr.length:Int)+1+1)=1:=by omega
     have g2:((tr.length:Int)+1+1 !=1)=true:=by simpa using g1
     simp[qal,KP,strs,g1,g2];refine qaj E' hp1 _ _ ?_;rw[hpan];exact hR p _ _ _ j _ hS hp1 (fun h=> .inl ⟨h,rfl⟩) (OthP.app ..) hB1
   ·rw[if_pos ⟨hnil,.inl hte⟩]at hS;have hte':(te==0)=false:=by simpa using hte
    have hte2:(te !=0)=true:=by simpa using hte
    simp[qal,KP,hte',hte2];refine qaj E' hp1 _ _ ?_;rw[hpan];exact hR p _ _ _ j _ hS hp1 (fun h=> .inl ⟨h,rfl⟩) (OthP.app ..) hB1
 ·have hh':(h !=[])=true:=by simpa using hh
  simp[qal,KP,qag,hrow1,hh']
  have hhl:h.length<=4194304:=by
   have:∀v∈allB p.fields [72,111,115,116],v.length<=fsz p.fields:=qff _ _;unfold qe3 at hHo;rcases hal:allB p.fields [72,111,115,116]with _|⟨v,_|⟨w,t⟩⟩
   ·rw[hal]at hHo;dsimp only at hHo;split at hHo<;>(cases hHo;try exact absurd rfl hh)
   ·have:=this v (by rw[hal];exact .head _);rw[hal]at hHo;dsimp only at hHo;split at hHo
    ·cases hHo
    ·cases hHo;omega
   ·rw[hal]at hHo;dsimp only at hHo;cases hHo
  refine qcV E' _ hE' h (by omega) (fun hx px ex hA _ _ _=>?_);rw[hA]at hSd;simp only at hSd;by_cases x0:ex=0;rotate_left
  ·have x0':(ex==0)=false:=by simpa using x0
   have x0'':(ex !=0)=true:=by simpa using x0
   rw[if_pos ⟨hh,x0⟩]at hSd;simp[qal,KP,x0',x0''];refine qaj E' hp1 _ _ ?_;rw[hpan];exact hR p _ _ _ j _ hSd hp1 (fun h=> .inl ⟨h,rfl⟩) (OthP.app ..) hB1
  subst x0;rw[if_neg (fun x=>x.2 rfl)]at hSd;have hS:=hSd;clear hSd;simp[qal,KP];refine qdY E' _ hp1 (by omega) ?_;cases hexp:expB p.fields with
  |false=>
   have hnil:allB p.fields [69,120,112,101,99,116]=[]:=by unfold expB expL at hexp;simpa using hexp
   rw[if_neg (fun h=>h.1 hnil)]at hS;simp[qal,KP];by_cases hbig:p.lb<ln
   ·rw[if_pos hbig]at hS;simp[qal,KP,hrow1,hk1,hbig,hs0 hlt];refine qaj E' hp1 _ _ ?_;rw[hpan];exact hR p _ _ _ j _ hS hp1 (fun h=> .inl ⟨h,rfl⟩) (OthP.app ..) hB1
   ·rw[if_neg hbig]at hS;have hbig':¬p.lb<ln:=hbig;by_cases hk2:kd=2
    ·rw[if_pos hk2]at hS;subst hk2;simp[qal,KP,hrow1,hk1,hbig',hs0 hlt,hs1 hlt,hs2 hlt,hs3 hlt,hs4 hlt,hs5 hlt,-List.append_assoc,zqB];refine qiD E' _ _ _ _ _ (fun _ _ _=>?_) (fun h=>by have:=hf.lb;have:=hf.lh;have:=hf.lf;omega);simp[qal,KP,hrow1,hs0 hlt,hs1 hlt,hs2 hlt,hs3 hlt,hs4 hlt,hs5 hlt];exact qdA hp hB hlt (hG _ (some .chunked) (K.length+1) _ hS)
    ·rw[if_neg hk2]at hS;have hk2':(kd==2)=false:=by simpa using hk2
     by_cases hpos:0<ln
     ·rw[if_pos hpos]at hS;simp[qal,KP,hrow1,hk1,hbig',hk2',hpos,hs0 hlt,hs1 hlt,hs2 hlt,hs3 hlt,hs4 hlt,hs5 hlt];exact qdz hp hB hlt kd ln (hG _ (some .counted) j _ hS)
     ·rw[if_neg hpos]at hS;simp[qal,KP,hrow1,hk1,hbig',hk2',hpos,hs0 hlt,hs1 hlt,hs2 hlt,hs3 hlt,hs4 hlt,hs5 hlt];have h3:PB (K.set b (({p with state:=3}:Prs).av b j)++[[AV.int .i64 kd,AV.int .i64 ln]]) b j {p with state:=3}:=(hp.put (p1:={p with state:=3}) rfl).app _;refine qfy E' (p:={p with state:=3}) h3 (by have:=hf.b;simp only;omega) (fun K1 g1 g2 g3=>?_);simp[qal,KP];unfold qcK at hS;have hlK:K1.length=K.length+1:=by rw[g2];simp
      exact qbk (v:= .raw .nilFunc) rfl (by omega) g3 (.raw _) (hG _ none j _ hS g1 (fun h=> .inl ⟨h,rfl⟩) ⟨by omega,fun i hi h1 _=>by rw[g2,zqF (Ne.symm h1),zqA (by simpa using hi),zqF (Ne.symm h1)]⟩ g3)
  |true=>
   have hnil:allB p.fields [69,120,112,101,99,116]≠[]:=by unfold expB expL at hexp;simpa using hexp
   simp[qal,KP,hrow1];refine qgj E' _ _ hE'.1.1 p.fields [69,120,112,101,99,116] (by omega) (by decide) ?_;obtain⟨tl,te,htk⟩:∃tl te,qbQ p.fields [69,120,112,101,99,116]=(tl,te):=⟨_,_,rfl⟩
   rw[htk]at hS⊢;simp only at hS;by_cases hte:te=0
   ·subst hte;rcases tl with _|⟨t0,_|⟨t1,tr⟩⟩
    ·rw[if_pos ⟨hnil,.inr (by simp)⟩]at hS;simp[qal,KP,strs];refine qaj E' hp1 _ _ ?_;rw[hpan];exact hR p _ _ _ j _ hS hp1 (fun h=> .inl ⟨h,rfl⟩) (OthP.app ..) hB1
    ·have hat0:lat (strs [t0]) 0=some [AV.str t0]:=rfl;by_cases ht0:t0=[49,48,48,45,99,111,110,116,105,110,117,101]
     ·subst ht0;rw[if_neg (fun h=>h.2.elim (fun h=>h rfl) (fun h=>h rfl))]at hS;simp[qal,KP,hat0];by_cases hbig:p.lb<ln
      ·rw[if_pos hbig]at hS;simp[qal,KP,hrow1,hk1,hbig,hs0 hlt];refine qaj E' hp1 _ _ ?_;rw[hpan];exact hR p _ _ _ j _ hS hp1 (fun h=> .inl ⟨h,rfl⟩) (OthP.app ..) hB1
      ·rw[if_neg hbig]at hS;have hbig':¬p.lb<ln:=hbig;by_cases hk2:kd=2
       ·rw[if_pos hk2]at hS;subst hk2;simp[qal,KP,hrow1,hk1,hbig',hs0 hlt,hs1 hlt,hs2 hlt,hs3 hlt,hs4 hlt,hs5 hlt,-List.append_assoc,zqB];refine qiD E' _ _ _ _ _ (fun _ _ _=>?_) (fun h=>by have:=hf.lb;have:=hf.lh;have:=hf.lf;omega);simp[qal,KP,hrow1,hs0 hlt,hs1 hlt,hs2 hlt,hs3 hlt,hs4 hlt,hs5 hlt];exact qdA hp hB hlt (hG _ (some .chunked) (K.length+1) _ hS)
       ·rw[if_neg hk2]at hS;have hk2':(kd==2)=false:=by simpa using hk2
        by_cases hpos:0<ln
        ·rw[if_pos hpos]at hS;simp[qal,KP,hrow1,hk1,hbig',hk2',hpos,hs0 hlt,hs1 hlt,hs2 hlt,hs3 hlt,hs4 hlt,hs5 hlt];exact qdz hp hB hlt kd ln (hG _ (some .counted) j _ hS)
        ·rw[if_neg hpos]at hS;simp[qal,KP,hrow1,hk1,hbig',hk2',hpos,hs0 hlt,hs1 hlt,hs2 hlt,hs3 hlt,hs4 hlt,hs5 hlt];have h3:PB (K.set b (({p with state:=3}:Prs).av b j)++[[AV.int .i64 kd,AV.int .i64 ln]]) b j {p with state:=3}:=(hp.put (p1:={p with state:=3}) rfl).app _;refine qfy E' (p:={p with state:=3}) h3 (by have:=hf.b;simp only;omega) (fun K1 g1 g2 g3=>?_);simp[qal,KP];unfold qcK at hS;have hlK:K1.length=K.length+1:=by rw[g2];simp
         exact qbk (v:= .raw .nilFunc) rfl (by omega) g3 (.raw _) (hG _ none j _ hS g1 (fun h=> .inl ⟨h,rfl⟩) ⟨by omega,fun i hi h1 _=>by rw[g2,zqF (Ne.symm h1),zqA (by simpa using hi),zqF (Ne.symm h1)]⟩ g3)
     ·rw[if_pos ⟨hnil,.inr (by simpa using ht0)⟩]at hS;have ht0':(t0==[49,48,48,45,99,111,110,116,105,110,117,101])=false:=by simpa using ht0
      have ht0'':(t0 !=[49,48,48,45,99,111,110,116,105,110,117,101])=true:=by simpa using ht0
      simp[qal,KP,hat0,ht0',ht0''];refine qaj E' hp1 _ _ ?_;rw[hpan];exact hR p _ _ _ j _ hS hp1 (fun h=> .inl ⟨h,rfl⟩) (OthP.app ..) hB1
    ·rw[if_pos ⟨hnil,.inr (by simp)⟩]at hS;have g1:¬((tr.length:Int)+1+1)=1:=by omega
     have g2:((tr.length:Int)+1+1 !=1)=true:=by simpa using g1
     simp[qal,KP,strs,g1,g2];refine qaj E' hp1 _ _ ?_;rw[hpan];exact hR p _ _ _ j _ hS hp1 (fun h=> .inl ⟨h,rfl⟩) (OthP.app ..) hB1
   ·rw[if_pos ⟨hnil,.inl hte⟩]at hS;have hte':(te==0)=false:=by simpa using hte
    have hte2:(te !=0)=true:=by simpa using hte
    simp[qal,KP,hte',hte2];refine qaj E' hp1 _ _ ?_;rw[hpan];exact hR p _ _ _ j _ hS hp1 (fun h=> .inl ⟨h,rfl⟩) (OthP.app ..) hB1
end
theorem qlC{k:Nat}{c:UInt8}(h:qaJ k c=true)(hk:k=5\/k=7):48<=c.toNat/\c.toNat<=57:=by
 unfold qaJ at h;rw[if_neg (by omega),if_pos hk]at h;simpa using h
theorem u8w(c:UInt8)(h:48<=c.toNat/\c.toNat<=57):IntKind.u8.wrap ((c.toNat:Int)-48)=c.toNat-48:=by rw[IntKind.wrap_u8];omega
section
variable (E:Env){b:Nat}
theorem qsD(hE:PE E)(K:Hp)(j:Nat)(p:Prs)(c:UInt8)(n:Nat)(Q:AV->Hp->Prop)(R:Value->Hp->Prop)(hf:fitP n p)(hn:n<4194304)(hnx:p.nx=some .line)(hp:PB K b j p)
 (hG:∀p1 nx j1 K1,qcd p c= .go p1 nx->PB K1 b j1 p1->(p1.dec.isSome=true->(p.dec.isSome=true/\j1=j)\/K.length<=j1)->OthP K K1 b j p.dec.isSome->BndH K1.length K1->Q (nxV b nx) K1)
 (hR:∀p1 st err at_ j1 K1,qcd p c= .bad p1 st err at_->PB K1 b j1 p1->(p1.dec.isSome=true->(p.dec.isSome=true/\j1=j)\/K.length<=j1)->OthP K K1 b j p.dec.isSome->BndH K1.length K1->R (qcj st err at_) K1):
 PX Tryz.prog E 119 [.ptr (some (b,0)),.int .u8 (c.toNat:Int)] K Q R:=by
 refine qbJ R (fun _=>False) Tryz.func119 rfl [60] [(15,[0,3]),(22,[0,3]),(23,[0,0,0,0,0,0,0,0,0,0,4]),(25,[0,0,3])] (by kernel_rfl) (fun E' hpan hS' h0 hF hB=>?_);have hE':=hE.env h0 hF;have hrow:=hp.row;have hlt:=hp.lt;have ha:=hf.a;have hu:=hf.used;have hln:=hf.ln hnx;simp[Prs.av]at hrow;obtain⟨N,hN⟩:=exz (p.text.length);have m1:p.text.length<=140737488355327:=by omega
 have m3:p.text.length<=maxLen:=by unfold maxLen;omega
 have m4:p.text.length+1<=maxLen:=by unfold maxLen;omega
 rw[hN]at m1 m3 m4;have bad:qaJ N c=false->R (qcj 400 111 p.used) K:=fun h=>hR p _ _ _ j K (by unfold qcd;rw[hN,if_pos h];rfl) hp (fun h=> .inl ⟨h,rfl⟩) (OthP.refl ..) hB
 have more:qaJ N c=true->N<9->Q (nxV b (some .line)) (K.set b (({p with text:=p.text++[c]}:Prs).av b j)):=fun h h9=>
  hG {p with text:=p.text++[c]} (some .line) j _ (by unfold qcd;rw[hN,if_neg (by rw[h];simp),if_pos h9]) (hp.put (p1:={p with text:=p.text++[c]}) rfl) (fun h=> .inl ⟨h,rfl⟩) (OthP.put ..) (qbf hB b (hp.bnd (p1:={p with text:=p.text++[c]}) rfl))
 have hc0:=c.toNat_lt;rcases(by omega:N<5\/(N=5\/N=7)\/N=6\/N=8\/N=9\/9<N)with hC|hC|hC|hC|hC|hC
 ·obtain⟨x,hx⟩:∃x,([72,84,84,80,47]:List UInt8)[N]? =some x:=⟨_,zqD (by simpa using hC)⟩
  have la:=qaq hx;have g1:(N:Int)<5:=by omega
  have g9:(N:Int)<9:=by omega
  by_cases hcx:c=x
  ·have hgg:qaJ N c=true:=by unfold qaJ;rw[if_pos hC,hx,hcx];simp
   rw[<-hcx]at la;rcases(by omega:c.toNat<48\/(48<=c.toNat/\c.toNat<=57)\/57<c.toNat)with hr|hr|hr
   ·have d1:¬(48:Int)<=c.toNat:=by omega
    have d2:(c.toNat:Int)<=57:=by omega
    simp[Tryz.ntmps119,Tryz.results119,List.replicate_succ,hrow,hN,d1,d2,m1,m3,m4,hs0 hlt,hs1 hlt,hs2 hlt,hs3 hlt,hs4 hlt,hs5 hlt,qaW,g1,g9,la];exact qaG hB hlt (qbF b j {p with text:=p.text++[c]}) rfl (hp.bnd (p1:={p with text:=p.text++[c]}) rfl) (qaY hlt (some .line)) (more hgg (by omega))
   ·have d1:(48:Int)<=c.toNat:=by omega
    have d2:(c.toNat:Int)<=57:=by omega
    simp[Tryz.ntmps119,Tryz.results119,List.replicate_succ,hrow,hN,d1,d2,m1,m3,m4,hs0 hlt,hs1 hlt,hs2 hlt,hs3 hlt,hs4 hlt,hs5 hlt,qaW,g1,g9,la];exact qaG hB hlt (qbF b j {p with text:=p.text++[c]}) rfl (hp.bnd (p1:={p with text:=p.text++[c]}) rfl) (qaY hlt (some .line)) (more hgg (by omega))
   ·have d1:(48:Int)<=c.toNat:=by omega
    have d2:¬(c.toNat:Int)<=57:=by omega
    simp[Tryz.ntmps119,Tryz.results119,List.replicate_succ,hrow,hN,d1,d2,m1,m3,m4,hs0 hlt,hs1 hlt,hs2 hlt,hs3 hlt,hs4 hlt,hs5 hlt,qaW,g1,g9,la];exact qaG hB hlt (qbF b j {p with text:=p.text++[c]}) rfl (hp.bnd (p1:={p with text:=p.text++[c]}) rfl) (qaY hlt (some .line)) (more hgg (by omega))
  ·have hgb:qaJ N c=false:=by unfold qaJ;rw[if_pos hC,hx];simpa using fun e=>hcx e.symm
   have hcx2:((c.toNat:Int)==(x.toNat:Int))=false:=by rw[beq_eq_false_iff_ne];intro e;exact hcx (UInt8.toNat_inj.1 (by omega))
   rcases(by omega:c.toNat<48\/(48<=c.toNat/\c.toNat<=57)\/57<c.toNat)with hr|hr|hr
   ·have d1:¬(48:Int)<=c.toNat:=by omega
    have d2:(c.toNat:Int)<=57:=by omega
    simp[Tryz.ntmps119,Tryz.results119,List.replicate_succ,hrow,hN,d1,d2,g1,la,hcx2];refine qaj E' hp _ _ ?_;rw[hpan];exact bad hgb
   ·have d1:(48:Int)<=c.toNat:=by omega
    have d2:(c.toNat:Int)<=57:=by omega
    simp[Tryz.ntmps119,Tryz.results119,List.replicate_succ,hrow,hN,d1,d2,g1,la,hcx2];refine qaj E' hp _ _ ?_;rw[hpan];exact bad hgb
   ·have d1:(48:Int)<=c.toNat:=by omega
    have d2:¬(c.toNat:Int)<=57:=by omega
    simp[Tryz.ntmps119,Tryz.results119,List.replicate_succ,hrow,hN,d1,d2,g1,la,hcx2];refine qaj E' hp _ _ ?_;rw[hpan];exact bad hgb
 ·have g1:¬(N:Int)<5:=by omega
  have g9:(N:Int)<9:=by omega
  rcases hC with hC|hC
  ·have hNv:(N:Int)=5:=by omega
   rcases(by omega:c.toNat<48\/(48<=c.toNat/\c.toNat<=57)\/57<c.toNat)with hr|hr|hr
   ·have d1:¬(48:Int)<=c.toNat:=by omega
    have d2:(c.toNat:Int)<=57:=by omega
    have hgb:qaJ N c=false:=by unfold qaJ;rw[if_neg (by omega),if_pos (by omega)];simp;omega
    simp[Tryz.ntmps119,Tryz.results119,List.replicate_succ,hrow,hN,d1,d2,hNv];refine qaj E' hp _ _ ?_;rw[hpan];exact bad hgb
   ·have d1:(48:Int)<=c.toNat:=by omega
    have d2:(c.toNat:Int)<=57:=by omega
    have hgg:qaJ N c=true:=by unfold qaJ;rw[if_neg (by omega),if_pos (by omega)];simpa using hr
    simp[Tryz.ntmps119,Tryz.results119,List.replicate_succ,hrow,hN,d1,d2,m1,m3,m4,hs0 hlt,hs1 hlt,hs2 hlt,hs3 hlt,hs4 hlt,hs5 hlt,qaW,hNv];exact qaG hB hlt (qbF b j {p with text:=p.text++[c]}) rfl (hp.bnd (p1:={p with text:=p.text++[c]}) rfl) (qaY hlt (some .line)) (more hgg (by omega))
   ·have d1:(48:Int)<=c.toNat:=by omega
    have d2:¬(c.toNat:Int)<=57:=by omega
    have hgb:qaJ N c=false:=by unfold qaJ;rw[if_neg (by omega),if_pos (by omega)];simp;omega
    simp[Tryz.ntmps119,Tryz.results119,List.replicate_succ,hrow,hN,d1,d2,hNv];refine qaj E' hp _ _ ?_;rw[hpan];exact bad hgb
  ·have hNv:(N:Int)=7:=by omega
   rcases(by omega:c.toNat<48\/(48<=c.toNat/\c.toNat<=57)\/57<c.toNat)with hr|hr|hr
   ·have d1:¬(48:Int)<=c.toNat:=by omega
    have d2:(c.toNat:Int)<=57:=by omega
    have hgb:qaJ N c=false:=by unfold qaJ;rw[if_neg (by omega),if_pos (by omega)];simp;omega
    simp[Tryz.ntmps119,Tryz.results119,List.replicate_succ,hrow,hN,d1,d2,hNv];refine qaj E' hp _ _ ?_;rw[hpan];exact bad hgb
   ·have d1:(48:Int)<=c.toNat:=by omega
    have d2:(c.toNat:Int)<=57:=by omega
    have hgg:qaJ N c=true:=by unfold qaJ;rw[if_neg (by omega),if_pos (by omega)];simpa using hr
    simp[Tryz.ntmps119,Tryz.results119,List.replicate_succ,hrow,hN,d1,d2,m1,m3,m4,hs0 hlt,hs1 hlt,hs2 hlt,hs3 hlt,hs4 hlt,hs5 hlt,qaW,hNv];exact qaG hB hlt (qbF b j {p with text:=p.text++[c]}) rfl (hp.bnd (p1:={p with text:=p.text++[c]}) rfl) (qaY hlt (some .line)) (more hgg (by omega))
   ·have d1:(48:Int)<=c.toNat:=by omega
    have d2:¬(c.toNat:Int)<=57:=by omega
    have hgb:qaJ N c=false:=by unfold qaJ;rw[if_neg (by omega),if_pos (by omega)];simp;omega
    simp[Tryz.ntmps119,Tryz.results119,List.replicate_succ,hrow,hN,d1,d2,hNv];refine qaj E' hp _ _ ?_;rw[hpan];exact bad hgb
 ·have hNv:(N:Int)=6:=by omega
  by_cases hcx:c=46
  ·have hgg:qaJ N c=true:=by unfold qaJ;rw[if_neg (by omega),if_neg (by omega),if_pos hC,hcx];simp
   have g9:(N:Int)<9:=by omega
   have d1:¬(48:Int)<=c.toNat:=by rw[hcx];decide
   have d2:(c.toNat:Int)<=57:=by rw[hcx];decide
   have d3:(c.toNat:Int)=46:=by rw[hcx];decide
   have e10:bts p.text++[[AV.int .u8 46]]=bts (p.text++[c]):=by rw[hcx];exact qaW p.text 46
   simp[Tryz.ntmps119,Tryz.results119,List.replicate_succ,hrow,hN,d1,d2,m1,m3,m4,hs0 hlt,hs1 hlt,hs2 hlt,hs3 hlt,hs4 hlt,hs5 hlt,qaW,hNv,d3,e10];exact qaG hB hlt (qbF b j {p with text:=p.text++[c]}) rfl (hp.bnd (p1:={p with text:=p.text++[c]}) rfl) (qaY hlt (some .line)) (more hgg (by omega))
  ·have hgb:qaJ N c=false:=by unfold qaJ;rw[if_neg (by omega),if_neg (by omega),if_pos hC];simpa using hcx
   have hb:=(qaw c 46 (by decide) 46 rfl hcx).1;rcases(by omega:c.toNat<48\/(48<=c.toNat/\c.toNat<=57)\/57<c.toNat)with hr|hr|hr
   ·have d1:¬(48:Int)<=c.toNat:=by omega
    have d2:(c.toNat:Int)<=57:=by omega
    simp[Tryz.ntmps119,Tryz.results119,List.replicate_succ,hrow,hN,d1,d2,hNv,hb];refine qaj E' hp _ _ ?_;rw[hpan];exact bad hgb
   ·have d1:(48:Int)<=c.toNat:=by omega
    have d2:(c.toNat:Int)<=57:=by omega
    simp[Tryz.ntmps119,Tryz.results119,List.replicate_succ,hrow,hN,d1,d2,hNv,hb];refine qaj E' hp _ _ ?_;rw[hpan];exact bad hgb
   ·have d1:(48:Int)<=c.toNat:=by omega
    have d2:¬(c.toNat:Int)<=57:=by omega
    simp[Tryz.ntmps119,Tryz.results119,List.replicate_succ,hrow,hN,d1,d2,hNv,hb];refine qaj E' hp _ _ ?_;rw[hpan];exact bad hgb
 ·have hNv:(N:Int)=8:=by omega
  by_cases hcx:c=13
  ·have hgg:qaJ N c=true:=by unfold qaJ;rw[if_neg (by omega),if_neg (by omega),if_neg (by omega),if_pos hC,hcx];simp
   have g9:(N:Int)<9:=by omega
   have d1:¬(48:Int)<=c.toNat:=by rw[hcx];decide
   have d2:(c.toNat:Int)<=57:=by rw[hcx];decide
   have d3:(c.toNat:Int)=13:=by rw[hcx];decide
   have e10:bts p.text++[[AV.int .u8 13]]=bts (p.text++[c]):=by rw[hcx];exact qaW p.text 13
   simp[Tryz.ntmps119,Tryz.results119,List.replicate_succ,hrow,hN,d1,d2,m1,m3,m4,hs0 hlt,hs1 hlt,hs2 hlt,hs3 hlt,hs4 hlt,hs5 hlt,qaW,hNv,d3,e10];exact qaG hB hlt (qbF b j {p with text:=p.text++[c]}) rfl (hp.bnd (p1:={p with text:=p.text++[c]}) rfl) (qaY hlt (some .line)) (more hgg (by omega))
  ·have hgb:qaJ N c=false:=by unfold qaJ;rw[if_neg (by omega),if_neg (by omega),if_neg (by omega),if_pos hC];simpa using hcx
   have hb:=(qaw c 13 (by decide) 13 rfl hcx).1;rcases(by omega:c.toNat<48\/(48<=c.toNat/\c.toNat<=57)\/57<c.toNat)with hr|hr|hr
   ·have d1:¬(48:Int)<=c.toNat:=by omega
    have d2:(c.toNat:Int)<=57:=by omega
    simp[Tryz.ntmps119,Tryz.results119,List.replicate_succ,hrow,hN,d1,d2,hNv,hb];refine qaj E' hp _ _ ?_;rw[hpan];exact bad hgb
   ·have d1:(48:Int)<=c.toNat:=by omega
    have d2:(c.toNat:Int)<=57:=by omega
    simp[Tryz.ntmps119,Tryz.results119,List.replicate_succ,hrow,hN,d1,d2,hNv,hb];refine qaj E' hp _ _ ?_;rw[hpan];exact bad hgb
   ·have d1:(48:Int)<=c.toNat:=by omega
    have d2:¬(c.toNat:Int)<=57:=by omega
    simp[Tryz.ntmps119,Tryz.results119,List.replicate_succ,hrow,hN,d1,d2,hNv,hb];refine qaj E' hp _ _ ?_;rw[hpan];exact bad hgb
 ·have hNv:(N:Int)=9:=by omega
  by_cases hcx:c=10
  ·have hgg:qaJ N c=true:=by unfold qaJ;rw[if_neg (by omega),if_neg (by omega),if_neg (by omega),if_neg (by omega),if_pos hC,hcx];simp
   subst hcx;have e10:bts p.text++[[AV.int .u8 10]]=bts (p.text++[10]):=qaW p.text 10;obtain⟨x5,hx5⟩:∃x,p.text[5]? =some x:=⟨_,zqD (by omega)⟩
   obtain⟨x7,hx7⟩:∃x,p.text[7]? =some x:=⟨_,zqD (by omega)⟩
   have r5:=qlC (hln 5 x5 hx5) (.inl rfl);have r7:=qlC (hln 7 x7 hx7) (.inr rfl)
   have la5:lat (bts (p.text++[10])) 5=some [.int .u8 (x5.toNat:Int)]:=by
    have:(p.text++[10])[5]? =some x5:=by rw[zqA (by omega)];exact hx5
    unfold lat bts;rw[List.getElem?_map,this];rfl
   have la7:lat (bts (p.text++[10])) 7=some [.int .u8 (x7.toNat:Int)]:=by
    have:(p.text++[10])[7]? =some x7:=by rw[zqA (by omega)];exact hx7
    unfold lat bts;rw[List.getElem?_map,this];rfl
   have gd5:p.text.getD 5 0=x5:=by simp[List.getD,hx5]
   have gd7:p.text.getD 7 0=x7:=by simp[List.getD,hx7]
   have hV:qcd p 10=(let p1:Prs:={p with text:=[],major:=(x5.toNat:Int)-48,minor:=(x7.toNat:Int)-48}
     if p1.major≠1\/1<p1.minor then qao p1 505 117 else if tgtE p.meth p.targ≠0 then qao p1 400 (tgtE p.meth p.targ)else .go {p1 with state:=2,begin_:=p.used+1} (some .fields)):=by
    unfold qcd;rw[hN,if_neg (by rw[hgg];simp),if_neg (by omega),gd5,gd7]
   obtain⟨ma,hma⟩:∃m:Int,(x5.toNat:Int)-48=m:=⟨_,rfl⟩
   obtain⟨mi,hmi⟩:∃m:Int,(x7.toNat:Int)-48=m:=⟨_,rfl⟩
   rw[hma,hmi]at hV;dsimp only at hV;have w5:IntKind.u8.wrap ((x5.toNat:Int)-48)=ma:=(u8w x5 r5).trans hma;have w7:IntKind.u8.wrap ((x7.toNat:Int)-48)=mi:=(u8w x7 r7).trans hmi;have v5':IntKind.i64.wrap ma=ma:=wiz;have v7':IntKind.i64.wrap mi=mi:=wiz;have hp1:PB (K.set b (({p with text:=[],major:=ma,minor:=mi}:Prs).av b j)) b j {p with text:=[],major:=ma,minor:=mi}:=hp.put rfl;have hbd1:=qbf hB b (hp.bnd (p1:={p with text:=[],major:=ma,minor:=mi}) rfl)
   have hnil:∀l,nilL l (({p with text:=[],major:=ma,minor:=mi}:Prs).av b j)->nilH (K.set b l) (K.set b (({p with text:=[],major:=ma,minor:=mi}:Prs).av b j)):=fun l hl=>by
    have:=qcQ (K.set b l) b _ _ (hs4 hlt _) hl;rwa[hs5 hlt]at this
   have hbadv:(ma≠1\/1<mi)->R (qcj 505 117 p.used) (K.set b (({p with text:=[],major:=ma,minor:=mi}:Prs).av b j)):=fun h=>
    hR {p with text:=[],major:=ma,minor:=mi} _ _ _ j _ (by rw[hV,if_pos h];rfl) hp1 (fun h=> .inl ⟨h,rfl⟩) (OthP.put ..) hbd1
   have w11:IntKind.i64.wrap 1=1:=by decide
   by_cases hm1:ma=1
   ·by_cases hmi1:1<mi
    ·simp[Tryz.ntmps119,Tryz.results119,List.replicate_succ,hrow,hN,hNv,m1,m3,m4,e10,la5,la7,w5,w7,v5',v7',w11,hm1,hmi1,hs0 hlt,hs1 hlt,hs2 hlt,hs3 hlt,hs4 hlt,hs5 hlt];refine PX.nilTo (H1:=K.set b (({p with text:=[],major:=ma,minor:=mi}:Prs).av b j)) ?_ (hnil _ (by rw[hm1];exact qcb b j {p with text:=[],major:=1,minor:=mi} rfl)) (by simp);refine qaj E' hp1 _ _ ?_;rw[hpan];exact hbadv (.inr hmi1)
    ·rw[if_neg (by omega)]at hV;simp[Tryz.ntmps119,Tryz.results119,List.replicate_succ,hrow,hN,hNv,m1,m3,m4,e10,la5,la7,w5,w7,v5',v7',w11,hm1,hmi1,hs0 hlt,hs1 hlt,hs2 hlt,hs3 hlt,hs4 hlt,hs5 hlt];refine qch fun J=>?_;refine qnq E' _ hE' p.meth p.targ (by omega) hf.asc (fun fm pt h pa qu hq v=>⟨rfl,?_⟩);by_cases hT:tgtE p.meth p.targ=0
     ·rw[if_neg (by simp[hT])]at hV;have wu:IntKind.i64.wrap (p.used+1)=p.used+1:=wiz;simp[tgV,hT,wu,hs0 hlt,hs1 hlt,hs2 hlt,hs3 hlt,hs4 hlt,hs5 hlt];subst hm1
      exact qeA hB hlt (qcb b j {p with text:=[],major:=1,minor:=mi,state:=2,begin_:=p.used+1} rfl) rfl (hp.bnd (p1:={p with text:=[],major:=1,minor:=mi,state:=2,begin_:=p.used+1}) rfl) (qaY hlt (some .fields))
       (hG _ _ j _ hV (hp.put (p1:={p with text:=[],major:=1,minor:=mi,state:=2,begin_:=p.used+1}) rfl) (fun h=> .inl ⟨h,rfl⟩) (OthP.put ..) (qbf hB b (hp.bnd (p1:={p with text:=[],major:=1,minor:=mi,state:=2,begin_:=p.used+1}) rfl)))
     ·rw[if_pos hT]at hV;have hT':(tgtE p.meth p.targ==0)=false:=by simpa using hT
      have hT2:(tgtE p.meth p.targ !=0)=true:=by simpa using hT
      simp[tgV,hT',hT2,hs0 hlt,hs1 hlt,hs2 hlt,hs3 hlt,hs4 hlt,hs5 hlt]
      have hnA:=fun(J:Hp) (l:List AV) (hl:nilL l (({p with text:=[],major:=ma,minor:=mi}:Prs).av b j))=>show nilH (K.set b l++J) (K.set b (({p with text:=[],major:=ma,minor:=mi}:Prs).av b j)++J)by
       have:=qcQ (K.set b l++J) b _ _ (hs1 hlt _ _) hl;rwa[hs2 hlt]at this
      refine PX.nilTo (H1:=K.set b (({p with text:=[],major:=ma,minor:=mi}:Prs).av b j)++[[.int .i64 fm,.str h,.int .i64 pt,.str pa,.str qu,.bool hq]]) ?_ (hnA _ _ (by rw[hm1];exact qcb b j {p with text:=[],major:=1,minor:=mi} rfl)) (by simp);refine qaj E' (hp1.app _) _ _ ?_;rw[hpan];refine hR _ _ _ _ j _ hV (hp1.app _) (fun h=> .inl ⟨h,rfl⟩) ⟨by simp,fun i hi h1 _=>by rw[zqA (by simpa using hi),zqF (Ne.symm h1)]⟩ ?_;have hbb:=qd2 (M:=K.length+1) hbd1 (by simp)
      have:=qcU hbb (J:=[[AV.int .i64 fm,.str h,.int .i64 pt,.str pa,.str qu,.bool hq]]) (fun X hX y hy=>by
       simp only[List.mem_cons,List.not_mem_nil,or_false]at hX;subst hX;simp at hy
       rcases hy with rfl|rfl|rfl|rfl|rfl|rfl<;>constructor)
      simpa using this
   ·have hm1':(ma==1)=false:=by simpa using hm1
    have hm2:(ma !=1)=true:=by simpa using hm1
    simp[Tryz.ntmps119,Tryz.results119,List.replicate_succ,hrow,hN,hNv,m1,m3,m4,e10,la5,la7,w5,w7,v5',v7',hm1',hm2,hs0 hlt,hs1 hlt,hs2 hlt,hs3 hlt,hs4 hlt,hs5 hlt];refine PX.nilTo (H1:=K.set b (({p with text:=[],major:=ma,minor:=mi}:Prs).av b j)) ?_ (hnil _ (qcb b j {p with text:=[],major:=ma,minor:=mi} rfl)) (by simp);refine qaj E' hp1 _ _ ?_;rw[hpan];exact hbadv (.inl hm1)
  ·have hgb:qaJ N c=false:=by unfold qaJ;rw[if_neg (by omega),if_neg (by omega),if_neg (by omega),if_neg (by omega),if_pos hC];simpa using hcx
   have hb:=(qaw c 10 (by decide) 10 rfl hcx).1;rcases(by omega:c.toNat<48\/(48<=c.toNat/\c.toNat<=57)\/57<c.toNat)with hr|hr|hr
   ·have d1:¬(48:Int)<=c.toNat:=by omega
    have d2:(c.toNat:Int)<=57:=by omega
    simp[Tryz.ntmps119,Tryz.results119,List.replicate_succ,hrow,hN,d1,d2,hNv,hb];refine qaj E' hp _ _ ?_;rw[hpan];exact bad hgb
   ·have d1:(48:Int)<=c.toNat:=by omega
    have d2:(c.toNat:Int)<=57:=by omega
    simp[Tryz.ntmps119,Tryz.results119,List.replicate_succ,hrow,hN,d1,d2,hNv,hb];refine qaj E' hp _ _ ?_;rw[hpan];exact bad hgb
   ·have d1:(48:Int)<=c.toNat:=by omega
    have d2:¬(c.toNat:Int)<=57:=by omega
    simp[Tryz.ntmps119,Tryz.results119,List.replicate_succ,hrow,hN,d1,d2,hNv,hb];refine qaj E' hp _ _ ?_;rw[hpan];exact bad hgb
 ·have q5:¬(N:Int)<5:=by omega
  have f5:((N:Int)==5)=false:=by rw[beq_eq_false_iff_ne];omega
  have f6:((N:Int)==6)=false:=by rw[beq_eq_false_iff_ne];omega
  have f7:((N:Int)==7)=false:=by rw[beq_eq_false_iff_ne];omega
  have f8:((N:Int)==8)=false:=by rw[beq_eq_false_iff_ne];omega
  have f9:((N:Int)==9)=false:=by rw[beq_eq_false_iff_ne];omega
  have hgb:qaJ N c=false:=by unfold qaJ;rw[if_neg (by omega),if_neg (by omega),if_neg (by omega),if_neg (by omega),if_neg (by omega)]
  rcases(by omega:c.toNat<48\/(48<=c.toNat/\c.toNat<=57)\/57<c.toNat)with hr|hr|hr
  ·have d1:¬(48:Int)<=c.toNat:=by omega
   have d2:(c.toNat:Int)<=57:=by omega
   simp[Tryz.ntmps119,Tryz.results119,List.replicate_succ,hrow,hN,d1,d2,q5,f5,f6,f7,f8,f9];refine qaj E' hp _ _ ?_;rw[hpan];exact bad hgb
  ·have d1:(48:Int)<=c.toNat:=by omega
   have d2:(c.toNat:Int)<=57:=by omega
   simp[Tryz.ntmps119,Tryz.results119,List.replicate_succ,hrow,hN,d1,d2,q5,f5,f6,f7,f8,f9];refine qaj E' hp _ _ ?_;rw[hpan];exact bad hgb
  ·have d1:(48:Int)<=c.toNat:=by omega
   have d2:¬(c.toNat:Int)<=57:=by omega
   simp[Tryz.ntmps119,Tryz.results119,List.replicate_succ,hrow,hN,d1,d2,q5,f5,f6,f7,f8,f9];refine qaj E' hp _ _ ?_;rw[hpan];exact bad hgb
theorem qjI(hE:PE E):qrQ E b:=by
 intro K j p m c n Q R hf hn hnx hp hG hR;have hH:∀E':Env,E'.w0=E.w0->E'.Fix=E.Fix->qpH E' b:=fun E' h0 hF=>qom E' (hE.env h0 hF);cases m
 ·exact qp6 E hE.1.1 K j p c n Q R hf hn hp hG hR
 ·exact qkb E K j p c n Q R hf hn hp hG hR
 ·exact qjj E hE.1.1 K j p c n Q R hf hn hp hG hR
 ·exact qns E K j p c n Q R hf hn hp hG hR
 ·exact qsD E hE K j p c n Q R hf hn hnx hp hG hR
 ·exact qoF E hE.1.1 hH K j p c n Q R hf hn hp hG hR
 ·exact qmL E K j p c n Q R hf hn hp hG hR
 ·exact qmN E hE.1.1 K j p c n Q R hf hn hp hG hR
end
theorem PC.argsD{P:Program}{E:Env}{f:FuncId}{args args':List AV}{H:Hp}{Q:AV->Hp->Prop}(h:NilL args args')(hp:PC P E f args' H Q):PC P E f args H Q:=by
 obtain⟨h1,h2⟩:=h.at;refine⟨hp.1,fun w β Rd Ow cargs hr hcell hsz hargs=>hp.2 w β Rd Ow cargs hr hcell (by rw[hsz,h1]) (fun t y u hy hu=>?_)⟩;obtain⟨x,hx⟩:=qb7 h1 hy;obtain⟨r1,r2,r3⟩:=hargs t x u hx hu;have hd:=h2 t x y hx hy;exact⟨hd.rel r1,hd.bnd r2,hd.free r3⟩
theorem qsq{H K:Hp}(h1:H.length<=K.length)(h2:∀i,i<H.length->K[i]? =H[i]?):∃J,K=H++J:=by
 refine⟨K.drop H.length,?_⟩;apply List.ext_getElem?;intro i;by_cases hi:i<H.length
 ·rw[zqA hi,h2 i hi]
 ·rw[zqB (by omega),zqN];congr 1;omega
def chkE(a b c d:Int):Int:=if(1<=a/\a<=65536)/\(2<=b/\b<=1048576)/\(0<=c/\c<=100)/\(0<=d/\d<=1073741824)then 0 else 115
def limV(a b c d:Int):AV:= .agg [.int .i64 a,.int .i64 b,.int .i64 c,.int .i64 d]
def Rq.if(c:Bool)(r:Rq):Rq:=if c then r else .zero
theorem Rq.nil(m t b:List UInt8)(ma mi:Int):NilL [.str m,.str t,.int .i64 ma,.int .i64 mi,.nil,.str b,.nil] (Rq.mk m t ma mi [] b []).avs:=⟨.same _,.same _,.same _,.same _,.nil _,.same _,.nil _,trivial⟩
theorem Rq.nilT(m t b:List UInt8)(ma mi:Int)(fs:List Fld):NilL [.str m,.str t,.int .i64 ma,.int .i64 mi,.sl false 2 (flds fs),.str b,.nil] (Rq.mk m t ma mi fs b []).avs:=⟨.same _,.same _,.same _,.same _,.same _,.same _,.nil _,trivial⟩
def fltV(p:Prs):AV:=if p.state=5 then .agg [.int .i64 p.fst_,.int .i64 p.ferr,.int .i64 p.fat]else .agg [.int .i64 0,.int .i64 0,.int .i64 0]
section
variable (E:Env){H:Hp}(Q:AV->Hp->Prop)
theorem qlT(n a b:Int)(hQ:Q (.bool (decide (a<=n)&&decide (n<=b))) H):PC Tryz.prog E 40 [.int .i64 n,.int .i64 a,.int .i64 b] H Q:=by
 refine qac Tryz.func40 rfl [] [] (by kernel_rfl) (fun hB=>?_);by_cases h1:a<=n
 ·by_cases h2:n<=b
  ·simp[Tryz.ntmps40,Tryz.results40,List.replicate_succ,h1,h2];exact aQz hB (h6:=(by simpa[h1,h2]using hQ))
  ·simp[Tryz.ntmps40,Tryz.results40,List.replicate_succ,h1,h2];exact aQz hB (h6:=(by simpa[h1,h2]using hQ))
 ·simp[Tryz.ntmps40,Tryz.results40,List.replicate_succ,h1];exact aQz hB (h6:=(by simpa[h1]using hQ))
theorem qnU(a b c d:Int)(hQ:Q (.int .i64 (chkE a b c d)) H):PC Tryz.prog E 20 [limV a b c d] H Q:=by
 refine qac Tryz.func20 rfl [] [] (by kernel_rfl) (fun hB=>?_);have fin:∀e,chkE a b c d=e->Q (.int .i64 e) H:=fun e h=>h▸hQ;simp[Tryz.ntmps20,Tryz.results20,List.replicate_succ,limV];refine qlT E _ a 1 65536 ?_;by_cases h1:1<=a/\a<=65536
 ·have g1:(decide (1<=a)&&decide (a<=65536))=true:=by simpa using h1
  rw[g1];simp;refine qlT E _ b 2 1048576 ?_;by_cases h2:2<=b/\b<=1048576
  ·have g2:(decide (2<=b)&&decide (b<=1048576))=true:=by simpa using h2
   rw[g2];simp;refine qlT E _ c 0 100 ?_;by_cases h3:0<=c/\c<=100
   ·have g3:(decide (0<=c)&&decide (c<=100))=true:=by simpa using h3
    rw[g3];simp;refine qlT E _ d 0 1073741824 ?_;by_cases h4:0<=d/\d<=1073741824
    ·have g4:(decide (0<=d)&&decide (d<=1073741824))=true:=by simpa using h4
     rw[g4];simp;exact qab hB rfl (qaa _) (by simp) (fin 0 (by unfold chkE;rw[if_pos ⟨h1,h2,h3,h4⟩]))
    ·have g4:(decide (0<=d)&&decide (d<=1073741824))=false:=by rw[Bool.eq_false_iff];intro h;simp at h;exact h4 h
     rw[g4];simp;exact qab hB rfl (qaa _) (by simp) (fin 115 (by unfold chkE;rw[if_neg (fun h=>h4 h.2.2.2)]))
   ·have g3:(decide (0<=c)&&decide (c<=100))=false:=by rw[Bool.eq_false_iff];intro h;simp at h;exact h3 h
    rw[g3];simp;exact qab hB rfl (qaa _) (by simp) (fin 115 (by unfold chkE;rw[if_neg (fun h=>h3 h.2.2.1)]))
  ·have g2:(decide (2<=b)&&decide (b<=1048576))=false:=by rw[Bool.eq_false_iff];intro h;simp at h;exact h2 h
   rw[g2];simp;exact qab hB rfl (qaa _) (by simp) (fin 115 (by unfold chkE;rw[if_neg (fun h=>h2 h.2.1)]))
 ·have g1:(decide (1<=a)&&decide (a<=65536))=false:=by rw[Bool.eq_false_iff];intro h;simp at h;exact h1 h
  rw[g1];simp;exact qab hB rfl (qaa _) (by simp) (fin 115 (by unfold chkE;rw[if_neg (fun h=>h1 h.1)]))
theorem qnR(hQ:Q (limV 8000 16384 100 1048576) H):PC Tryz.prog E 17 [] H Q:=by
 refine qac Tryz.func17 rfl [] [] (by kernel_rfl) (fun hB=>?_);simp[Tryz.ntmps17,Tryz.results17,List.replicate_succ];exact qab hB (v0:=limV 8000 16384 100 1048576) (by simp[limV]) (qaa _) (by simp[limV]) hQ
def nwH(H:Hp)(a b c d:Int):Hp:=H++[[.int .i64 a,.int .i64 b,.int .i64 c,.int .i64 d],(newP a b c d).av (H.length+1) 0]
theorem nwH_pb(H:Hp)(a b c d:Int):PB (nwH H a b c d) (H.length+1) 0 (newP a b c d):=⟨by unfold nwH;rw[zqB (by omega)];simp,fun d hd=>by cases hd⟩
theorem qsw{H:Hp}(hB:BndH H.length H)(a b c d:Int):BndH (nwH H a b c d).length (nwH H a b c d):=by
 have hl:(nwH H a b c d).length=H.length+2:=by unfold nwH;simp
 rw[hl];unfold nwH;refine qcU (qd2 hB (by omega)) (fun X hX y hy=>?_);simp only[List.mem_cons,List.not_mem_nil,or_false]at hX;rcases hX with rfl|rfl
 ·simp at hy;rcases hy with rfl|rfl|rfl|rfl<;>exact .int _ _
 ·exact Prs.bnd (by omega) (fun d hd=>by cases hd) y hy
theorem qgv(a b c d:Int)(hQ1:chkE a b c d=0->BndH (nwH H a b c d).length (nwH H a b c d)->Q (.tup [.ptr (some (H.length+1,0)),.int .i64 0]) (nwH H a b c d))(hQ2:chkE a b c d≠0->Q (.tup [.ptr none,.int .i64 (chkE a b c d)]) H):PC Tryz.prog E 18 [limV a b c d] H Q:=by
 refine qac Tryz.func18 rfl [] [] (by kernel_rfl) (fun hB=>?_);simp[Tryz.ntmps18,Tryz.results18,List.replicate_succ,limV];refine qnU E _ a b c d ?_;by_cases h:chkE a b c d=0
 ·have hbn:=qsw hB a b c d;simp[h];refine⟨.tup [.ptr (some (H.length+1,0)),.int .i64 0],_,nwH H a b c d,nwH H a b c d,[],rfl,qaa _,?_,(List.append_nil _).symm,by unfold nwH;simp,hbn,by unfold nwH;simp,hQ1 h hbn⟩;exact qii H ⟨qbs _,⟨.inl rfl,.inl rfl,.inl rfl,.inl rfl,.inl rfl,.inl rfl,.inl rfl,.inl rfl,.inl rfl,.inl rfl,.inl rfl,.inr ⟨rfl,true,2,rfl⟩,.inl rfl,.inr ⟨rfl,false,2,rfl⟩,.inl rfl,.inl rfl,.inl rfl,.inr ⟨rfl,true,1,rfl⟩,.inl rfl,.inl rfl,.inl rfl,.inl rfl,.inr ⟨rfl,true,1,rfl⟩,.inl rfl,.inl rfl,trivial⟩,trivial⟩
 ·have h':(chkE a b c d==0)=false:=by simpa using h
  have h2:(chkE a b c d !=0)=true:=by simpa using h
  simp[h',h2];exact qab hB rfl (qaa _) (by simp) (hQ2 h)
section
variable {b j:Nat}{p:Prs}
theorem qc7(hp:PB H b j p)(hQ:Q (.int .i64 p.state) H):PC Tryz.prog E 27 [.ptr (some (b,0))] H Q:=by
 have hrow:=hp.row;simp[Prs.av]at hrow;refine qac Tryz.func27 rfl [] [] (by kernel_rfl) (fun hB=>?_);simp[Tryz.ntmps27,Tryz.results27,List.replicate_succ,hrow];exact aQz hB (h6:=hQ)
theorem qd5(hp:PB H b j p)(hQ:Q (.int .i64 p.used) H):PC Tryz.prog E 28 [.ptr (some (b,0))] H Q:=by
 have hrow:=hp.row;simp[Prs.av]at hrow;refine qac Tryz.func28 rfl [] [] (by kernel_rfl) (fun hB=>?_);simp[Tryz.ntmps28,Tryz.results28,List.replicate_succ,hrow];exact aQz hB (h6:=hQ)
theorem qc6(hp:PB H b j p)(hl:p.state=3->fsz p.fields+p.fields.length<=16777216)(hQ:Q (.bool p.waits) H):PC Tryz.prog E 29 [.ptr (some (b,0))] H Q:=by
 have hrow:=hp.row;simp[Prs.av]at hrow;refine qac Tryz.func29 rfl [] [] (by kernel_rfl) (fun hB=>?_);have fin:∀e,p.waits=e->Q (.bool e) H:=fun e h=>h▸hQ;unfold Prs.waits at fin;by_cases h3:p.state=3
 ·cases hb:p.bodied with
  |true=>
   simp[Tryz.ntmps29,Tryz.results29,List.replicate_succ,hrow,h3,hb];exact aQz hB (h6:=(fin _ (by simp[hb])))
  |false=>
   simp[Tryz.ntmps29,Tryz.results29,List.replicate_succ,hrow,h3,hb];refine qnZ E _ hp ?_;by_cases ho:p.minor=0
   ·simp[ho];exact aQz hB (h6:=(fin _ (by simp[ho])))
   ·simp[ho];refine qdY E _ hp (hl h3) ?_;simp;exact aQz hB (h6:=(fin _ (by simp[ho,h3,hb])))
 ·have h3':(p.state==3)=false:=by simpa using h3
  simp[Tryz.ntmps29,Tryz.results29,List.replicate_succ,hrow,h3'];exact aQz hB (h6:=(fin _ (by simp[h3])))
theorem qfb(r:Rq)(h1:r.fields.length<=16777216)(h2:r.trailers.length<=16777216)(hQ:Q r.av H):PC Tryz.prog E 37 [r.av] H Q:=by
 refine qac Tryz.func37 rfl [] [] (by kernel_rfl) (fun hB=>?_);have m1:r.fields.length<=maxLen:=by unfold maxLen;omega
 have m2:r.trailers.length<=maxLen:=by unfold maxLen;omega
 have m3:r.fields.length*32<=140737488355328:=by omega
 have m4:r.trailers.length*32<=140737488355328:=by omega
 simp[Tryz.ntmps37,Tryz.results37,List.replicate_succ,Rq.av,Rq.avs,m1,m2,m3,m4];exact qab hB (v0:=r.av) (by simp[Rq.av,Rq.avs]) (qaa _) (by simp[Rq.av,Rq.avs,qbZ]) hQ
theorem qd6(hp:PB H b j p)(h0:p.state≠5->p.fields.length<=16777216/\p.trailers.length<=16777216)(hQ:Q (.tup [(Rq.if (decide (p.state=3)||decide (p.state=4)) p.rqH).av,.bool (decide (p.state=3)||decide (p.state=4))]) H):PC Tryz.prog E 26 [.ptr (some (b,0))] H Q:=by
 refine PC.nilD ?_;have hrow:=hp.row;have hlt:=hp.lt;simp[Prs.av]at hrow;refine qac Tryz.func26 rfl [] [] (by kernel_rfl) (fun hB=>?_);by_cases h34:p.state=3\/p.state=4
 ·have hd:(decide (p.state=3)||decide (p.state=4))=true:=by simpa using h34
  have e:Rq.if true p.rqH=p.rqH:=rfl;rw[hd,e]at hQ
  have done:∀fr:List AV,aget fr 2= .ptr (some (H.length,0))->aget fr 3= .bool true->qbU Tryz.prog [ResultVar.cell 2 26,ResultVar.tmp 3] H.length (fun v H'=>∃v',NilD v v'/\Q v' H') .ret fr (H++[[.str p.meth,.str p.targ,.int .i64 p.major,.int .i64 p.minor,.sl false 2 (flds p.fields),.str [],.nil],[.str p.meth,.str p.targ,.int .i64 p.major,.int .i64 p.minor,.sl false 2 (flds p.fields),.str [],.nil]]):=fun fr e2 e3=>
   qab hB (v0:= .tup [.agg [.str p.meth,.str p.targ,.int .i64 p.major,.int .i64 p.minor,.sl false 2 (flds p.fields),.str [],.nil],.bool true]) (v:= .tup [.agg [.str p.meth,.str p.targ,.int .i64 p.major,.int .i64 p.minor,.sl false 2 (flds p.fields),.str [],.nil],.bool true]) (by simp[e2,e3]) (qaa _) (by simp[qbZ]) ⟨.tup [p.rqH.av,.bool true],qdI (m:=[p.rqH.av,.bool true]) ⟨qaP (Rq.nilT p.meth p.targ [] p.major p.minor p.fields),.same _,trivial⟩,hQ⟩
  obtain⟨h1,h2⟩:=h0 (by rcases h34 with h|h<;>omega);rcases h34 with h3|h4
  ·simp[Tryz.ntmps26,Tryz.results26,List.replicate_succ,hrow,hs0 hlt,h3];refine qfb E _ p.rq h1 h2 ?_;simp[Rq.av,Rq.avs];exact done _ rfl rfl
  ·simp[Tryz.ntmps26,Tryz.results26,List.replicate_succ,hrow,hs0 hlt,h4];refine qfb E _ p.rq h1 h2 ?_;simp[Rq.av,Rq.avs];exact done _ rfl rfl
 ·have h3:(p.state==3)=false:=by simpa using fun e=>h34 (.inl e)
  have h4:(p.state==4)=false:=by simpa using fun e=>h34 (.inr e)
  have h3':(p.state !=3)=true:=by simpa using h3
  have h4':(p.state !=4)=true:=by simpa using h4
  have hd:(decide (p.state=3)||decide (p.state=4))=false:=by simpa using h34
  have e:Rq.if false p.rqH= .zero:=rfl;rw[hd,e]at hQ;simp[Tryz.ntmps26,Tryz.results26,List.replicate_succ,hrow,hs0 hlt,h3,h3',h4,h4'];exact qab hB (v0:= .tup [.agg [.str [],.str [],.int .i64 0,.int .i64 0,.nil,.str [],.nil],.bool false]) (v:= .tup [.agg [.str [],.str [],.int .i64 0,.int .i64 0,.nil,.str [],.nil],.bool false]) (by simp) (qaa _) (by simp) ⟨.tup [Rq.zero.av,.bool false],qdI (m:=[Rq.zero.av,.bool false]) ⟨qaP (Rq.nil [] [] [] 0 0),.same _,trivial⟩,hQ⟩
theorem qb6(hp:PB H b j p)(h0:p.state≠5->p.fields.length<=16777216/\p.trailers.length<=16777216)(hQ:Q (.tup [(Rq.if (decide (p.state=4)) p.rq).av,.bool (decide (p.state=4))]) H):PC Tryz.prog E 24 [.ptr (some (b,0))] H Q:=by
 refine PC.nilD ?_;have hrow:=hp.row;have hlt:=hp.lt;simp[Prs.av]at hrow;refine qac Tryz.func24 rfl [] [] (by kernel_rfl) (fun hB=>?_);by_cases h4:p.state=4
 ·obtain⟨h1,h2⟩:=h0 (by omega);have e:Rq.if (decide (p.state=4)) p.rq=p.rq:=by unfold Rq.if;rw[if_pos (by simpa using h4)]
  rw[e]at hQ;have hd:decide (p.state=4)=true:=by simpa using h4
  rw[hd]at hQ;simp[Tryz.ntmps24,Tryz.results24,List.replicate_succ,hrow,hs0 hlt,h4];refine qfb E _ p.rq h1 h2 ?_;simp[Rq.av,Rq.avs];exact qab hB (v0:= .tup [p.rq.av,.bool true]) (v:= .tup [p.rq.av,.bool true]) (by simp[Rq.av,Rq.avs]) (qaa _) (by simp[Rq.av,Rq.avs,qbZ]) ⟨_,.same _,hQ⟩
 ·have h4':(p.state==4)=false:=by simpa using h4
  have h4'':(p.state !=4)=true:=by simpa using h4
  have e:Rq.if (decide (p.state=4)) p.rq= .zero:=by unfold Rq.if;rw[if_neg (by simpa using h4)]
  rw[e]at hQ;simp[Tryz.ntmps24,Tryz.results24,List.replicate_succ,hrow,hs0 hlt,h4',h4''];exact qab hB (v0:= .tup [.agg [.str [],.str [],.int .i64 0,.int .i64 0,.nil,.str [],.nil],.bool false]) (v:= .tup [.agg [.str [],.str [],.int .i64 0,.int .i64 0,.nil,.str [],.nil],.bool false]) (by simp) (qaa _) (by simp) ⟨.tup [Rq.zero.av,.bool false],qdI (m:=[Rq.zero.av,.bool false]) ⟨qaP (Rq.nil [] [] [] 0 0),.same _,trivial⟩,by simpa[h4]using hQ⟩
theorem qc9(hp:PB H b j p)(hQ:Q (.tup [fltV p,.bool (decide (p.state=5))]) H):PC Tryz.prog E 25 [.ptr (some (b,0))] H Q:=by
 have hrow:=hp.row;have hlt:=hp.lt;simp[Prs.av]at hrow;refine qac Tryz.func25 rfl [] [] (by kernel_rfl) (fun hB=>?_);unfold fltV at hQ;by_cases h5:p.state=5
 ·rw[if_pos h5]at hQ;simp[Tryz.ntmps25,Tryz.results25,List.replicate_succ,hrow,hs0 hlt,h5];exact qab hB (v0:= .tup [.agg [.int .i64 p.fst_,.int .i64 p.ferr,.int .i64 p.fat],.bool true]) (v:= .tup [.agg [.int .i64 p.fst_,.int .i64 p.ferr,.int .i64 p.fat],.bool true]) (by simp) (qaa _) (by simp) (by simpa[h5]using hQ)
 ·have h5':(p.state==5)=false:=by simpa using h5
  have h5'':(p.state !=5)=true:=by simpa using h5
  rw[if_neg h5]at hQ;simp[Tryz.ntmps25,Tryz.results25,List.replicate_succ,hrow,hs0 hlt,h5',h5''];exact qab hB (v0:= .tup [.agg [.int .i64 0,.int .i64 0,.int .i64 0],.bool false]) (v:= .tup [.agg [.int .i64 0,.int .i64 0,.int .i64 0],.bool false]) (by simp) (qaa _) (by simp) (by simpa[h5]using hQ)
def Prs.anew(p:Prs):Prs:=newP p.lt p.lh p.lf p.lb
theorem qf0(hp:PB H b j p)(hQ1:p.state=4\/p.state=0->PB (H.set b (p.anew.av b j)) b j p.anew->BndH H.length (H.set b (p.anew.av b j))->Q (.int .i64 0) (H.set b (p.anew.av b j)))(hQ2:¬(p.state=4\/p.state=0)->Q (.int .i64 118) H):PC Tryz.prog E 34 [.ptr (some (b,0))] H Q:=by
 have hrow:=hp.row;have hlt:=hp.lt;simp[Prs.av]at hrow;refine qac Tryz.func34 rfl [] [] (by kernel_rfl) (fun hB=>?_);have hpb:PB (H.set b (p.anew.av b j)) b j p.anew:=⟨zqO hlt,fun d hd=>by cases hd⟩
 have hbd:∀z∈p.anew.av b j,Bnd H.length z:=Prs.bnd hlt fun d hd=>by cases hd
 have hnl:nilL [.int .i64 p.lt,.int .i64 p.lh,.int .i64 p.lf,.int .i64 p.lb,nxV b (some .start),.int .i64 0,.int .i64 0,.str [],.str [],.int .i64 0,.int .i64 0,.nil,.str [],.nil,.int .i64 0,.int .i64 0,.int .i64 0,.nil,.str [],.int .i64 0,.int .i64 0,.int .i64 0,.nil,.ptr none,.bool false] (p.anew.av b j):=⟨.inl rfl,.inl rfl,.inl rfl,.inl rfl,.inl rfl,.inl rfl,.inl rfl,.inl rfl,.inl rfl,.inl rfl,.inl rfl,.inr ⟨rfl,true,2,rfl⟩,.inl rfl,.inr ⟨rfl,false,2,rfl⟩,.inl rfl,.inl rfl,.inl rfl,.inr ⟨rfl,true,1,rfl⟩,.inl rfl,.inl rfl,.inl rfl,.inl rfl,.inr ⟨rfl,true,1,rfl⟩,.inl rfl,.inl rfl,trivial⟩
 by_cases h40:p.state=4\/p.state=0
 ·rcases h40 with h4|h0
  ·simp[Tryz.ntmps34,Tryz.results34,List.replicate_succ,hrow,h4,hs0 hlt,hs1 hlt,hs2 hlt,hs3 hlt,hs4 hlt,hs5 hlt];exact qaG hB hlt hnl (by simp) hbd (.int _ _) (hQ1 (.inl h4) hpb (qdG hB _ hbd))
  ·simp[Tryz.ntmps34,Tryz.results34,List.replicate_succ,hrow,h0,hs0 hlt,hs1 hlt,hs2 hlt,hs3 hlt,hs4 hlt,hs5 hlt];exact qaG hB hlt hnl (by simp) hbd (.int _ _) (hQ1 (.inr h0) hpb (qdG hB _ hbd))
 ·have h4:(p.state==4)=false:=by simpa using fun e=>h40 (.inl e)
  have h0:(p.state==0)=false:=by simpa using fun e=>h40 (.inr e)
  have h4':(p.state !=4)=true:=by simpa using h4
  have h0':(p.state !=0)=true:=by simpa using h0
  simp[Tryz.ntmps34,Tryz.results34,List.replicate_succ,hrow,h4,h4',h0,h0'];exact aQz hB (h6:=(hQ2 h40))
end
end
end Go.Proofs.YtnnhdehmlkkfjaaGreatDoor
set_option linter.unnecessarySimpa false
namespace Go.Proofs.YtnnhdehmlkkfjaaGreatDoor
open Go Go.RowKit Go.Proofs
theorem qlN:∀n,n<256->(let b:=UInt8.ofNat n;(48<=b.toNat/\b.toNat<=57->dig b=(b.toNat:Int)-48)/\(¬(48<=b.toNat/\b.toNat<=57)->¬(0<=dig b/\dig b<10))):=by decide
theorem qsV{b:UInt8}(h:48<=b.toNat/\b.toNat<=57):dig b=(b.toNat:Int)-48:=by
 have:=qlN b.toNat b.toNat_lt;simp at this;exact this.1 h.1 h.2
theorem dig_no{b:UInt8}(h:¬(48<=b.toNat/\b.toNat<=57)):¬(0<=dig b/\dig b<10):=by
 have:=(qlN b.toNat b.toNat_lt).2 (by simpa using h);simpa using this
def qqN(p:List UInt8)(n:Int):Prop:=qaU 10 p=true/\((n<=1099511627776/\n=qbe 10 p)\/(1099511627776<n/\1099511627776<qbe 10 p))/\0<=n/\n<=10995116277769
theorem qmK{l:List UInt8}{i:Nat}{b:UInt8}{n:Int}(h:qqN (l.take i) n)(hb:l[i]? =some b)(hd:48<=b.toNat/\b.toNat<=57):
  qqN (l.take (i+1)) (if n<=1099511627776 then 10*n+((b.toNat:Int)-48)else n):=by
 obtain⟨h1,h2,h3,h4⟩:=h;have hs:=qcw 10 l i b hb;have ho:=qcF 10 l i b hb;have hdg:=qsV hd;have hn0:=qbl 10 (by omega) (l.take i) h1;rw[hdg]at hs ho;refine⟨?_,?_,?_,?_⟩
 ·rw[ho,h1,decide_eq_true (by omega)];rfl
 ·rcases h2 with⟨h5,h6⟩|⟨h5,h6⟩
  ·rw[if_pos h5];by_cases hm:10*n+((b.toNat:Int)-48)<=1099511627776
   ·exact .inl ⟨hm,by rw[hs,<-h6];omega⟩
   ·exact .inr ⟨by omega,by rw[hs,<-h6];omega⟩
  ·rw[if_neg (by omega)];exact .inr ⟨h5,by rw[hs];omega⟩
 ·split<;>omega
 ·split<;>omega
theorem qoR{l:List UInt8}{n:Int}(h:qqN l n):decA l=if l=[]\/1099511627776<n then-1 else n:=by
 obtain⟨h1,h2,h3,h4⟩:=h;by_cases hl:l=[]
 ·rw[if_pos (.inl hl),hl];decide
 rcases h2 with⟨h5,h6⟩|⟨h5,h6⟩
 ·have e:qae 10 1099511627776 l=(qbe 10 l,0):=by
   unfold qae;rw[if_neg hl,if_neg (by rw[h1];simp),if_neg (by omega)]
  rw[qoT (by rw[e]),e,if_neg (by rintro(h|h);exact hl h;omega),h6]
 ·have e:qae 10 1099511627776 l=(0,12):=by
   unfold qae;rw[if_neg hl,if_neg (by rw[h1];simp),if_pos (.inr h6)]
  rw[qiy (by rw[e];decide),if_pos (.inr h5)]
theorem qlP{l:List UInt8}{i:Nat}{b:UInt8}(hb:l[i]? =some b)(hd:¬(48<=b.toNat/\b.toNat<=57)):decA l= -1:=by
 apply qiy;have hne:l≠[]:=fun e=>by rw[e]at hb;simp at hb
 unfold qae;rw[if_neg hne,if_pos (qdb 10 l i b hb (dig_no hd))];decide
section
variable (E:Env)(H:Hp)(Q:AV->Hp->Prop)
def ddcInv(l:List UInt8)(H:Hp)(fr:List AV)(H':Hp):Prop:=H'=H/\∃(i:Nat) (n:Int),i<=l.length/\qqN (l.take i) n/\∃x:Nat->AV,fr=[.str l,x 1,x 2,.int .i64 n,.int .i64 i,x 5,x 6,x 7,x 8,x 9,x 10,x 11,x 12,x 13,x 14,x 15,x 16,x 17,x 18,x 19,x 20,x 21,x 22,x 23,x 24,x 25,x 26,x 27,x 28,x 29,x 30,x 31,x 32,x 33,x 34,x 35,x 36,x 37]
theorem qdD(l:List UInt8)(hl:l.length<=cap)(hQ:Q (.int .i64 (decA l)) H):PC Tryz.prog E 116 [.str l] H Q:=by
 simp only[cap]at hl;have fin:∀a:Int,decA l=a->Q (.int .i64 a) H:=fun a ha=>ha▸hQ;refine qac Tryz.func116 rfl [] [] (by kernel_rfl) (fun hB=>?_);simp[Tryz.ntmps116,Tryz.results116,List.replicate_succ];refine qaB (ddcInv l H) (fun fr _=>l.length-(ai (aget fr 4)).toNat) ⟨rfl,0,0,by omega,⟨rfl,.inl ⟨by omega,rfl⟩,by omega,by omega⟩,friz⟩ ?_;rintro fr H' ⟨rfl,i,n,hi,hn,x,rfl⟩;obtain⟨_,_,n0,n1⟩:=id hn;by_cases h:i<l.length
 ·obtain⟨b,hb⟩:∃b,l[i]? =some b:=⟨_,zqD h⟩
  have hat:=qaq hb;have hbn:=b.toNat_lt;have hw:IntKind.i64.wrap ((i:Int)+1)=i+1:=wiz;by_cases h48:(b.toNat:Int)<48
  ·simp[h,hat,h48];exact aQz hB (h6:=(fin _ (qlP hb (by omega))))
  by_cases h57:(57:Int)<b.toNat
  ·simp[h,hat,h48,h57];exact aQz hB (h6:=(fin _ (qlP hb (by omega))))
  have hst:=qmK hn hb (by omega)
  have w1:IntKind.u8.wrap ((b.toNat:Int)-48)=(b.toNat:Int)-48:=by
   unfold IntKind.wrap;simp[IntKind.signed,IntKind.bits,IntKind.min];omega
  by_cases hM:n<=1099511627776
  ·rw[if_pos hM]at hst;have w2:IntKind.i64.wrap (10*n)=10*n:=wiz;have w3:IntKind.i64.wrap ((b.toNat:Int)-48)=(b.toNat:Int)-48:=wiz;have w4:IntKind.i64.wrap (10*n+((b.toNat:Int)-48))=10*n+((b.toNat:Int)-48):=wiz;simp[h,hat,h48,h57,hM,w1,w2,w3,w4,hw];exact Klz ⟨rfl,i+1,_,by omega,hst,friz⟩
  ·rw[if_neg hM]at hst;simp[h,hat,h48,h57,hM,hw];exact Klz ⟨rfl,i+1,_,by omega,hst,friz⟩
 ·obtain rfl:i=l.length:=by omega
  rw[zqE (Nat.le_refl _)]at hn;have he:=qoR hn;by_cases h0:l=[]
  ·rw[if_pos (.inl h0)]at he;have h0':(l==[])=true:=by rw[h0];rfl
   simp[h0'];exact aQz hB (h6:=(fin _ he))
  have h0':(l==[])=false:=by simpa using h0
  by_cases hM:1099511627776<n
  ·rw[if_pos (.inr hM)]at he;simp[h0',hM];exact aQz hB (h6:=(fin _ he))
  ·rw[if_neg (by rintro(h|h);exact h0 h;exact hM h)]at he;simp[h0',hM];exact aQz hB (h6:=(fin _ he))
def dlnInv(acc:List (List UInt8))(m:Int)(H:Hp)(fr:List AV)(H':Hp):Prop:=H'=H/\∃i:Nat,i<=acc.length/\(∀y∈acc.take i,decA y=m)/\(0<i->0<=m)/\
 ∃x:Nat->AV,fr=[x 0,x 1,x 2,x 3,x 4,.sl false 1 (strs acc),x 6,x 7,x 8,x 9,x 10,x 11,x 12,x 13,x 14,x 15,x 16,x 17,x 18,x 19,x 20,x 21,x 22,x 23,x 24,.sl false 1 (strs acc),.int .i64 acc.length,.int .i64 i,x 28,x 29,x 30,x 31,x 32,x 33,x 34,x 35,x 36,x 37,x 38,x 39,x 40,x 41,x 42,x 43,x 44,x 45,x 46,x 47]
theorem qhY(l:List Fld)(hl:fsz l+l.length<=4194304)(hQ:Q (.tup [.int .i64 (qaA l).1,.bool (qaA l).2.1,.int .i64 (qaA l).2.2]) H):PC Tryz.prog E 83 [.sl false 2 (flds l)] H Q:=by
 have fin:∀a:Int×Bool×Int,qaA l=a->Q (.tup [.int .i64 a.1,.bool a.2.1,.int .i64 a.2.2]) H:=fun a ha=>ha▸hQ;have hcn:nCL.length<=cap:=by simp[nCL,cap]
 have hvz:=qdo l nCL;refine qac Tryz.func83 rfl [] [(9,[0,0,0,0,0,1])] (by kernel_rfl) (fun hB=>?_);simp[Tryz.ntmps83,Tryz.results83,List.replicate_succ];refine qgV E _ _ l nCL (by omega) hcn ?_;by_cases h0:allB l nCL=[]
 ·have hs0:strs ([]:List (List UInt8))=[]:=rfl;simp[h0,hs0];exact aQz hB (h6:=(fin _ (by unfold qaA;rw[if_pos h0]:qaA l=(0,false,0))))
 have h0':(((allB l nCL).length:Int)==0)=false:=by
  rw[beq_eq_false_iff_ne];intro e;exact h0 (List.length_eq_zero_iff.1 (by omega))
 simp[h0'];refine qlM E _ _ l nCL hl hcn ?_;cases hacc:qaV (allB l nCL)with
 |none=>
  have e1:qcR l nCL=([],14):=by unfold qcR;rw[hacc]
  have e2:qaA l=(0,false,66):=by unfold qaA;rw[if_neg h0,hacc]
  rw[e1];simp;exact aQz hB (h6:=(fin _ e2))
 |some acc=>
  have e1:qcR l nCL=(acc,0):=by unfold qcR;rw[hacc]
  have hmem:=qdf _ _ hacc;have hlen:=qbT _ _ hacc;rw[e1];cases acc with
  |nil=>
   have e2:qaA l=(0,false,66):=by unfold qaA;rw[if_neg h0,hacc]
   have hs0:strs ([]:List (List UInt8))=[]:=rfl;simp[hs0];exact aQz hB (h6:=(fin _ e2))
  |cons w r=>
   have e2:qaA l=if decA w<0\/(r.all fun y=>decide (decA y=decA w))=false then(0,false,66)else(decA w,true,0):=by unfold qaA;rw[if_neg h0,hacc]
   obtain⟨acc,ha⟩:=exz (w::r);have hw0:acc[0]? =some w:=by rw[<-ha];rfl
   have hat0:=qcB hw0;have hpos:0<acc.length:=by rw[<-ha];simp
   have hne:((acc.length:Int)==0)=false:=by rw[beq_eq_false_iff_ne];omega
   have hbad:∀y∈acc,(decA y<0\/decA y≠decA w)->qaA l=(0,false,66):=fun y hy hb=>by
    rw[e2];apply if_pos;by_cases hlt:decA w<0
    ·exact .inl hlt
    right;rw[<-ha]at hy;rcases List.mem_cons.1 hy with rfl|hy
    ·rcases hb with hb|hb
     ·exact absurd hb hlt
     ·exact absurd rfl hb
    ·rw[List.all_eq_false];refine⟨y,hy,?_⟩;simp only[decide_eq_true_eq];rcases hb with hb|hb
     ·omega
     ·exact hb
   have hgood:(∀y∈acc,decA y=decA w)->0<=decA w->qaA l=(decA w,true,0):=fun h1 h2=>by
    rw[e2];apply if_neg;rintro(h|h)
    ·omega
    ·rw[List.all_eq_false]at h;obtain⟨y,hy,hh⟩:=h;exact hh (by simpa using h1 y (by rw[<-ha];exact List.mem_cons_of_mem _ hy))
   rw[ha]at hmem hlen⊢;have hwl:=hmem w (zqH hw0);clear e2 hacc e1;simp[hne];refine qaB (dlnInv acc (decA w) H) (fun fr _=>acc.length-(ai (aget fr 27)).toNat) ⟨rfl,0,by omega,by simp,by omega,friz⟩ ?_;rintro fr H' ⟨rfl,i,hi,hall,hm0,x,rfl⟩;by_cases h:i<acc.length
   ·obtain⟨u,hu⟩:∃u,acc[i]? =some u:=⟨_,zqD h⟩
    have hat:=qcB hu;have hum:=zqH hu;have hul:=hmem u hum;have hw:IntKind.i64.wrap ((i:Int)+1)=i+1:=wiz;simp[h,hat,hat0,hpos];refine qdD E _ _ u (by simp only[cap];omega) ?_;by_cases hneg:decA u<0
    ·simp[hneg];exact aQz hB (h6:=(fin _ (hbad u hum (.inl hneg))))
    simp[hneg,hat0,hpos];refine qdD E _ _ u (by simp only[cap];omega) ?_;simp[hat0,hpos];refine qdD E _ _ w (by simp only[cap];omega) ?_;by_cases heq:decA u=decA w
    ·simp[heq,hw];refine Klz ⟨rfl,i+1,by omega,fun y hy=>?_,fun _=>by omega,friz⟩;rw[List.take_add_one,hu]at hy;rcases List.mem_append.1 hy with hy|hy
     ·exact hall y hy
     ·simp at hy;subst hy;exact heq
    ·have heq':(decA u !=decA w)=true:=by simpa using heq
     simp[heq'];exact aQz hB (h6:=(fin _ (hbad u hum (.inr heq))))
   ·obtain rfl:i=acc.length:=by omega
    rw[zqE (Nat.le_refl _)]at hall;have hres:=hgood hall (hm0 hpos);simp[hat0,hpos];refine qdD E _ _ w (by simp only[cap];omega) ?_;simp;exact aQz hB (h6:=(fin _ hres))
theorem qkN(l:List Fld)(hl:fsz l+l.length<=4194304)(hQ:Q (.tup [.sl false 1 (strs (qaC l).1),.bool (qaC l).2.1,.int .i64 (qaC l).2.2]) H):PC Tryz.prog E 82 [.sl false 2 (flds l)] H Q:=by
 refine qac Tryz.func82 rfl [] [] (by kernel_rfl) (fun hB=>?_);have fin:∀a:List (List UInt8)×Bool×Int,qaC l=a->Q (.tup [.sl false 1 (strs a.1),.bool a.2.1,.int .i64 a.2.2]) H:=fun a ha=>ha▸hQ;have hcn:nTE.length<=cap:=by simp[nTE,cap]
 simp[Tryz.ntmps82,Tryz.results82,List.replicate_succ];refine qgV E _ _ l nTE (by omega) hcn ?_;by_cases h0:allB l nTE=[]
 ·have e:qaC l=([],false,0):=by unfold qaC;rw[if_pos h0]
  have hs0:strs ([]:List (List UInt8))=[]:=rfl;simp[h0,hs0];exact qat hB (v0:= .tup [.nil,.bool false,.int .i64 0]) (by simp) (qdd 1 _ _ rfl rfl) (by simp) (fin _ e)
 have h0':(((allB l nTE).length:Int)==0)=false:=by
  rw[beq_eq_false_iff_ne];intro e;exact h0 (List.length_eq_zero_iff.1 (by omega))
 simp[h0'];refine qhX E _ _ l nTE hl hcn ?_;by_cases he:(qbQ l nTE).2=0
 ·have e:qaC l=((qbQ l nTE).1,true,0):=by unfold qaC;rw[if_neg h0,if_pos he]
  simp[he];exact qat hB (v0:= .tup [.sl false 1 (strs (qbQ l nTE).1),.bool true,.int .i64 0]) (by simp) (qaa _) (by simp[qcu]) (fin _ e)
 ·have e:qaC l=([],false,67):=by unfold qaC;rw[if_neg h0,if_neg he]
  have he2:((qbQ l nTE).2 !=0)=true:=by simpa using he
  simp[he2];exact qat hB (v0:= .tup [.nil,.bool false,.int .i64 67]) (by simp) (qdd 1 _ _ rfl rfl) (by simp) (fin _ e)
theorem qkM(l:List Fld)(old:Bool)(hl:fsz l+l.length<=4194304)(hQ:Q (.tup [.int .i64 (qa9 l old).1,.int .i64 (qa9 l old).2.1,.int .i64 (qa9 l old).2.2]) H):PC Tryz.prog E 58 [.sl false 2 (flds l),.bool old] H Q:=by
 have fin:∀a:Int×Int×Int,qa9 l old=a->Q (.tup [.int .i64 a.1,.int .i64 a.2.1,.int .i64 a.2.2]) H:=fun a ha=>ha▸hQ;have hcl:=qlS l hl;refine qac Tryz.func58 rfl [] [] (by kernel_rfl) (fun hB=>?_);simp[Tryz.ntmps58,Tryz.results58,List.replicate_succ];refine qkN E _ _ l hl ?_;obtain⟨⟨cs,cd,ce⟩,hC⟩:=exz (qaC l);obtain⟨⟨n,tl,f⟩,hL⟩:=exz (qaA l);have hF:=qhT (old:=old) hC hL;rw[hC]at hcl;rw[hC];simp only at hcl⊢;by_cases h1:ce=0;rotate_left
 ·rw[if_pos (.inl h1)]at hF;have h1':(ce !=0)=true:=by simpa using h1
  simp[h1'];exact aQz hB (h6:=(fin _ hF))
 subst h1;cases cd with
 |true=>
  cases old with
  |true=>
   rw[if_pos (.inr ⟨rfl,.inl rfl⟩)]at hF;simp;exact aQz hB (h6:=(fin _ hF))
  |false=>
   by_cases h2:cs=[qbN]
   ·subst h2;rw[if_neg (by simp)]at hF;have hat:lat (strs [qbN]) 0=some [.str qbN]:=rfl;have hv:(qbN !=[99,104,117,110,107,101,100])=false:=by decide
    simp[hat,hv];refine qhY E _ _ l hl ?_;rw[hL];simp only;by_cases h3:f=0
    ·subst h3;rw[if_neg (by simp)]at hF;cases tl with
     |true=>
      rw[if_pos ⟨rfl,rfl⟩]at hF;simp;exact aQz hB (h6:=(fin _ hF))
     |false=>
      rw[if_neg (by simp),if_pos rfl]at hF;simp;exact aQz hB (h6:=(fin _ hF))
    ·rw[if_pos h3]at hF;have h3':(f !=0)=true:=by simpa using h3
     simp[h3'];exact aQz hB (h6:=(fin _ hF))
   ·rw[if_pos (.inr ⟨rfl,.inr h2⟩)]at hF
    match cs,h2 with
    |[],_=>
     simp;exact aQz hB (h6:=(fin _ hF))
    |[c],h2=>
     have hat:lat (strs [c]) 0=some [.str c]:=rfl;have hv:(c !=[99,104,117,110,107,101,100])=true:=by simpa[qbN]using h2
     simp[hat,hv];exact aQz hB (h6:=(fin _ hF))
    |c::d::r,_=>
     have hl:((r.length:Int)+1+1 !=1)=true:=by rw[bne_iff_ne];omega
     simp[hl];exact aQz hB (h6:=(fin _ hF))
 |false=>
  simp;refine qhY E _ _ l hl ?_;rw[hL];simp only;by_cases h3:f=0
  ·subst h3;cases tl with
   |true=>
    rw[if_neg (by simp),if_neg (by simp),if_neg (by simp),if_neg (by simp),if_pos rfl]at hF;simp;exact aQz hB (h6:=(fin _ hF))
   |false=>
    rw[if_neg (by simp),if_neg (by simp),if_neg (by simp),if_neg (by simp),if_neg (by simp)]at hF;simp;exact aQz hB (h6:=(fin _ hF))
  ·rw[if_neg (by simp),if_pos h3]at hF;have h3':(f !=0)=true:=by simpa using h3
   simp[h3'];exact aQz hB (h6:=(fin _ hF))
end
section
variable (E:Env)(H:Hp)(Q:AV->Hp->Prop)
theorem qjL(l:List UInt8)(hl:l.length<=cap)(hQ:Q (.tup [.agg [.str (qaO l).1.name,.str (qaO l).1.value],.int .i64 (qaO l).2.1,.int .i64 (qaO l).2.2]) H):
  PC Tryz.prog E 70 [.str l] H Q:=by
 refine qac Tryz.func70 rfl [] [] (by kernel_rfl) (fun hB=>?_);have hl':=hl;simp only[cap]at hl'
 have bad:∀(fr:List AV) (pl e:Int),qaO l=((⟨[],[]⟩:Fld),pl,e)->aget fr 2= .ptr (some (H.length,0))->aget fr 3= .int .i64 pl->aget fr 4= .int .i64 e->qbU Tryz.prog [ResultVar.cell 2 89,ResultVar.tmp 3,ResultVar.tmp 4] H.length Q .ret fr (H++[[.str [],.str []]]):=fun fr pl e h0 h2 h3 h4=>
  qab hB (v0:= .tup [.agg [.str [],.str []],.int .i64 pl,.int .i64 e]) (by simp[h2,h3,h4]) (qaa _) (by simp) (by rw[h0]at hQ;exact hQ)
 obtain⟨c,hc⟩:=exz (run ncol l);have hcl:=qbh ncol l;rw[hc]at hcl;have hib:=qcq l;rw[hc]at hib
 have hcase:(∃a r,l=a::r/\qah a=true)\/(l=[]\/∃a r,l=a::r/\qah a=false):=by
  cases l with
  |nil=>exact .inr (.inl rfl)
  |cons a r=>
   cases hb:qah a
   ·exact .inr (.inr ⟨a,r,rfl,hb⟩)
   ·exact .inl ⟨a,r,rfl,hb⟩
 have key:∀fr:List AV,(∃x:Nat->AV,fr=[.str l,x 1,.ptr (some (H.length,0)),x 3,x 4,x 5,x 6,x 7,x 8,x 9,x 10,x 11,x 12,x 13,x 14,x 15,x 16,x 17,x 18,x 19,x 20,x 21,x 22,x 23,x 24,x 25,x 26,x 27,x 28,x 29,x 30,x 31,x 32,x 33,x 34,x 35,x 36,x 37,x 38,x 39,x 40,x 41,x 42,x 43,x 44,x 45,x 46,x 47,x 48,x 49,x 50,x 51,x 52,x 53,x 54,x 55,x 56,x 57,x 58,x 59,x 60,x 61,x 62,x 63,x 64,x 65,x 66,x 67,x 68,x 69,x 70,x 71,x 72,x 73,x 74,x 75,x 76,x 77,x 78,x 79,x 80,x 81,x 82])->True:=fun _ _=>trivial;rcases hcase with⟨a,r,rfl,hb⟩|hcase
 ·have hc0:=qhL a r hb;have hne:(a::r !=[])=true:=rfl;simp[Tryz.ntmps70,Tryz.results70,List.replicate_succ,hne];refine qa3 E _ _ a ?_;simp[hb];exact bad _ 0 63 hc0 rfl rfl rfl
 case' inr=>
  rcases hcase with rfl|⟨a,r,hl0,hb⟩
  case' inl=>
   simp[Tryz.ntmps70,Tryz.results70,List.replicate_succ]
  case' inr=>
   have hne:(l !=[])=true:=by rw[hl0];rfl
   have hl1:0<l.length:=by rw[hl0];simp
   have hla:lat l 0=some a:=by rw[hl0];rfl
   simp[Tryz.ntmps70,Tryz.results70,List.replicate_succ,hne,hl1,hla];refine qa3 E _ _ a ?_;simp[hb];have hnf:lnb l=false:=by rw[hl0];exact hb
   clear hne hla hl0
 rotate_left
 ·refine qgN E _ _ [] 58 (by simp[cap]) ?_;rw[show Lib.indexByte [] 58= -1 from rfl];simp;exact bad _ 0 62 qjp rfl rfl rfl
 ·refine qgN E _ _ l 58 hl ?_;rw[hib];by_cases hcc:c<l.length;rotate_left
  ·have hno:=qgH hnf (by omega);simp[hcc];exact bad _ l.length 62 hno rfl rfl rfl
  ·by_cases hz:c=0
   ·have hno:=qhI hnf (by omega) (by omega);subst hz;simp[hcc];exact bad _ 0 60 hno rfl rfl rfl
   ·have hz2:((c:Int)==0)=false:=by simp;omega
    simp[hcc,hz,hz2];refine qaB (qrK l c H) (fun fr _=>c-(ai (aget fr 6)).toNat) ⟨rfl,0,by omega,by omega,by simp,friz⟩ ?_;rintro fr H' ⟨rfl,i,hi,hi2,hall,x,rfl⟩;by_cases h:i<c
    ·obtain⟨b,hbi⟩:∃b,l[i]? =some b:=⟨_,zqD (by omega)⟩
     have hat:=qaq hbi;by_cases h128:i=128
     ·have hno:=qhK hnf (by omega) (by omega) hall (by omega) (by omega) (by omega);subst h128;have h':(128:Int)<c:=by omega
      simp[h'];exact bad _ 128 60 hno rfl rfl rfl
     ·have h128':((i:Int)==128)=false:=by simp;omega
      have hw:IntKind.i64.wrap ((i:Int)+1)=i+1:=wiz;have hil:i<l.length:=by omega
      simp[h,h128',hat,hil];refine qdt E _ _ b ?_;cases hs:qap b with
      |false=>
       have hno:=qjr hnf (by omega) (by omega) hall (by omega) (by omega) hbi hs;simp;exact bad _ i 60 hno rfl rfl rfl
      |true=>
       simp[hw];exact Klz ⟨rfl,i+1,by omega,by omega,by rw[qbg qap l i b hbi,hall,hs];rfl,friz⟩
    ·obtain rfl:i=c:=by omega
     have hnm:qbK (l.take i)=true:=by
      have:l.take i≠[]:=by intro e;have h2:=congrArg List.length e;rw[zqJ]at h2;have h3:min i l.length=0:=h2;omega
      unfold qbK tokB;rw[hall,decide_eq_true (by rw[zqJ];omega)];simpa using this
     have hw:IntKind.i64.wrap ((i:Int)+1)=((i+1:Nat):Int):=by rw[qai (by omega) (by omega)];omega
     simp[hw,-Int.natCast_add];refine qaB (qrJ l i H) (fun fr _=>l.length-(ai (aget fr 7)).toNat) ⟨rfl,i+1,by omega,by omega,by simp[fldB],friz⟩ ?_;rintro fr H' ⟨rfl,k,hk,hk2,hfl,y,rfl⟩;by_cases hkl:k<l.length
     ·obtain⟨b,hbk⟩:∃b,l[k]? =some b:=⟨_,zqD hkl⟩
      have hat:=qaq hbk;have hwk:IntKind.i64.wrap ((k:Int)+1)=k+1:=wiz;have hdk:(l.drop (i+1))[k-(i+1)]? =some b:=by rw[zqN,show i+1+(k-(i+1))=k by omega];exact hbk
      simp[hkl,hat];refine qe2 E _ _ b ?_;cases hs:fcB b with
      |false=>
       have hno:=qjn hnf (by omega) (by rw[hc];exact hnm) (i:=k) (by omega) (by rw[hc];exact hfl) (by rw[hc];exact hdk) hs;simp;exact bad _ k 61 (by rw[hno];congr 2;omega) rfl rfl rfl
      |true=>
       simp[hwk];refine Klz ⟨rfl,k+1,by omega,by omega,?_,friz⟩;rw[show k+1-(i+1)=k-(i+1)+1 by omega,fldB,qbg fcB _ _ b hdk];rw[fldB]at hfl;rw[hfl,hs];rfl
     ·have hfl':fldB (l.drop (i+1))=true:=by
       rw[zqE (by rw[zqI];omega)]at hfl;exact hfl
      have hi1:i+1<=l.length:=by omega
      simp[hkl,hw,hi1,-Int.natCast_add];refine qcD E _ _ (l.drop (i+1)) (by rw[zqI];omega) ?_;have htl:=qgh (l.drop (i+1));rw[zqI]at htl;by_cases hbig:8192<(qaI (l.drop (i+1))).length
      ·have hno:=qjq hnf (by omega) (by rw[hc];exact hnm) (by rw[hc];exact hfl') (by rw[hc];exact hbig);have hbig':(8192:Int)<(qaI (l.drop (i+1))).length:=by omega
       simp[hbig',hw,-Int.natCast_add];refine qaB (qrI l i H) (fun fr _=>l.length-(ai (aget fr 9)).toNat) ⟨rfl,i+1,by omega,by omega,by simp,friz⟩ ?_;rintro fr H' ⟨rfl,m,hm,hm2,hbl,z,rfl⟩
       have hml:m<l.length:=by
        apply Nat.lt_of_not_le;intro hge;rw[zqE (by rw[zqI];omega)]at hbl;rw[qiP _ hbl]at hbig;simp at hbig
       obtain⟨b,hbm⟩:∃b,l[m]? =some b:=⟨_,zqD hml⟩
       have hat:=qaq hbm;have hwm:IntKind.i64.wrap ((m:Int)+1)=m+1:=wiz;have hwm2:IntKind.i64.wrap ((m:Int)+8192)=m+8192:=wiz;have hdm:(l.drop (i+1))[m-(i+1)]? =some b:=by rw[zqN,show i+1+(m-(i+1))=m by omega];exact hbm
       simp[hml,hat];refine qa3 E _ _ b ?_;cases hs:qah b with
       |false=>
        simp[hwm2];have hrb:=qbn qah (l.drop (i+1)) _ hbl (by rw[zqI];omega) (fun c hc=>by rw[hdm]at hc;cases hc;exact hs);exact bad _ (m+8192) 61 (by rw[hno,hc,hrb];congr 2;omega) rfl rfl rfl
       |true=>
        simp[hwm];refine Klz ⟨rfl,m+1,by omega,by omega,?_,friz⟩;rw[show m+1-(i+1)=m-(i+1)+1 by omega,qbg qah _ _ b hdm,hbl,hs];rfl
      ·have hbig':¬(8192:Int)<(qaI (l.drop (i+1))).length:=by omega
       have hf:=qjm hnf (by omega) (by rw[hc];exact hnm) (by rw[hc];exact hfl') (by rw[hc];exact hbig);rw[hc]at hf;rw[hf]at hQ;have hil:i<=l.length:=by omega
       simp[hbig',hil];exact qab hB (v0:= .tup [.agg [.str (l.take i),.str (qaI (l.drop (i+1)))],.int .i64 0,.int .i64 0]) (by simp) (qaa _) (by simp) hQ
end
end Go.Proofs.YtnnhdehmlkkfjaaGreatDoor
namespace Go.Proofs.YtnnhdehmlkkfjaaGreatDoor
open Go Go.RowKit
section
open Go.Lib
variable (E:Env){H:Hp}(Q:AV->Hp->Prop)
def lkN(state used st err at_:Int):List AV:=[.int .i64 state,.int .i64 used,.bool false,.str [],.str [],.int .i64 0,.int .i64 0,.nil,.str [],.nil,.bool false,.int .i64 st,.int .i64 err,.int .i64 at_]
theorem qau(st err met at_:Int)(h1: -1<=met)(h2:met<=4611686018427387904)(hQ:Q (Lk.av ⟨5,met+1,false,.zero,false,st,err,at_⟩) H):PC Tryz.prog E 47 [.int .i64 st,.int .i64 err,.int .i64 met,.int .i64 at_] H Q:=by
 refine PC.nilD ?_;refine qac Tryz.func47 rfl [] [] (by kernel_rfl) (fun hB=>?_);have w1:IntKind.i64.wrap (met+1)=met+1:=wiz;simp[Tryz.ntmps47,Tryz.results47,List.replicate_succ,w1];exact qab (v0:= .agg (lkN 5 (met+1) st err at_)) hB (by simp[lkN]) (qaa _) (by simp[lkN]) ⟨_,qaP (by simp[lkN,Lk.av,Rq.avs,Rq.zero,flds]),hQ⟩
theorem qee(st:Int)(s:List UInt8)(hQ:Q (Lk.av ⟨st,s.length,false,.zero,false,0,0,0⟩) H):PC Tryz.prog E 46 [.int .i64 st,.str s] H Q:=by
 refine PC.nilD ?_;refine qac Tryz.func46 rfl [] [] (by kernel_rfl) (fun hB=>?_);simp[Tryz.ntmps46,Tryz.results46,List.replicate_succ];exact qab (v0:= .agg (lkN st s.length 0 0 0)) hB (by simp[lkN]) (qaa _) (by simp[lkN]) ⟨_,qaP (by simp[lkN,Lk.av,Rq.avs,Rq.zero,flds]),hQ⟩
theorem qkL(c:UInt8)(k:Nat)(hk:k<10)(hQ:Q (.bool (qaJ k c)) H):PC Tryz.prog E 49 [.int .u8 (c.toNat:Int),.int .i64 (k:Int)] H Q:=by
 refine qac Tryz.func49 rfl [] [] (by kernel_rfl) (fun hB=>?_);rcases(by omega:k=0\/k=1\/k=2\/k=3\/k=4\/k=5\/k=6\/k=7\/k=8\/k=9)with rfl|rfl|rfl|rfl|rfl|rfl|rfl|rfl|rfl|rfl
 ·have e:qaJ 0 c=((c.toNat:Int)==72):=by rw[Bool.eq_iff_iff];simp[qaJ,<-UInt8.toNat_inj];omega
  rw[e]at hQ;have hla:lat ([72,84,84,80,47,48,46,48,13,10]:List UInt8) 0=some 72:=rfl;simp[Tryz.ntmps49,Tryz.results49,List.replicate_succ,hla];exact aQz hB (h6:=hQ)
 ·have e:qaJ 1 c=((c.toNat:Int)==84):=by rw[Bool.eq_iff_iff];simp[qaJ,<-UInt8.toNat_inj];omega
  rw[e]at hQ;have hla:lat ([72,84,84,80,47,48,46,48,13,10]:List UInt8) 1=some 84:=rfl;simp[Tryz.ntmps49,Tryz.results49,List.replicate_succ,hla];exact aQz hB (h6:=hQ)
 ·have e:qaJ 2 c=((c.toNat:Int)==84):=by rw[Bool.eq_iff_iff];simp[qaJ,<-UInt8.toNat_inj];omega
  rw[e]at hQ;have hla:lat ([72,84,84,80,47,48,46,48,13,10]:List UInt8) 2=some 84:=rfl;simp[Tryz.ntmps49,Tryz.results49,List.replicate_succ,hla];exact aQz hB (h6:=hQ)
 ·have e:qaJ 3 c=((c.toNat:Int)==80):=by rw[Bool.eq_iff_iff];simp[qaJ,<-UInt8.toNat_inj];omega
  rw[e]at hQ;have hla:lat ([72,84,84,80,47,48,46,48,13,10]:List UInt8) 3=some 80:=rfl;simp[Tryz.ntmps49,Tryz.results49,List.replicate_succ,hla];exact aQz hB (h6:=hQ)
 ·have e:qaJ 4 c=((c.toNat:Int)==47):=by rw[Bool.eq_iff_iff];simp[qaJ,<-UInt8.toNat_inj];omega
  rw[e]at hQ;have hla:lat ([72,84,84,80,47,48,46,48,13,10]:List UInt8) 4=some 47:=rfl;simp[Tryz.ntmps49,Tryz.results49,List.replicate_succ,hla];exact aQz hB (h6:=hQ)
 ·have e:qaJ 5 c=qbI c:=by rw[Bool.eq_iff_iff];simp[qaJ,qbI]
  rw[e]at hQ;have hla:lat ([72,84,84,80,47,48,46,48,13,10]:List UInt8) 5=some 48:=rfl;simp[Tryz.ntmps49,Tryz.results49,List.replicate_succ,hla];refine qdw E _ _ c ?_
  generalize qbI c=z at hQ⊢
  simp;exact aQz hB (h6:=hQ)
 ·have e:qaJ 6 c=((c.toNat:Int)==46):=by rw[Bool.eq_iff_iff];simp[qaJ,<-UInt8.toNat_inj];omega
  rw[e]at hQ;have hla:lat ([72,84,84,80,47,48,46,48,13,10]:List UInt8) 6=some 46:=rfl;simp[Tryz.ntmps49,Tryz.results49,List.replicate_succ,hla];exact aQz hB (h6:=hQ)
 ·have e:qaJ 7 c=qbI c:=by rw[Bool.eq_iff_iff];simp[qaJ,qbI]
  rw[e]at hQ;have hla:lat ([72,84,84,80,47,48,46,48,13,10]:List UInt8) 7=some 48:=rfl;simp[Tryz.ntmps49,Tryz.results49,List.replicate_succ,hla];refine qdw E _ _ c ?_
  generalize qbI c=z at hQ⊢
  simp;exact aQz hB (h6:=hQ)
 ·have e:qaJ 8 c=((c.toNat:Int)==13):=by rw[Bool.eq_iff_iff];simp[qaJ,<-UInt8.toNat_inj];omega
  rw[e]at hQ;have hla:lat ([72,84,84,80,47,48,46,48,13,10]:List UInt8) 8=some 13:=rfl;simp[Tryz.ntmps49,Tryz.results49,List.replicate_succ,hla];exact aQz hB (h6:=hQ)
 ·have e:qaJ 9 c=((c.toNat:Int)==10):=by rw[Bool.eq_iff_iff];simp[qaJ,<-UInt8.toNat_inj];omega
  rw[e]at hQ;have hla:lat ([72,84,84,80,47,48,46,48,13,10]:List UInt8) 9=some 10:=rfl;simp[Tryz.ntmps49,Tryz.results49,List.replicate_succ,hla];exact aQz hB (h6:=hQ)
theorem qpL(m f r:Int)(hr:0<=r)(s:List UInt8)(hs:s.length<=1000000000)(hm:0<=m/\m<=9223372036854775807)
  (hQ:∀t e dn B T,Ends m r f s t e dn B T->Q (wkA t e dn B (.sl false 2 (flds T))) H):
  PC Tryz.prog E 97 [.str s,.int .i64 m,.int .i64 r,.int .i64 f] H Q:=by
 obtain⟨r',rfl⟩:=Int.eq_ofNat_of_zero_le hr;exact qrU E _ Q m f r' s hs hm hQ
end
theorem Lk.bnd(x:Lk)(N:Nat):Bnd N x.av:=by
 refine .agg _ fun y hy=>?_;simp only[Rq.avs,List.mem_append,List.mem_cons,List.not_mem_nil,or_false]at hy;rcases hy with(((rfl|rfl|rfl)|(rfl|rfl|rfl|rfl|rfl|rfl|rfl))|(rfl|rfl|rfl|rfl))<;>first|exact qbZ _ _ _|constructor
theorem qbP(p:Prs)(st err at_:Int):qaE (SR.bad p st err at_).prs=⟨5,p.used+1,false,.zero,false,st,err,at_⟩:=by simp[qaE,SR.prs]
theorem qm9{q p:Prs}{s R:List UInt8}{i n:Nat}{t:Nat}{e:Int}{dn:Bool}{B:List UInt8}{T:List Fld}(hf:qaf q s=((qaf (adv {p with state:=3,dec:=some (newD p.lb p.lh p.lf)} (some .chunked)) R).1,n))(hu:p.used=i)(hb:p.bodied=false)(hEn:Ends p.lb p.lh p.lf R t e dn B T):
  (e≠0->qaE (qaf q s).1=⟨5,((i+t:Nat):Int)+1,false,.zero,false,stC e,e,((i+t:Nat):Int)⟩)/\
  (e=0->dn=true->qaE (qaf q s).1=⟨4,((i+1+t:Nat):Int),true,⟨p.meth,p.targ,p.major,p.minor,p.fields,B,T⟩,false,0,0,0⟩)/\
  (e=0->dn=false->qaE (qaf q s).1=⟨3,((i+1+R.length:Nat):Int),true,⟨p.meth,p.targ,p.major,p.minor,p.fields,[],[]⟩,R.isEmpty&&!decide (p.minor=0)&&expB p.fields,0,0,0⟩):=by
 obtain⟨e1,e2,e3,e4,e5⟩:=hEn;obtain⟨c1,c2,c3⟩:=qh0 R (adv {p with state:=3,dec:=some (newD p.lb p.lh p.lf)} (some .chunked)) (newD p.lb p.lh p.lf) rfl rfl ⟨rfl,rfl⟩;rw[hf];refine⟨fun he=>?_,fun he hd=>?_,fun he hd=>?_⟩
 ·rw[c1 (by rw[e2];exact he)];simp only[qaE,adv,if_true,e1,e2,hu,Lk.mk.injEq,true_and,and_true];exact⟨by omega,by omega⟩
 ·rw[c2 (by rw[e2];exact he) (by rw[e3];exact hd)];simp only[qaE,adv,e1,e4,e5,hu,Prs.rq];rw[if_neg (by decide),if_pos trivial];simp only[Lk.mk.injEq,true_and,and_true];omega
 ·rw[c3 (by rw[e2];exact he) (by rw[e3];exact hd)];simp only[qaE,adv,hu,Prs.rqH,Prs.waits,hb];rw[if_neg (by decide),if_neg (by decide),if_pos trivial];simp only[Lk.mk.injEq,true_and,and_true];refine⟨by omega,?_⟩;simp
theorem qqT{q p:Prs}{s R:List UInt8}{i n:Nat}{l:Int}(hf:qaf q s=((qaf (adv {p with state:=3,left:=l} (some .counted)) R).1,n))(hu:p.used=i)(hb:p.bodied=false)(hl:0<l)(hR:(R.length:Int)<l):
  qaE (qaf q s).1=⟨3,((i+1+R.length:Nat):Int),true,⟨p.meth,p.targ,p.major,p.minor,p.fields,[],[]⟩,R.isEmpty&&!decide (p.minor=0)&&expB p.fields,0,0,0⟩:=by
 obtain⟨c1,c2⟩:=qd1 R (adv {p with state:=3,left:=l} (some .counted)) rfl hl;rw[hf,c1 hR];simp only[qaE,adv,hu,Prs.rqH,Prs.waits,hb];rw[if_neg (by decide),if_neg (by decide),if_pos trivial];simp only[Lk.mk.injEq,true_and,and_true];refine⟨by omega,?_⟩;simp
theorem qqU{q p:Prs}{s R:List UInt8}{i n:Nat}{l:Int}(hf:qaf q s=((qaf (adv {p with state:=3,left:=l} (some .counted)) R).1,n))(hu:p.used=i)(hb:p.body=[])(ht:p.trailers=[])(hl:0<l)(hR:l<=(R.length:Int)):
  qaE (qaf q s).1=⟨4,((i+1+l.toNat:Nat):Int),true,⟨p.meth,p.targ,p.major,p.minor,p.fields,R.take l.toNat,[]⟩,false,0,0,0⟩:=by
 obtain⟨c1,c2⟩:=qd1 R (adv {p with state:=3,left:=l} (some .counted)) rfl hl;rw[hf,c2 hR];simp only[qaE,adv,hu,Prs.rq,hb,ht];rw[if_neg (by decide),if_pos trivial];simp only[Lk.mk.injEq,true_and,and_true,List.nil_append];omega
theorem qiM{q p:Prs}{s R:List UInt8}{i n:Nat}(hf:qaf q s=((qaf (adv {p with state:=4,rbody:=p.body} none) R).1,n))(hu:p.used=i)(hb:p.body=[])(ht:p.trailers=[]):
  qaE (qaf q s).1=⟨4,((i+1:Nat):Int),true,⟨p.meth,p.targ,p.major,p.minor,p.fields,[],[]⟩,false,0,0,0⟩:=by
 rw[hf,qa5 R rfl];simp only[qaE,adv,hu,Prs.rq,hb,ht];rw[if_neg (by decide),if_pos trivial];rfl
theorem qoj(l:List Fld)(old:Bool):(qe3 l old).1.length<=fsz l:=by
 have hsz:=qff l [72,111,115,116];unfold qe3;rcases hal:allB l [72,111,115,116]with _|⟨v,_|⟨w,t⟩⟩
 ·simp only;split<;>exact Nat.zero_le _
 ·rw[hal]at hsz;simp only;split
  ·exact Nat.zero_le _
  ·exact hsz v (.head _)
 ·exact Nat.zero_le _
theorem qjD(l:List Fld)(old:Bool):((qa9 l old).1≠1->(qa9 l old).1≠2->(qa9 l old).2.1=0)/\0<=(qa9 l old).2.1:=by
 have hl:0<=(qaA l).1:=by
  unfold qaA
  repeat' split
  all_goals first|exact Int.le_refl _|skip
  rename_i h;simp only[not_or]at h;show 0<=decA _;omega
 unfold qa9
 repeat' split
 all_goals first|exact⟨fun h=>absurd rfl h,hl⟩|exact⟨fun _ h=>absurd rfl h,Int.le_refl _⟩|exact⟨fun _ _=>rfl,Int.le_refl _⟩
def lenS(p:Prs)(kd ln:Int):SR:=
 if p.lb<ln then qao p 413 114
 else if kd=2 then .go {p with state:=3,dec:=some (newD p.lb p.lh p.lf)} (some .chunked)
 else if 0<ln then .go {p with state:=3,left:=ln} (some .counted)
 else qcK {p with state:=3}
def expS(p:Prs)(kd ln:Int):SR:=
 if allB p.fields [69,120,112,101,99,116]≠[]/\((qbQ p.fields [69,120,112,101,99,116]).2≠0\/(qbQ p.fields [69,120,112,101,99,116]).1≠[[49,48,48,45,99,111,110,116,105,110,117,101]])then qao p 417 116
 else lenS p kd ln
theorem qnB{I P:List AV->Hp->Prop}{G:Prop}(main:(∀fr H',I fr H'->P fr H')->G)(tail:∀fr H',I fr H'->P fr H'):G:=main tail
section
open Go.Lib
variable (E:Env){H:Hp}(Q:AV->Hp->Prop)
def hdK(p:Prs)(H:Hp):Hp:=H++[[.int .i64 p.lt,.int .i64 p.lh,.int .i64 p.lf,.int .i64 p.lb],[.str p.meth,.str p.targ,.int .i64 p.major,.int .i64 p.minor,.sl false 2 (flds p.fields),.str [],.sl false 2 []],[.int .i64 0,.int .i64 0,.bool false,.str [],.str [],.int .i64 0,.int .i64 0,.nil,.str [],.nil,.bool false,.int .i64 0,.int .i64 0,.int .i64 0]]
def hdI1(p:Prs)(s R:List UInt8)(i:Nat)(old hok:Bool)(kd ln:Int)(H:Hp)(fr:List AV)(K:Hp):Prop:=qa1 p=expS p kd ln/\K=hdK p H/\
 ∃x:Nat->AV,fr=[x 0,.str s,.int .i64 (i:Int),x 3,.ptr (some (H.length,0)),x 5,x 6,.ptr (some (H.length+1,0)),.ptr (some (H.length+2,0)),.bool old,.int .i64 kd,.int .i64 ln,x 12,x 13,x 14,x 15,x 16,x 17,x 18,x 19,x 20,x 21,x 22,x 23,x 24,x 25,x 26,x 27,x 28,x 29,x 30,x 31,x 32,x 33,x 34,x 35,x 36,x 37,x 38,x 39,x 40,x 41,x 42,x 43,x 44,x 45,x 46,x 47,x 48,x 49,x 50,x 51,x 52,x 53,x 54,x 55,x 56,x 57,x 58,x 59,x 60,x 61,x 62,x 63,x 64,x 65,x 66,x 67,x 68,x 69,x 70,x 71,x 72,x 73,x 74,x 75,x 76,x 77,x 78,x 79,x 80,x 81,x 82,x 83,x 84,x 85,x 86,x 87,x 88,x 89,x 90,x 91,x 92,x 93,x 94,x 95,x 96,x 97,x 98,x 99,x 100,x 101,x 102,x 103,x 104,x 105,x 106,x 107,x 108,x 109,x 110,x 111,x 112,x 113,x 114,x 115,x 116,x 117,x 118,x 119,x 120,x 121,x 122,x 123,x 124,x 125,x 126,x 127,x 128,x 129,x 130,x 131,x 132,x 133,x 134,x 135,x 136,x 137,x 138,x 139,x 140,x 141,x 142,x 143,x 144,x 145,x 146,x 147,x 148,x 149,x 150,x 151,x 152,x 153,x 154,x 155,x 156,x 157,x 158,x 159,x 160,x 161,x 162,x 163,x 164,x 165,x 166,x 167,x 168,x 169,x 170,x 171,x 172,x 173,x 174,x 175,x 176,x 177,x 178,x 179,x 180,x 181,x 182,x 183,x 184,x 185,x 186,x 187,x 188,x 189,x 190,x 191,x 192,x 193,x 194,x 195,x 196,x 197,x 198]
def hdI2(p:Prs)(s R:List UInt8)(i:Nat)(old:Bool)(ex:Bool)(kd ln:Int)(H:Hp)(fr:List AV)(K:Hp):Prop:=qa1 p=lenS p kd ln/\K=hdK p H/\
 ∃x:Nat->AV,fr=[x 0,.str s,.int .i64 (i:Int),x 3,.ptr (some (H.length,0)),x 5,x 6,.ptr (some (H.length+1,0)),.ptr (some (H.length+2,0)),.bool old,.int .i64 kd,.int .i64 ln,x 12,x 13,x 14,x 15,x 16,x 17,.bool ex,x 19,x 20,x 21,x 22,x 23,x 24,x 25,x 26,x 27,x 28,x 29,x 30,x 31,x 32,x 33,x 34,x 35,x 36,x 37,x 38,x 39,x 40,x 41,x 42,x 43,x 44,x 45,x 46,x 47,x 48,x 49,x 50,x 51,x 52,x 53,x 54,x 55,x 56,x 57,x 58,x 59,x 60,x 61,x 62,x 63,x 64,x 65,x 66,x 67,x 68,x 69,x 70,x 71,x 72,x 73,x 74,x 75,x 76,x 77,x 78,x 79,x 80,x 81,x 82,x 83,x 84,x 85,x 86,x 87,x 88,x 89,x 90,x 91,x 92,x 93,x 94,x 95,x 96,x 97,x 98,x 99,x 100,x 101,x 102,x 103,x 104,x 105,x 106,x 107,x 108,x 109,x 110,x 111,x 112,x 113,x 114,x 115,x 116,x 117,x 118,x 119,x 120,x 121,x 122,x 123,x 124,x 125,x 126,x 127,x 128,x 129,x 130,x 131,x 132,x 133,x 134,x 135,x 136,x 137,x 138,x 139,x 140,x 141,x 142,x 143,x 144,x 145,x 146,x 147,x 148,x 149,x 150,x 151,x 152,x 153,x 154,x 155,x 156,x 157,x 158,x 159,x 160,x 161,x 162,x 163,x 164,x 165,x 166,x 167,x 168,x 169,x 170,x 171,x 172,x 173,x 174,x 175,x 176,x 177,x 178,x 179,x 180,x 181,x 182,x 183,x 184,x 185,x 186,x 187,x 188,x 189,x 190,x 191,x 192,x 193,x 194,x 195,x 196,x 197,x 198]
def hdI3(p:Prs)(s:List UInt8)(i:Nat)(WV:Bool)(kd ln:Int)(H:Hp)(fr:List AV)(K:Hp):Prop:=K=H++[[.int .i64 p.lt,.int .i64 p.lh,.int .i64 p.lf,.int .i64 p.lb],[.str p.meth,.str p.targ,.int .i64 p.major,.int .i64 p.minor,.sl false 2 (flds p.fields),.str [],.sl false 2 []],[.int .i64 0,.int .i64 0,.bool false,.str [],.str [],.int .i64 0,.int .i64 0,.nil,.str [],.nil,.bool false,.int .i64 0,.int .i64 0,.int .i64 0],[.int .i64 3,.int .i64 (s.length:Int),.bool true,.str p.meth,.str p.targ,.int .i64 p.major,.int .i64 p.minor,.sl false 2 (flds p.fields),.str [],.sl false 2 [],.bool WV,.int .i64 0,.int .i64 0,.int .i64 0]]/\
 ∃x:Nat->AV,fr=[x 0,.str s,.int .i64 ((i+1:Nat):Int),x 3,.ptr (some (H.length,0)),x 5,x 6,.ptr (some (H.length+1,0)),.ptr (some (H.length+2,0)),x 9,.int .i64 kd,.int .i64 ln,x 12,x 13,x 14,x 15,x 16,x 17,x 18,x 19,x 20,.ptr (some (H.length+3,0)),x 22,x 23,x 24,x 25,x 26,x 27,x 28,x 29,x 30,x 31,x 32,x 33,x 34,x 35,x 36,x 37,x 38,x 39,x 40,x 41,x 42,x 43,x 44,x 45,x 46,x 47,x 48,x 49,x 50,x 51,x 52,x 53,x 54,x 55,x 56,x 57,x 58,x 59,x 60,x 61,x 62,x 63,x 64,x 65,x 66,x 67,x 68,x 69,x 70,x 71,x 72,x 73,x 74,x 75,x 76,x 77,x 78,x 79,x 80,x 81,x 82,x 83,x 84,x 85,x 86,x 87,x 88,x 89,x 90,x 91,x 92,x 93,x 94,x 95,x 96,x 97,x 98,x 99,x 100,x 101,x 102,x 103,x 104,x 105,x 106,x 107,x 108,x 109,x 110,x 111,x 112,x 113,x 114,x 115,x 116,x 117,x 118,x 119,x 120,x 121,x 122,x 123,x 124,x 125,x 126,x 127,x 128,x 129,x 130,x 131,x 132,x 133,x 134,x 135,x 136,x 137,x 138,x 139,x 140,x 141,x 142,x 143,x 144,x 145,x 146,x 147,x 148,x 149,x 150,x 151,x 152,x 153,x 154,x 155,x 156,x 157,x 158,x 159,x 160,x 161,x 162,x 163,x 164,x 165,x 166,x 167,x 168,x 169,x 170,x 171,x 172,x 173,x 174,x 175,x 176,x 177,x 178,x 179,x 180,x 181,x 182,x 183,x 184,x 185,x 186,x 187,x 188,x 189,x 190,x 191,x 192,x 193,x 194,x 195,x 196,x 197,x 198]
theorem qlO(q p0 p:Prs)(s:List UInt8)(i:Nat)(m:Md)(c:UInt8)(hF:Fd q s p0 i)(hc:s[i]? =some c)(hm:p0.nx=some m)(hs:qbr p0 m c=qa1 p)(hu:p.used=i)(hb:p.bodied=false)(hbo:p.body=[])(htr:p.trailers=[])
  (hlh:0<=p.lh) (hlb:0<=p.lb/\p.lb<=1073741824) (hsz:fsz p.fields+p.fields.length<=4194304) (hl:s.length<=1000000000) (hQ:Q (qaE (qaf q s).1).av H):
  PC Tryz.prog E 69 [limV p.lt p.lh p.lf p.lb,.str s,.int .i64 (i:Int),(Rq.mk p.meth p.targ p.major p.minor p.fields [] []).av] H Q:=by
 refine qjc (fun i=>i=H.length+4) Tryz.func69 rfl [] [(26,[0,0,0,0,0,0,0,0,0,4]),(36,[0,0,0,2,0,2])] (by kernel_rfl) (fun E' hS' h0' hF' hB=>?_);have fin:∀x:Lk,qaE (qaf q s).1=x->Q x.av H:=fun x hx=>hx▸hQ;clear hQ;have hlt:=(zqC.1 hc).1;obtain⟨R,hR⟩:=exz (s.drop (i+1));have hRl:R.length=s.length-(i+1):=by rw[<-hR,zqI]
 have htR:R.take (s.length-(i+1))=R:=zqE (by omega);have hRs:((i+1+R.length:Nat):Int)=(s.length:Int):=by omega
 have bad:∀st err,qa1 p=qao p st err->qaE (qaf q s).1=⟨5,(i:Int)+1,false,.zero,false,st,err,(i:Int)⟩:=fun st err h=>by
  unfold qao at h;rw[Fd.bad hF hc hm (hs.trans h),qbP,hu]
 have gol:∀p1 nx,qa1 p= .go p1 nx->qaf q s=((qaf (adv p1 nx) R).1,(qaf (adv p1 nx) R).2+(i+1)):=fun p1 nx h=>by
  have:=(Fd.go hF hc hm (hs.trans h)).2;rwa[hR]at this
 have w1:IntKind.i64.wrap ((i:Int)+1)=((i+1:Nat):Int):=by rw[qai (by omega) (by omega)];omega
 have q1:i+1<=s.length:=hlt;obtain⟨W,hW⟩:=exz (R.isEmpty)
 have hWl:(((i+1:Nat):Int)==(s.length:Int))=W:=by
  rw[<-hW,Bool.eq_iff_iff];simp;rw[<-List.length_eq_zero_iff];omega
 obtain⟨old,hold⟩:=exz ((p.minor==0));have hold2:decide (p.minor=0)=old:=by rw[<-hold];rfl
 have hS:qa1 p=qa1 p:=rfl
 conv at hS=>rhs;unfold qa1
 dsimp only at hS;rw[hold2]at hS;have hkind:=qjD p.fields old;obtain⟨kd,ln,e0,hFr⟩:∃kd ln e0,qa9 p.fields old=(kd,ln,e0):=⟨_,_,_,rfl⟩
 obtain⟨h,hok,e1,hHo⟩:∃h hok e1,qe3 p.fields old=(h,hok,e1):=⟨_,_,_,rfl⟩
 rw[hFr]at hkind;obtain⟨hk,hln0⟩:=hkind;simp only at hk hln0;rw[hFr,hHo]at hS;simp only at hS;simp[Tryz.ntmps69,Tryz.results69,List.replicate_succ,limV,Rq.av,Rq.avs,hold];refine qkM E' _ _ p.fields old (by omega) ?_;rw[hFr];by_cases h67:e0=67
 ·subst h67;rw[if_pos rfl]at hS;simp[w1,-Int.natCast_add];refine qau E' _ 501 67 (i:Int) (i:Int) (by omega) (by omega) ?_;simp[Lk.av,Rq.avs,Rq.zero,flds,-Int.natCast_add];exact qab (v0:=Lk.av ⟨5,(i:Int)+1,false,.zero,false,501,67,(i:Int)⟩) (v:=Lk.av ⟨5,(i:Int)+1,false,.zero,false,501,67,(i:Int)⟩) hB (by simp[Lk.av,Rq.avs,Rq.zero,flds]) (qaa _) (Lk.bnd ⟨5,(i:Int)+1,false,.zero,false,501,67,(i:Int)⟩ _) (fin ⟨5,(i:Int)+1,false,.zero,false,501,67,(i:Int)⟩ (bad _ _ hS))
 ·rw[if_neg h67]at hS;have h67':(e0==67)=false:=by simpa using h67
  by_cases h0:e0=0
  ·subst h0;rw[if_neg (by simp)]at hS;simp;refine qnJ E' _ p.fields old (by omega) (fun h' hok' e1' hx=>?_);rw[hHo]at hx;obtain⟨rfl,rfl,rfl⟩:h=h'/\hok=hok'/\e1=e1':=by simpa using hx
   by_cases he1:e1=0
   ·subst he1;rw[if_neg (by simp)]at hS;simp;apply qnB (I:=hdI1 p s R i old hok kd ln H)
    ·intro tail;by_cases hh:h=[]
     ·rw[if_neg (fun x=>x.1 hh)]at hS;subst hh;simp[-qaZ];exact tail _ _ ⟨hS,rfl,qam (by simp[flds])⟩
     ·have hh':(h !=[])=true:=by simpa using hh
      have hhl:h.length<=1073741824:=by
       have:=qoj p.fields old;rw[hHo]at this;simp only at this;omega
      simp[hh'];refine qgs E' _ h hhl (fun h2 p2 e2 hA=>?_);rw[hA]at hS;simp only at hS;simp;by_cases he2:e2=0
      ·subst he2;rw[if_neg (fun x=>x.2 rfl)]at hS;simp[-qaZ];exact tail _ _ ⟨hS,rfl,qam (by simp[flds])⟩
      ·rw[if_pos ⟨hh,he2⟩]at hS;have b1:(e2==0)=false:=by simpa using he2
       have b2:(e2 !=0)=true:=by simpa using he2
       simp[b1,b2,-Int.natCast_add];refine qau E' _ 400 e2 (i:Int) (i:Int) (by omega) (by omega) ?_;simp[Lk.av,Rq.avs,Rq.zero,flds,-Int.natCast_add];exact qab (v0:=Lk.av ⟨5,(i:Int)+1,false,.zero,false,400,e2,(i:Int)⟩) (v:=Lk.av ⟨5,(i:Int)+1,false,.zero,false,400,e2,(i:Int)⟩) hB (by simp[Lk.av,Rq.avs,Rq.zero,flds]) (qaa _) (Lk.bnd ⟨5,(i:Int)+1,false,.zero,false,400,e2,(i:Int)⟩ _) (fin ⟨5,(i:Int)+1,false,.zero,false,400,e2,(i:Int)⟩ (bad _ _ hS))
    clear hS;rintro _ _ ⟨hS,rfl,x,rfl⟩;simp[hdK];refine qgV E' _ _ p.fields [69,120,112,101,99,116] (by omega) (by decide) ?_;simp;apply qnB (I:=hdI2 p s R i old (expB p.fields) kd ln H)
    ·intro tail;unfold expS at hS;cases hexp:expB p.fields with
     |false=>
      have hnil:allB p.fields [69,120,112,101,99,116]=[]:=by unfold expB expL at hexp;simpa using hexp
      rw[if_neg (fun h=>h.1 hnil)]at hS;rw[hexp]at tail;simp[hnil,-qaZ];exact tail _ _ ⟨hS,rfl,qam (by simp[flds])⟩
     |true=>
      have hnil:allB p.fields [69,120,112,101,99,116]≠[]:=by unfold expB expL at hexp;simpa using hexp
      have hpos:0<(allB p.fields [69,120,112,101,99,116]).length:=List.length_pos_iff.2 hnil;rw[hexp]at tail;simp[hpos];refine qhX E' _ _ p.fields [69,120,112,101,99,116] (by omega) (by decide) ?_;obtain⟨tl,te,htk⟩:∃tl te,qbQ p.fields [69,120,112,101,99,116]=(tl,te):=⟨_,_,rfl⟩
      rw[htk]at hS⊢;simp only at hS;by_cases hte:te=0
      ·subst hte;rcases tl with _|⟨t0,_|⟨t1,tr⟩⟩
       ·rw[if_pos ⟨hnil,.inr (by simp)⟩]at hS;simp[strs,-Int.natCast_add];refine qau E' _ 417 116 (i:Int) (i:Int) (by omega) (by omega) ?_;simp[Lk.av,Rq.avs,Rq.zero,flds,-Int.natCast_add];exact qab (v0:=Lk.av ⟨5,(i:Int)+1,false,.zero,false,417,116,(i:Int)⟩) (v:=Lk.av ⟨5,(i:Int)+1,false,.zero,false,417,116,(i:Int)⟩) hB (by simp[Lk.av,Rq.avs,Rq.zero,flds]) (qaa _) (Lk.bnd ⟨5,(i:Int)+1,false,.zero,false,417,116,(i:Int)⟩ _) (fin ⟨5,(i:Int)+1,false,.zero,false,417,116,(i:Int)⟩ (bad _ _ hS))
       ·have hat0:lat (strs [t0]) 0=some [AV.str t0]:=rfl;simp[hat0];by_cases ht0:t0=[49,48,48,45,99,111,110,116,105,110,117,101]
        ·subst ht0;rw[if_neg (fun h=>h.2.elim (fun h=>h rfl) (fun h=>h rfl))]at hS;simp[-qaZ];exact tail _ _ ⟨hS,rfl,qam (by simp[flds])⟩
        ·rw[if_pos ⟨hnil,.inr (by simpa using ht0)⟩]at hS;have ht0':(t0==[49,48,48,45,99,111,110,116,105,110,117,101])=false:=by simpa using ht0
         have ht0'':(t0 !=[49,48,48,45,99,111,110,116,105,110,117,101])=true:=by simpa using ht0
         simp[ht0',ht0'',-Int.natCast_add];refine qau E' _ 417 116 (i:Int) (i:Int) (by omega) (by omega) ?_;simp[Lk.av,Rq.avs,Rq.zero,flds,-Int.natCast_add];exact qab (v0:=Lk.av ⟨5,(i:Int)+1,false,.zero,false,417,116,(i:Int)⟩) (v:=Lk.av ⟨5,(i:Int)+1,false,.zero,false,417,116,(i:Int)⟩) hB (by simp[Lk.av,Rq.avs,Rq.zero,flds]) (qaa _) (Lk.bnd ⟨5,(i:Int)+1,false,.zero,false,417,116,(i:Int)⟩ _) (fin ⟨5,(i:Int)+1,false,.zero,false,417,116,(i:Int)⟩ (bad _ _ hS))
       ·rw[if_pos ⟨hnil,.inr (by simp)⟩]at hS;have g1:¬((tr.length:Int)+1+1)=1:=by omega
        have g2:((tr.length:Int)+1+1 !=1)=true:=by simpa using g1
        have g3:(((tr.length+1+1:Nat):Int) !=1)=true:=by simp;omega
        simp[strs,g1,g2,g3,-Int.natCast_add];refine qau E' _ 417 116 (i:Int) (i:Int) (by omega) (by omega) ?_;simp[Lk.av,Rq.avs,Rq.zero,flds,-Int.natCast_add];exact qab (v0:=Lk.av ⟨5,(i:Int)+1,false,.zero,false,417,116,(i:Int)⟩) (v:=Lk.av ⟨5,(i:Int)+1,false,.zero,false,417,116,(i:Int)⟩) hB (by simp[Lk.av,Rq.avs,Rq.zero,flds]) (qaa _) (Lk.bnd ⟨5,(i:Int)+1,false,.zero,false,417,116,(i:Int)⟩ _) (fin ⟨5,(i:Int)+1,false,.zero,false,417,116,(i:Int)⟩ (bad _ _ hS))
      ·rw[if_pos ⟨hnil,.inl hte⟩]at hS;have hte':(te==0)=false:=by simpa using hte
       have hte2:(te !=0)=true:=by simpa using hte
       simp[hte',hte2,-Int.natCast_add];refine qau E' _ 417 116 (i:Int) (i:Int) (by omega) (by omega) ?_;simp[Lk.av,Rq.avs,Rq.zero,flds,-Int.natCast_add];exact qab (v0:=Lk.av ⟨5,(i:Int)+1,false,.zero,false,417,116,(i:Int)⟩) (v:=Lk.av ⟨5,(i:Int)+1,false,.zero,false,417,116,(i:Int)⟩) hB (by simp[Lk.av,Rq.avs,Rq.zero,flds]) (qaa _) (Lk.bnd ⟨5,(i:Int)+1,false,.zero,false,417,116,(i:Int)⟩ _) (fin ⟨5,(i:Int)+1,false,.zero,false,417,116,(i:Int)⟩ (bad _ _ hS))
    clear hS;rintro _ _ ⟨hS,rfl,x,rfl⟩;unfold lenS at hS;simp[hdK];by_cases hbig:p.lb<ln
    ·rw[if_pos hbig]at hS;simp[hbig,-Int.natCast_add];refine qau E' _ 413 114 (i:Int) (i:Int) (by omega) (by omega) ?_;simp[Lk.av,Rq.avs,Rq.zero,flds,-Int.natCast_add];exact qab (v0:=Lk.av ⟨5,(i:Int)+1,false,.zero,false,413,114,(i:Int)⟩) (v:=Lk.av ⟨5,(i:Int)+1,false,.zero,false,413,114,(i:Int)⟩) hB (by simp[Lk.av,Rq.avs,Rq.zero,flds]) (qaa _) (Lk.bnd ⟨5,(i:Int)+1,false,.zero,false,413,114,(i:Int)⟩ _) (fin ⟨5,(i:Int)+1,false,.zero,false,413,114,(i:Int)⟩ (bad _ _ hS))
    ·rw[if_neg hbig]at hS;have hbig':¬p.lb<ln:=hbig;obtain⟨WV,hWV⟩:=exz ((R.isEmpty&&!decide (p.minor=0)&&expB p.fields))
     generalize hex:expB p.fields=ex at hWV⊢
     rw[hold2,hW]at hWV;simp[hbig',w1,-qaZ,-Int.natCast_add];apply qnB (I:=hdI3 p s i WV kd ln H)
     ·intro tail;simp only[qaZ,qng];simp[w1,-qaZ,-Int.natCast_add];simp only[qaZ,qng];cases ex with
      |false=>
       obtain rfl:false=WV:=by rw[<-hWV];simp
       simp[-qaZ,-Int.natCast_add];exact tail _ _ ⟨rfl,qam (by simp[flds])⟩
      |true=>
       cases old with
       |true=>
        obtain rfl:false=WV:=by rw[<-hWV];simp
        simp[-qaZ,-Int.natCast_add];exact tail _ _ ⟨rfl,qam (by simp[flds])⟩
       |false=>
        obtain rfl:W=WV:=by rw[<-hWV];simp
        simp[hWl,-qaZ,-Int.natCast_add];exact tail _ _ ⟨rfl,qam (by simp[flds])⟩
     rintro _ _ ⟨rfl,x,rfl⟩;have hwq:(R.isEmpty&&!decide (p.minor=0)&&expB p.fields)=WV:=by rw[hold2,hW,hex,hWV]
     simp[-Int.natCast_add];by_cases hk2:kd=2
     ·rw[if_pos hk2]at hS;subst hk2;simp[q1,hR,htR,-Int.natCast_add];refine qch fun J=>?_;refine qpL E' _ p.lb p.lf p.lh (by omega) R (by omega) (by omega) (fun t e dn B T hEn=>⟨rfl,?_⟩);have hE2:=qm9 (gol _ _ hS) hu hb hEn;have ht:t<=R.length:=by have:=hEn.1;rw[<-this];exact qlH _ _
      have w3:IntKind.i64.wrap (((i+1:Nat):Int)+(t:Int))=((i+1+t:Nat):Int):=by rw[qai (by omega) (by omega)];omega
      have w4:IntKind.i64.wrap (((i+1+t:Nat):Int)-1)=((i+t:Nat):Int):=by rw[qai (by omega) (by omega)];omega
      by_cases he:e=0
      ·subst he;cases dn with
       |true=>
        have hx:=hE2.2.1 rfl rfl;simp[wkA,w3,hS',-Int.natCast_add];exact qab (v0:=Lk.av ⟨4,((i+1+t:Nat):Int),true,⟨p.meth,p.targ,p.major,p.minor,p.fields,B,T⟩,false,0,0,0⟩) (v:=Lk.av ⟨4,((i+1+t:Nat):Int),true,⟨p.meth,p.targ,p.major,p.minor,p.fields,B,T⟩,false,0,0,0⟩) hB (by simp[Lk.av,Rq.avs,Rq.zero,flds]) (qaa _) (Lk.bnd ⟨4,((i+1+t:Nat):Int),true,⟨p.meth,p.targ,p.major,p.minor,p.fields,B,T⟩,false,0,0,0⟩ _) (fin ⟨4,((i+1+t:Nat):Int),true,⟨p.meth,p.targ,p.major,p.minor,p.fields,B,T⟩,false,0,0,0⟩ hx)
       |false=>
        have hx:=hE2.2.2 rfl rfl;rw[hwq,hRs]at hx;simp[wkA];exact qab (v0:=Lk.av ⟨3,(s.length:Int),true,⟨p.meth,p.targ,p.major,p.minor,p.fields,[],[]⟩,WV,0,0,0⟩) (v:=Lk.av ⟨3,(s.length:Int),true,⟨p.meth,p.targ,p.major,p.minor,p.fields,[],[]⟩,WV,0,0,0⟩) hB (by simp[Lk.av,Rq.avs,Rq.zero,flds]) (qaa _) (Lk.bnd ⟨3,(s.length:Int),true,⟨p.meth,p.targ,p.major,p.minor,p.fields,[],[]⟩,WV,0,0,0⟩ _) (fin ⟨3,(s.length:Int),true,⟨p.meth,p.targ,p.major,p.minor,p.fields,[],[]⟩,WV,0,0,0⟩ hx)
      ·have he1:(e==0)=false:=by simpa using he
       have he2:(e !=0)=true:=by simpa using he
       have hx:=hE2.1 he;by_cases h102:e=102
       ·subst h102;simp[wkA,w3,w4,-Int.natCast_add];refine qau E' _ 413 102 ((i+t:Nat):Int) ((i+t:Nat):Int) (by omega) (by omega) ?_;simp[Lk.av,Rq.avs,Rq.zero,flds,-Int.natCast_add];exact qab (v0:=Lk.av ⟨5,((i+t:Nat):Int)+1,false,.zero,false,413,102,((i+t:Nat):Int)⟩) (v:=Lk.av ⟨5,((i+t:Nat):Int)+1,false,.zero,false,413,102,((i+t:Nat):Int)⟩) hB (by simp[Lk.av,Rq.avs,Rq.zero,flds]) (qaa _) (Lk.bnd ⟨5,((i+t:Nat):Int)+1,false,.zero,false,413,102,((i+t:Nat):Int)⟩ _) (fin ⟨5,((i+t:Nat):Int)+1,false,.zero,false,413,102,((i+t:Nat):Int)⟩ hx)
       ·have b1:(e==102)=false:=by simpa using h102
        by_cases h104:e=104
        ·subst h104;simp[wkA,w3,w4,-Int.natCast_add];refine qau E' _ 431 104 ((i+t:Nat):Int) ((i+t:Nat):Int) (by omega) (by omega) ?_;simp[Lk.av,Rq.avs,Rq.zero,flds,-Int.natCast_add];exact qab (v0:=Lk.av ⟨5,((i+t:Nat):Int)+1,false,.zero,false,431,104,((i+t:Nat):Int)⟩) (v:=Lk.av ⟨5,((i+t:Nat):Int)+1,false,.zero,false,431,104,((i+t:Nat):Int)⟩) hB (by simp[Lk.av,Rq.avs,Rq.zero,flds]) (qaa _) (Lk.bnd ⟨5,((i+t:Nat):Int)+1,false,.zero,false,431,104,((i+t:Nat):Int)⟩ _) (fin ⟨5,((i+t:Nat):Int)+1,false,.zero,false,431,104,((i+t:Nat):Int)⟩ hx)
        ·have b2:(e==104)=false:=by simpa using h104
         have hst:stC e=400:=by unfold stC;rw[if_neg h102,if_neg h104]
         rw[hst]at hx;simp[wkA,he1,he2,b1,b2,w3,w4,-Int.natCast_add];refine qau E' _ 400 e ((i+t:Nat):Int) ((i+t:Nat):Int) (by omega) (by omega) ?_;simp[Lk.av,Rq.avs,Rq.zero,flds,-Int.natCast_add];exact qab (v0:=Lk.av ⟨5,((i+t:Nat):Int)+1,false,.zero,false,400,e,((i+t:Nat):Int)⟩) (v:=Lk.av ⟨5,((i+t:Nat):Int)+1,false,.zero,false,400,e,((i+t:Nat):Int)⟩) hB (by simp[Lk.av,Rq.avs,Rq.zero,flds]) (qaa _) (Lk.bnd ⟨5,((i+t:Nat):Int)+1,false,.zero,false,400,e,((i+t:Nat):Int)⟩ _) (fin ⟨5,((i+t:Nat):Int)+1,false,.zero,false,400,e,((i+t:Nat):Int)⟩ hx)
     ·rw[if_neg hk2]at hS;have hk2':(kd==2)=false:=by simpa using hk2
      by_cases hk1:kd=1
      ·subst hk1;have w5:IntKind.i64.wrap ((s.length:Int)-((i+1:Nat):Int))=(R.length:Int):=by rw[qai (by omega) (by omega)];omega
       by_cases hsh:(R.length:Int)<ln
       ·have hpos:0<ln:=by omega
        rw[if_pos hpos]at hS;have hx:=qqT (gol _ _ hS) hu hb hpos hsh;rw[hwq,hRs]at hx;simp[w5,hsh,-Int.natCast_add];exact qab (v0:=Lk.av ⟨3,(s.length:Int),true,⟨p.meth,p.targ,p.major,p.minor,p.fields,[],[]⟩,WV,0,0,0⟩) (v:=Lk.av ⟨3,(s.length:Int),true,⟨p.meth,p.targ,p.major,p.minor,p.fields,[],[]⟩,WV,0,0,0⟩) hB (by simp[Lk.av,Rq.avs,Rq.zero,flds]) (qaa _) (Lk.bnd ⟨3,(s.length:Int),true,⟨p.meth,p.targ,p.major,p.minor,p.fields,[],[]⟩,WV,0,0,0⟩ _) (fin ⟨3,(s.length:Int),true,⟨p.meth,p.targ,p.major,p.minor,p.fields,[],[]⟩,WV,0,0,0⟩ hx)
       ·obtain⟨L,rfl⟩:∃L:Nat,ln=L:=⟨ln.toNat,by omega⟩
        have hx:qaE (qaf q s).1=⟨4,((i+1+L:Nat):Int),true,⟨p.meth,p.targ,p.major,p.minor,p.fields,(R.take L),[]⟩,false,0,0,0⟩:=by
         by_cases hpos:(0:Int)<L
         ·rw[if_pos hpos]at hS;have:=qqU (gol _ _ hS) hu hbo htr hpos (by omega);rw[this];rfl
         ·rw[if_neg hpos]at hS;have h0:L=0:=by omega
          rw[qiM (gol _ _ hS) hu hbo htr,h0];rfl
        have w6:IntKind.i64.wrap (((i+1:Nat):Int)+(L:Int))=((i+1+L:Nat):Int):=by rw[qai (by omega) (by omega)];omega
        have q2:i+1+L<=s.length:=by omega
        have q3:i+1<=i+1+L:=by omega
        have q4:i+1+L-(i+1)=L:=by omega
        simp[w5,hsh,w6,q1,q2,q3,q4,hR,-Int.natCast_add];exact qab (v0:=Lk.av ⟨4,((i+1+L:Nat):Int),true,⟨p.meth,p.targ,p.major,p.minor,p.fields,(R.take L),[]⟩,false,0,0,0⟩) (v:=Lk.av ⟨4,((i+1+L:Nat):Int),true,⟨p.meth,p.targ,p.major,p.minor,p.fields,(R.take L),[]⟩,false,0,0,0⟩) hB (by simp[Lk.av,Rq.avs,Rq.zero,flds]) (qaa _) (Lk.bnd ⟨4,((i+1+L:Nat):Int),true,⟨p.meth,p.targ,p.major,p.minor,p.fields,(R.take L),[]⟩,false,0,0,0⟩ _) (fin ⟨4,((i+1+L:Nat):Int),true,⟨p.meth,p.targ,p.major,p.minor,p.fields,(R.take L),[]⟩,false,0,0,0⟩ hx)
      ·obtain rfl:ln=0:=hk hk1 hk2;have hk1':(kd==1)=false:=by simpa using hk1
       have hln':¬(0:Int)<0:=by omega
       rw[if_neg hln']at hS;have w6:IntKind.i64.wrap ((i+1:Nat):Int)=((i+1:Nat):Int):=wiz;have hx:=qiM (gol _ _ hS) hu hbo htr;simp[hk1',hk2',w6,-Int.natCast_add];exact qab (v0:=Lk.av ⟨4,((i+1:Nat):Int),true,⟨p.meth,p.targ,p.major,p.minor,p.fields,[],[]⟩,false,0,0,0⟩) (v:=Lk.av ⟨4,((i+1:Nat):Int),true,⟨p.meth,p.targ,p.major,p.minor,p.fields,[],[]⟩,false,0,0,0⟩) hB (by simp[Lk.av,Rq.avs,Rq.zero,flds]) (qaa _) (Lk.bnd ⟨4,((i+1:Nat):Int),true,⟨p.meth,p.targ,p.major,p.minor,p.fields,[],[]⟩,false,0,0,0⟩ _) (fin ⟨4,((i+1:Nat):Int),true,⟨p.meth,p.targ,p.major,p.minor,p.fields,[],[]⟩,false,0,0,0⟩ hx)
   ·rw[if_pos he1]at hS;have b1:(e1==0)=false:=by simpa using he1
    have b2:(e1 !=0)=true:=by simpa using he1
    simp[b1,b2,-Int.natCast_add];refine qau E' _ 400 e1 (i:Int) (i:Int) (by omega) (by omega) ?_;simp[Lk.av,Rq.avs,Rq.zero,flds,-Int.natCast_add];exact qab (v0:=Lk.av ⟨5,(i:Int)+1,false,.zero,false,400,e1,(i:Int)⟩) (v:=Lk.av ⟨5,(i:Int)+1,false,.zero,false,400,e1,(i:Int)⟩) hB (by simp[Lk.av,Rq.avs,Rq.zero,flds]) (qaa _) (Lk.bnd ⟨5,(i:Int)+1,false,.zero,false,400,e1,(i:Int)⟩ _) (fin ⟨5,(i:Int)+1,false,.zero,false,400,e1,(i:Int)⟩ (bad _ _ hS))
  ·rw[if_pos h0]at hS;have b1:(e0==0)=false:=by simpa using h0
   have b2:(e0 !=0)=true:=by simpa using h0
   simp[b1,b2,h67',-Int.natCast_add];refine qau E' _ 400 e0 (i:Int) (i:Int) (by omega) (by omega) ?_;simp[Lk.av,Rq.avs,Rq.zero,flds,-Int.natCast_add];exact qab (v0:=Lk.av ⟨5,(i:Int)+1,false,.zero,false,400,e0,(i:Int)⟩) (v:=Lk.av ⟨5,(i:Int)+1,false,.zero,false,400,e0,(i:Int)⟩) hB (by simp[Lk.av,Rq.avs,Rq.zero,flds]) (qaa _) (Lk.bnd ⟨5,(i:Int)+1,false,.zero,false,400,e0,(i:Int)⟩ _) (fin ⟨5,(i:Int)+1,false,.zero,false,400,e0,(i:Int)⟩ (bad _ _ hS))
end
end Go.Proofs.YtnnhdehmlkkfjaaGreatDoor
namespace Go.Proofs.YtnnhdehmlkkfjaaGreatDoor
open Go Go.RowKit Go.Proofs
section
variable (E:Env)(H:Hp)(Q:AV->Hp->Prop)
end
theorem qlu{l:List UInt8}(h:(qaO l).2.2=0):(qaO l).1.name.length+(qaO l).1.value.length+1<=l.length:=by
 unfold qaO at h⊢;split at h
 ·simp at h
 split at h
 ·simp at h
 split at h
 ·simp at h
 split at h
 ·simp at h
 split at h
 ·simp at h
 split at h
 ·simp at h
 rename_i h1 h2 h3 h4 h5 h6;rw[if_neg h1,if_neg h2,if_neg h3,if_neg h4,if_neg h5,if_neg h6];have:=qgh (l.drop (run ncol l+1));rw[zqI]at this;simp only[zqJ];omega
theorem qjo(l:List UInt8):0<=(qaO l).2.1/\(qaO l).2.1<=l.length+8192:=by
 have h1:=qbh ncol l;have h2:=qbh qah (l.drop (run ncol l+1));have h3:=qbh fcB (l.drop (run ncol l+1));have h4:=qbh qap l;rw[zqI]at h2 h3;unfold qaO
 (repeat' split)<;>simp only<;>omega
section
variable (E:Env)(H:Hp)(Q:AV->Hp->Prop)
end
end Go.Proofs.YtnnhdehmlkkfjaaGreatDoor
