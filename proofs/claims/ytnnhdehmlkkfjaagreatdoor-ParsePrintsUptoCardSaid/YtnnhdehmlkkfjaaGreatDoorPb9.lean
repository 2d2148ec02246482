/- Part 9 of the texts below the law. -/
import Derived.Test.YtnnhdehmlkkfjaaGreatDoorPb8
import Derived.Shelf.Strings.FuncGrows
import Derived.Test.YtnnhdehmlkkfjaaGreatDoorProg
import Derived.KernelRfl
set_option maxRecDepth 100000
set_option maxHeartbeats 16000000
set_option linter.unusedVariables false
set_option linter.unusedSimpArgs false
set_option linter.unusedSectionVars false
namespace Go.Proofs.YtnnhdehmlkkfjaaGreatDoor
open Go Go.RowKit
section
variable {P:Program}{E:Env}{w w':World}{β β':Nat->Nat}{Rd Rd':Nat->Nat->Prop}{Ow Ow':Nat->Option Hold}{fr:List AV}{H K:Hp}{tmps:Array Value}
def qpL(w:World)(β:Nat->Nat)(Ow:Nat->Option Hold)(N:Nat):Nat->Prop:=fun b=>b<w.heap.size/\(∀i,i<N->β i≠b)/\Ow b=none
theorem S3.start(hr:HR E w β Rd Ow H)(hl:fr.length=tmps.size)(h:∀(t:Nat) x u,fr[t]? =some x->tmps[t]? =some u->Rel w β Rd x u/\Bnd H.length x)(hf:∀x∈fr,x.free=true):S3 E w (qpL w β Ow H.length) Rd w β Rd Ow fr H tmps:=by
 refine⟨hr,⟨hl,fun t x u hx hu=>?_⟩,⟨fun b hb=>hb.1,fun _ _=>rfl,fun b hb=>hb.2.2,fun b i hb hi=>hb.2.1 i hi,fun _ _ _ h=>h,rfl,rfl,rfl,Nat.le_refl _,fun _ _ h=>⟨h,rfl⟩⟩,fun x hx=>qaR (hf x hx)⟩;obtain⟨r1,r2⟩:=h t x u hx hu;exact⟨r1,r2,fun g hg=>by rw[qaw (hf x (qak hx))]at hg;cases hg⟩
theorem S3.post(hS:S3 E w (qpL w β Ow H.length) Rd w' β' Rd' Ow' fr K tmps)(hβ:∀i,i<H.length->β' i=β i)(hl:H.length<=K.length)(k:IntKind)(z:Int):Post E w β Rd Ow H w' β' Rd' Ow' K (.int k z) (.int k z):=
 ⟨.int _ _,.int _ _,(fun g hg=>by cases hg),rfl,hS.hr,hβ,hl,fun g o hg=>hS.fo.keep g o hg,fun b hb h1 h2=>⟨hS.fo.same b ⟨hb,h1,h2⟩,hS.fo.own b ⟨hb,h1,h2⟩,fun i hi=>hS.fo.box b i ⟨hb,h1,h2⟩ hi,fun o ho=>hS.fo.rd b o ⟨hb,h1,h2⟩ ho⟩,hS.fo.os,hS.fo.tape,hS.fo.output,hS.fo.size⟩
theorem cut4{a b c d:Code}{Q:Exit->Act->World->Prop}{x:Act}(h:∀T:Code,(∃_:Unit,T=d)->(Code.seq a (.seq b (.seq c T))).wp P Q x w):(Code.seq a (.seq b (.seq c d))).wp P Q x w:=h d ⟨(),rfl⟩
end
def qp6(E:Env)(b:Nat):Prop:=∀(K:Hp) (j:Nat) (p:Prs) (m:Md) (c:UInt8) (n:Nat) (Q:AV->Hp->Prop) (R:Value->Hp->Prop),fitP n p->n<4194304->p.nx=some m->PB K b j p->
 (∀p1 nx j1 K1,qfu p m c= .go p1 nx->PB K1 b j1 p1->(p1.dec.isSome=true->(p.dec.isSome=true/\j1=j)\/K.length<=j1)->OthP K K1 b j p.dec.isSome->BndH K1.length K1->Q (nxV b nx) K1)->
 (∀p1 st err at_ j1 K1,qfu p m c= .bad p1 st err at_->PB K1 b j1 p1->(p1.dec.isSome=true->(p.dec.isSome=true/\j1=j)\/K.length<=j1)->OthP K K1 b j p.dec.isSome->BndH K1.length K1->R (qbS st err at_) K1)->
 PX Tryz.prog E m.fid [.ptr (some (b,0)),.int .u8 (c.toNat:Int)] K Q R
theorem qhj(p:Prs)(s:List UInt8):(qaI p s).2<=s.length:=by
 induction s generalizing p with
 |nil=>exact Nat.le_refl _
 |cons c r ih=>
  unfold qaI;split
  ·simp
  ·split
   ·have:=ih;simp only[zqL];rename_i p1 nx _;have:=ih {p1 with nx:=nx,used:=p1.used+1};omega
   ·simp
theorem qm1{fr:List AV}{K:Hp}{q:Nat}{z:Int}(h4:fr[4]? =some (.ptr (some (q,0))))(hk:K[q]? =some [.int .i64 z]):ares Tryz.prog fr K (Tryz.f23).results.toList=some (.int .i64 z):=by
 rw[Tryz.results23];simp[ares,qiz,ares1,List.getD,h4,hk]
theorem Prs.bnd{b j N:Nat}{p:Prs}(hb:b<N)(hj:∀d,p.dec=some d->j<N):∀z∈p.av b j,Bnd N z:=by
 intro z hz
 have hn:Bnd N (nxV b p.nx):=by
  cases p.nx with
  |none=>exact .raw _
  |some m=>exact .fn _ _ fun x hx=>by simp at hx;subst hx;exact .tup _ fun y hy=>by simp at hy;subst hy;exact .ptr _ _ hb
 have hd:Bnd N (.ptr (p.dec.map fun _=>(j,0))):=by
  cases h:p.dec with
  |none=>exact .ptr0
  |some d=>exact .ptr _ _ (hj d h)
 simp only[Prs.av,List.mem_cons,List.not_mem_nil,or_false]at hz;rcases hz with rfl|rfl|rfl|rfl|rfl|rfl|rfl|rfl|rfl|rfl|rfl|rfl|rfl|rfl|rfl|rfl|rfl|rfl|rfl|rfl|rfl|rfl|rfl|rfl|rfl
 all_goals first
  |exact hn
  |exact hd
  |exact qdx _ _ _
  |exact .sl _ _ _ (qjq _)
  |constructor
section
variable (E:Env){H:Hp}(Q:AV->Hp->Prop)
structure FdJ (H:Hp) (b j:Nat) (p:Prs) (N:Nat) (s:List UInt8) (n:Nat) (j':Nat) (p':Prs) (K:Hp):Prop where
 le:n<=s.length
 pb:PB K b j' p'
 fit:p'.nx≠none->fitP (N+n) p'
 fd:qaI p s=((qaI p' (s.drop n)).1,(qaI p' (s.drop n)).2+n)
 k0:K[H.length]? =some [.ptr (some (b,0))]
 k1:K[H.length+1]? =some [.int .i64 (n:Int)]
 len:H.length+2<=K.length
 oth:∀i,i<H.length->i≠b->(p.dec.isSome=true->i≠j)->K[i]? =H[i]?
 jj:p'.dec.isSome=true->(p.dec.isSome=true/\j'=j)\/H.length+2<=j'
def fdI(H:Hp)(b j:Nat)(p:Prs)(N:Nat)(s:List UInt8)(fr:List AV)(K:Hp):Prop:=∃n j' p',FdJ H b j p N s n j' p' K/\BndH K.length K/\
 ∃x:Nat->AV,fr=[.ptr (some (b,0)),.str s,.ptr (some (H.length,0)),x 3,.ptr (some (H.length+1,0)),x 5,x 6,x 7,x 8,x 9,x 10,x 11,x 12,x 13,x 14,x 15,x 16,x 17,x 18,x 19,x 20,x 21,x 22,x 23,x 24,x 25,x 26,x 27,x 28,x 29,x 30,x 31,x 32,x 33,x 34,x 35,x 36,x 37,x 38,x 39]
theorem qoJ{b j:Nat}{p:Prs}(hp:PB H b j p){N:Nat}(hf:p.nx≠none->fitP N p)(hst:∀E':Env,E'.w0=E.w0->E'.Fix=E.Fix->qp6 E' b)(s:List UInt8)(hM:N+(qaI p s).2<=4194304)(hsl:s.length<=1073741824)
  (hQ:∀j1 K1,PB K1 b j1 (qaI p s).1->((qaI p s).1.dec.isSome=true->(p.dec.isSome=true/\j1=j)\/H.length<=j1)->OthP H K1 b j p.dec.isSome->BndH K1.length K1->Q (.int .i64 (qaI p s).2) K1):
  PC Tryz.prog E 23 [.ptr (some (b,0)),.str s] H Q:=by
 have hmf:∀(fn:Fn) (first cap:Array Value) (w:World),(Instr.makeFunc fn first cap).run Tryz.prog w= .ok (.func fn first cap) w:=fun _ _ _ _=>rfl
 obtain⟨R0,hR0⟩:∃R0:List AV->Value->Hp->Prop,R0=fun fr v K=>fr[4]? =some (.ptr (some (H.length+1,0)))/\∃(n j':Nat) (p' p1:Prs) (j1:Nat) (st err at_:Int),v=qbS st err at_/\n+1=(qaI p s).2/\(qaI p s).1=(SR.bad p1 st err at_).prs/\PB K b j1 p1/\
   0<=p1.used/\p1.used<=1099511627776/\K[H.length]? =some [.ptr (some (b,0))]/\K[H.length+1]? =some [.int .i64 (n:Int)]/\H.length+2<=K.length/\(∀i,i<H.length->i≠b->(p.dec.isSome=true->i≠j)->K[i]? =H[i]?)/\(p1.dec.isSome=true->(p.dec.isSome=true/\j1=j)\/H.length+2<=j1):=⟨_,rfl⟩
 refine PC.env (E:=E) (E':={E with pan:=R0,S:=fun i=>i=H.length}) rfl rfl ?_;obtain⟨E',hE'⟩:∃E':Env,E'={E with pan:=R0,S:=fun i=>i=H.length}:=⟨_,rfl⟩
 rw[<-hE'];refine⟨by kernel_rfl,fun w β Rd Ow cargs hr hcell hsz hargs=>?_⟩;obtain⟨u0,u1,rfl,hu,hv⟩:=args2 hsz fun t x u hx hu=>(hargs t x u hx hu).1;obtain⟨ss,rfl,hss,hs⟩:=qaq hv;obtain rfl:=qb4 hu
 go_enter_defers Tryz.func23,Tryz.ntmps23
 refine cut4 fun T hT=>?_
 go_wp2
 obtain⟨_,rfl⟩:=hT;show Code.wp _ _ (bodyPostD Tryz.prog Tryz.f23 _) _ _;have key:∀(t:Nat) x u,([.ptr (some (b,0)),.str s]:List AV)[t]? =some x->(#[.pointer (some ⟨β b,0,none⟩),.string ss]:Array Value)[t]? =some u->Rel w β Rd x u/\Bnd H.length x:=fun t x u hx hu=>⟨(hargs t x u hx hu).1,(hargs t x u hx hu).2.1⟩
 have b0:S3 E' w (qpL w β Ow H.length) Rd w β Rd Ow ([.ptr (some (b,0)),.str s]++List.replicate 38 (.raw undef)) H (#[.pointer (some ⟨β b,0,none⟩),.string ss]++Array.replicate 38 undef):=by
  refine S3.start hr (by simp) (fun t x u hx hu=>?_) (by simp[AV.free]);by_cases ht:t<2
  ·rw[zqA (by simpa using ht)]at hx;rw[Array.getElem?_append_left (by simpa using ht)]at hu;exact key t x u hx hu
  ·rw[zqB (by simpa using ht),List.getElem?_replicate]at hx;rw[Array.getElem?_append_right (by simpa using ht),Array.getElem?_replicate]at hu;split at hx
   ·cases hx;split at hu
    ·cases hu;exact⟨.raw _,.raw _⟩
    ·cases hu
   ·cases hx
 have hbl:b<H.length:=(zqC.1 hp.row).1
 have b1:=b0.newBox [.ptr (some (b,0))] #[.pointer (some ⟨β b,0,none⟩)] 45 rfl (fun k x u hx hu=>by
  match k with
  |0=>simp at hx hu;subst hx;subst hu;exact⟨.ptr _ _,rfl,.ptr _ _ hbl,fun g hg=>by cases hg⟩
  |k+1=>simp at hx) (qmf b0) (fun t ht=>by simp at ht)
 have b2:=b1.newBox [.int .i64 0] #[.int .i64 0] 3 rfl (fun k x u hx hu=>by
  match k with
  |0=>simp at hx hu;subst hx;subst hu;exact⟨.int _ _,rfl,.int _ _,fun g hg=>by cases hg⟩
  |k+1=>simp at hx) (qmf b1) (fun t ht=>by simp at ht)
 have hs1:(w.alloc (.cells #[.pointer (some ⟨β b,0,none⟩)] 45)).heap.size=w.heap.size+1:=by simp
 have e1:H++[[AV.ptr (some (b,0))]]++[[AV.int .i64 0]]=H++[[.ptr (some (b,0))],[.int .i64 0]]:=by simp
 have e2:(H++[[AV.ptr (some (b,0))]]).length=H.length+1:=by simp
 rw[e1,e2,hs1]at b2;obtain⟨β2,hβ2⟩:∃β2,β2=bup (bup β H.length w.heap.size) (H.length+1) (w.heap.size+1):=⟨_,rfl⟩
 rw[<-hβ2]at b2;have c0:β2 H.length=w.heap.size:=by rw[hβ2,qc0 (by omega),qbP]
 have c1:β2 (H.length+1)=w.heap.size+1:=by rw[hβ2,qbP]
 have b3:=b2.put 2 (v:= .ptr (some (H.length,0))) (c:= .pointer (some ⟨w.heap.size,0,none⟩)) (by have:=Rel.ptr (w:=(w.alloc (.cells #[.pointer (some ⟨β b,0,none⟩)] 45)).alloc (.cells #[.int .i64 0] 3)) (β:=β2) (Rd:=Rd) H.length 0;rw[c0]at this;exact this) (.ptr _ _ (by simp)) rfl (fun g hg=>by cases hg);have b4:=b3.put 4 (v:= .ptr (some (H.length+1,0))) (c:= .pointer (some ⟨w.heap.size+1,0,none⟩)) (by have:=Rel.ptr (w:=(w.alloc (.cells #[.pointer (some ⟨β b,0,none⟩)] 45)).alloc (.cells #[.int .i64 0] 3)) (β:=β2) (Rd:=Rd) (H.length+1) 0;rw[c1]at this;exact this) (.ptr _ _ (by simp)) rfl (fun g hg=>by cases hg);have b5:=b4.put 5 (v:= .raw (.pointer (some ⟨β b,0,none⟩))) (c:= .pointer (some ⟨β b,0,none⟩)) (.raw _) (.raw _) rfl (fun g hg=>by cases hg);have b6:=b5.put 6 (v:= .bool false) (c:= .bool false) (.bool _) (.bool _) rfl (fun g hg=>by cases hg);have b7:=b6.put 7 (v:= .raw (.func (.func 43) #[] #[.pointer (some ⟨w.heap.size,0,none⟩),.pointer (some ⟨w.heap.size+1,0,none⟩)])) (c:= .func (.func 43) #[] #[.pointer (some ⟨w.heap.size,0,none⟩),.pointer (some ⟨w.heap.size+1,0,none⟩)]) (.raw _) (.raw _) rfl (fun g hg=>by cases hg);clear b0 b1 b2 b3 b4 b5 b6;simp[Array.replicate_succ,List.replicate_succ]at b7;have hst':=hst E' (by rw[hE']) (by rw[hE']);have hpan:E'.pan=R0:=by rw[hE']
 have hSS:E'.S=fun i=>i=H.length:=by rw[hE']
 have hdj:∀d,p.dec=some d->j<H.length:=fun d hd=>(zqC.1 (hp.dec d hd).2).1;have hβH:∀i,i<H.length->β2 i=β i:=fun i hi=>by rw[hβ2,qc0 (by omega),qc0 hi]
 refine qqg (E:=E') (B:=[]) (ND:=[(5,[8,8,2,0,0,0,0,0,0,0,3,0,0,0])]) (n:=H.length+2) (β0:=β2) (by kernel_rfl) (fun id m hm=>absurd hm (qdr (by rfl) id m)) _ (fun e fr' K'=>(e= .normal\/e= .ret)/\∃z,ares Tryz.prog fr' K' (Tryz.f23).results.toList=some (.int .i64 z)/\Q (.int .i64 z) K') _ _ _ _ _ (by kernel_rfl) (.inr ?_)
  ⟨rfl,by simp,β2,Rd,Ow,b7,fun i hi=>rfl⟩ ?_ ?_
 ·intro fr H1 a w1 cv hs hk;obtain⟨hd,hn,β',Rd',Ow',hS',hβ'⟩:=hs;rw[hpan,hR0]at hk;obtain⟨hfr4,n,j',p',p1,j1,st,err,at_,rfl,hn1,hp1,hPB,hu1,hu2,k0,k1,hlen,hoth,hjj⟩:=hk;have hfr:fr[4]? =some (.ptr (some (H.length+1,0))):=by rw[List.getElem?_take]at hfr4;simpa using hfr4
  have bb0:β' H.length=w.heap.size:=(hβ' _ (by omega)).trans c0;have bb1:β' (H.length+1)=w.heap.size+1:=(hβ' _ (by omega)).trans c1;have hnle:=qhj p s;obtain⟨T0,cs0,g0,gs0,gr0⟩:=hS'.hr.box _ _ k0;obtain⟨T1,cs1,g1,gs1,gr1⟩:=hS'.hr.box _ _ k1;obtain⟨T2,cs2,g2,gs2,gr2⟩:=hS'.hr.box _ _ hPB.row;obtain⟨z0,rfl⟩:∃z0,cs0= #[z0]:=by match cs0,gs0 with|⟨[z]⟩,_=>exact⟨z,rfl⟩
  obtain⟨z1,rfl⟩:∃z1,cs1= #[z1]:=by match cs1,gs1 with|⟨[z]⟩,_=>exact⟨z,rfl⟩
  obtain rfl:=qb4 (gr0 0 _ z0 rfl rfl).1;obtain rfl:=qas (gr1 0 _ z1 rfl rfl).1;obtain⟨c0,c1,c2,c3,c4,c5,c6,c7,c8,c9,c10,c11,c12,c13,c14,c15,c16,c17,c18,c19,c20,c21,c22,c23,c24,rfl⟩:∃c0 c1 c2 c3 c4 c5 c6 c7 c8 c9 c10 c11 c12 c13 c14 c15 c16 c17 c18 c19 c20 c21 c22 c23 c24,cs2= #[c0,c1,c2,c3,c4,c5,c6,c7,c8,c9,c10,c11,c12,c13,c14,c15,c16,c17,c18,c19,c20,c21,c22,c23,c24]:=by match cs2,gs2 with|⟨[c0,c1,c2,c3,c4,c5,c6,c7,c8,c9,c10,c11,c12,c13,c14,c15,c16,c17,c18,c19,c20,c21,c22,c23,c24]⟩,_=>exact⟨c0,c1,c2,c3,c4,c5,c6,c7,c8,c9,c10,c11,c12,c13,c14,c15,c16,c17,c18,c19,c20,c21,c22,c23,c24,rfl⟩
  obtain rfl:=qas (gr2 6 _ c6 rfl rfl).1;rw[bb0]at g0;rw[bb1]at g1;show Leaves _ _ a.tmps _ a.defers (.panicking [_]) w1;rw[hd];refine leaves_cons (f:=43) (args:= #[.pointer (some ⟨w.heap.size,0,none⟩),.pointer (some ⟨w.heap.size+1,0,none⟩)]) (by simp) (by simp[go_sem]) ?_;have nb0:w.heap.size≠β' b:=by rw[<-bb0];exact fun e=>by have:=hS'.hr.inj _ _ (by omega) (by omega) e;omega
  have nb1:w.heap.size+1≠β' b:=by rw[<-bb1];exact fun e=>by have:=hS'.hr.inj _ _ (by omega) (by omega) e;omega
  refine(qf9 w.heap.size (w.heap.size+1) (β' b) T2 T0 T1 n p1.used st err at_ c0 c1 c2 c3 c4 c5 c7 c8 c9 c10 c11 c12 c13 c14 c15 c16 c17 c18 c19 c20 c21 c22 c23 c24 w1 g0 g1 g2 nb0 nb1).mono ?_;rintro e u' w2 ⟨rfl,rfl,rfl⟩;have wu:wrap64 (p1.used+1)=p1.used+1:=by unfold wrap64;omega
  have wn:wrap64 ((n:Int)+1)=((n+1:Nat):Int):=by unfold wrap64;omega
  have hb1:b<H1.length:=by omega
  have s1:=hS'.store b _ hPB.row 14 [.int .i64 st,.int .i64 err,.int .i64 at_] [.int .i64 st,.int .i64 err,.int .i64 at_] rfl (by simp[Prs.av]) (fun k x u hx hu=>by
   match k with
   |0=>simp at hx hu;subst hx;subst hu;exact⟨.int _ _,rfl,.int _ _,fun g hg=>by cases hg⟩
   |1=>simp at hx hu;subst hx;subst hu;exact⟨.int _ _,rfl,.int _ _,fun g hg=>by cases hg⟩
   |2=>simp at hx hu;subst hx;subst hu;exact⟨.int _ _,rfl,.int _ _,fun g hg=>by cases hg⟩
   |k+3=>simp at hx) (fun t ht=>by simp at ht)
  have s2:=s1.store b _ (zqO hb1) 5 [.int .i64 5] [.int .i64 5] rfl (by simp[Prs.av,setR]) (fun k x u hx hu=>by
   match k with
   |0=>simp at hx hu;subst hx;subst hu;exact⟨.int _ _,rfl,.int _ _,fun g hg=>by cases hg⟩
   |k+1=>simp at hx) (fun t ht=>by simp at ht)
  have s3:=s2.store b _ (zqO (by simpa using hb1)) 4 [.raw .nilFunc] [.nilFunc] rfl (by simp[Prs.av,setR]) (fun k x u hx hu=>by
   match k with
   |0=>simp at hx hu;subst hx;subst hu;exact⟨.raw _,rfl,.raw _,fun g hg=>by cases hg⟩
   |k+1=>simp at hx) (fun t ht=>by simp at ht)
  have s4:=s3.store b _ (zqO (by simpa using hb1)) 6 [.int .i64 (p1.used+1)] [.int .i64 (p1.used+1)] rfl (by simp[Prs.av,setR]) (fun k x u hx hu=>by
   match k with
   |0=>simp at hx hu;subst hx;subst hu;exact⟨.int _ _,rfl,.int _ _,fun g hg=>by cases hg⟩
   |k+1=>simp at hx) (fun t ht=>by simp at ht)
  have hbne:b≠H.length+1:=by omega
  have s5:=s4.store (H.length+1) [.int .i64 (n:Int)] (by rw[zqF hbne,zqF hbne,zqF hbne,zqF hbne];exact k1) 0 [.int .i64 ((n+1:Nat):Int)] [.int .i64 ((n+1:Nat):Int)] rfl (by simp) (fun k x u hx hu=>by
   match k with
   |0=>simp at hx hu;subst hx;subst hu;exact⟨.int _ _,rfl,.int _ _,fun g hg=>by cases hg⟩
   |k+1=>simp at hx) (fun t ht=>by simp at ht)
  clear s1 s2 s3 s4;obtain⟨K2,hK2⟩:∃K2,K2=(H1.set b ((SR.bad p1 st err at_).prs.av b j1)).set (H.length+1) [.int .i64 ((n+1:Nat):Int)]:=⟨_,rfl⟩
  have s6:S3 E' w (qpL w β Ow H.length) Rd (qnt w1 (β' b) (w.heap.size+1) p1.used n st err at_) β' Rd' Ow' fr K2 a.tmps:=by
   rw[hK2];have q:=s5;rw[bb1]at q;simp only[List.set_set]at q;unfold qnt;rw[wu,wn];exact q
  have k2b:K2[b]? =some ((SR.bad p1 st err at_).prs.av b j1):=by rw[hK2,zqF (Ne.symm hbne),zqO hb1]
  have k2n:K2[H.length+1]? =some [.int .i64 ((n+1:Nat):Int)]:=by rw[hK2,zqO (by simp;omega)]
  have k2o:∀i,i≠b->i≠H.length+1->K2[i]? =H1[i]? :=fun i h1 h2=>by rw[hK2,zqF (Ne.symm h2),zqF (Ne.symm h1)]
  have k2l:K2.length=H1.length:=by rw[hK2];simp
  have hres:=qm1 (fr:=fr) (K:=K2) hfr k2n;obtain⟨c,Ow2,fr2,hrun,hS2,hrel,_,_⟩:=qhw (a:=a) s6 hres;obtain rfl:=qas hrel;show Leaves _ _ a.tmps _ [] (settle (.panicking [_])) _;refine⟨_,hrun,_,.int .i64 ((n+1:Nat):Int),K2,β',Rd',Ow2,rfl,?_,S3.post hS2 (fun i hi=>(hβ' i (by omega)).trans (hβH i hi)) (by omega) _ _⟩
  have hdec:∀d,p1.dec=some d->j1≠b/\K2[j1]? =some d.av:=fun d hd=>by
   obtain⟨q1,q2⟩:=hPB.dec d hd;refine⟨q1,?_⟩;rw[k2o j1 q1 (fun e=>?_)]
   ·exact q2
   ·rcases hjj (by rw[hd];rfl)with⟨h1,h2⟩|h1
    ·obtain⟨d0,hd0⟩:=Option.isSome_iff_exists.1 h1;have:=hdj d0 hd0;omega
    ·omega
  have:=hQ j1 K2 (by rw[hp1];exact⟨k2b,hdec⟩) (fun h=>by
   rw[hp1]at h
   exact(hjj h).imp id (fun h=>by omega)) ⟨by omega,fun i hi h1 h2=>by rw[k2o i h1 (by omega)];exact hoth i hi h1 h2⟩ s6.hr.bnd
  rw[<-hn1]at this;exact this
 ·simp;refine qaG (fdI H b j p N s) (fun fr K=>s.length-(match K[H.length+1]? with|some [x]=>(ai x).toNat|_=>0)) ⟨0,j,p,⟨Nat.zero_le _,⟨by rw[zqA hbl];exact hp.row,fun d hd=>⟨(hp.dec d hd).1,by rw[zqA (hdj d hd)];exact(hp.dec d hd).2⟩⟩,hf,by simp,by simp,by simp,by simp,fun i hi _ _=>zqA hi,fun h=> .inl ⟨h,rfl⟩⟩,b7.hr.bnd,friz⟩ ?_;rintro fr K ⟨n,j',p',hJ,hBK,x,rfl⟩;have hrow:=hJ.pb.row;have hk0:=hJ.k0;have hk1:=hJ.k1;have hle:=hJ.le;have hfd:=hJ.fd;have hkl:=hJ.len;have hset:K.set (H.length+1) [.int .i64 (n:Int)]=K:=qd2 hk1;simp[Prs.av]at hrow
  have stop:qaI p' (s.drop n)=(p',0)->Q (.int .i64 (n:Int)) K:=fun h0=>by
   rw[h0]at hfd;have:=hQ j' K (by rw[hfd];exact hJ.pb) (fun h=>by rw[hfd]at h;exact(hJ.jj h).imp id (fun h=>by omega)) ⟨by omega,hJ.oth⟩ hBK;rw[hfd]at this;simpa using this
  by_cases h1:n<s.length
  ·obtain⟨c,hc⟩:∃c,s[n]? =some c:=⟨_,zqD h1⟩
   have hat:lat s n=some c:=qaP hc;have hdr:=qay s n c hc;cases hnx:p'.nx with
   |none=>
    simp[hk0,hk1,hrow,h1,hnx,nxV,hset];exact stop (by rw[hdr];simp[qaI,hnx])
   |some m=>
    have hJf:=hJ.fit (by rw[hnx];simp);have hfu:=hJf.used;simp[hk0,hk1,hrow,h1,hnx,nxV,hat];refine⟨by rw[hSS],?_⟩
    have hcnt:n<(qaI p s).2:=by
     rw[hfd,hdr];simp only[qaI,hnx];split<;>simp<;>omega
    have kj:p'.dec.isSome=true->j'≠H.length/\j'≠H.length+1:=fun h=>by
     rcases hJ.jj h with⟨h2,rfl⟩|h2
     ·obtain⟨d0,hd0⟩:=Option.isSome_iff_exists.1 h2;have:=hdj d0 hd0;omega
     ·omega
    refine hst' K j' p' m c (N+n) _ _ hJf (by omega) hnx hJ.pb ?_ ?_
    ·intro p1 nx j1 K1 hgo hpb1 hj1 hoth1 hB1;obtain⟨hfit1,hused⟩:=qpW hJf hnx hgo;have hrow1:=hpb1.row;simp[Prs.av]at hrow1;have o0:K1[H.length]? =K[H.length]? :=hoth1.2 _ (by omega) (by omega) (fun h=>fun e=>(kj h).1 e.symm);have o1:K1[H.length+1]? =K[H.length+1]? :=hoth1.2 _ (by omega) (by omega) (fun h=>fun e=>(kj h).2 e.symm);rw[hk0]at o0;rw[hk1]at o1;have hb1:b<K1.length:=by have:=hoth1.1;omega
     have hb1':¬K1.length<=b:=by omega
     have wu:IntKind.i64.wrap (p1.used+1)=p1.used+1:=wiz;have wn:IntKind.i64.wrap ((n:Int)+1)=n+1:=wiz;have e1:b≠H.length:=by omega
     have e2:b≠H.length+1:=by omega
     have fin:∀fr' K',(∃x:Nat->AV,fr'=[.ptr (some (b,0)),.str s,.ptr (some (H.length,0)),x 3,.ptr (some (H.length+1,0)),x 5,x 6,x 7,x 8,x 9,x 10,x 11,x 12,x 13,x 14,x 15,x 16,x 17,x 18,x 19,x 20,x 21,x 22,x 23,x 24,x 25,x 26,x 27,x 28,x 29,x 30,x 31,x 32,x 33,x 34,x 35,x 36,x 37,x 38,x 39])->K'=(K1.set b (({p1 with nx:=nx,used:=p1.used+1}:Prs).av b j1)).set (H.length+1) [.int .i64 ((n:Int)+1)]->fdI H b j p N s fr' K':=fun fr' K' hfr hK=>by
      have hl':K'.length=K1.length:=by rw[hK];simp
      have hat1:∀i,i≠b->i≠H.length+1->K'[i]? =K1[i]? :=fun i h2 h3=>by rw[hK,zqF (Ne.symm h3),zqF (Ne.symm h2)]
      have hfeed:qaI p' (s.drop n)=((qaI {p1 with nx:=nx,used:=p1.used+1} (s.drop (n+1))).1,(qaI {p1 with nx:=nx,used:=p1.used+1} (s.drop (n+1))).2+1):=by
       rw[hdr];simp only[qaI,hnx,hgo]
      refine⟨n+1,j1,{p1 with nx:=nx,used:=p1.used+1},⟨by omega,⟨by rw[hK,zqF (Ne.symm e2)];exact zqO hb1,fun d hd=>?_⟩,fun _=>by rw[<-Nat.add_assoc];exact hfit1,by rw[hfd,hfeed];simp[Nat.add_assoc,Nat.add_comm],by rw[hat1 _ (Ne.symm e1) (by omega)];exact o0,by rw[hK,zqO (by simp;have:=hoth1.1;omega)];simp,by rw[hl'];have:=hoth1.1;omega,fun i hi h2 h3=>?_,fun h=>?_⟩,?_,hfr⟩
      ·obtain⟨q1,q2⟩:=hpb1.dec d hd;refine⟨q1,?_⟩;rw[hat1 j1 q1 (fun e=>?_)]
       ·exact q2
       ·rcases hj1 (by rw[show p1.dec=some d from hd];rfl)with⟨h4,rfl⟩|h4
        ·exact(kj h4).2 e
        ·omega
      ·rw[hat1 i h2 (by omega),hoth1.2 i (by omega) h2 (fun h=>fun e=>?_)]
       ·exact hJ.oth i hi h2 h3
       ·rcases hJ.jj h with⟨h4,rfl⟩|h4
        ·exact h3 h4 e
        ·omega
      ·rcases hj1 h with⟨h4,rfl⟩|h4
       ·exact hJ.jj h4
       ·exact .inr (by omega)
      ·rw[hl',hK];refine qen (qen hB1 _ ?_) _ ?_
       ·exact Prs.bnd hb1 (fun d hd=>(zqC.1 (hpb1.dec d hd).2).1)
       ·intro z hz;simp at hz;subst hz;exact .int _ _
     have kdec:((n:Int).toNat)=n:=rfl;have gs0:∀x,(K1.set b x)[H.length]? =some [.ptr (some (b,0))]:=fun x=>by rw[zqF e1];exact o0
     have gs1:∀x,(K1.set b x)[H.length+1]? =some [.int .i64 (n:Int)]:=fun x=>by rw[zqF e2];exact o1
     have gs2:∀x,(K1.set b x)[b]? =some x:=fun x=>zqO hb1;have hms:∀X,((K1.set b X).set (H.length+1) [.int .i64 ((n:Int)+1)])[H.length+1]? =some [.int .i64 ((n:Int)+1)]:=fun X=>zqO (by simp;have:=hoth1.1;omega);have nf1:Value.nilFunc.oneCell'=true:=rfl;cases nx with
     |none=>
      simp[qai,KP,hSS,o0,o1,hrow1,nxV,hk0,zqO hb1,gs0,gs1,gs2,nf1,wu,wn];exact⟨hoth1.1,qaC (fin _ _ (friz) (by simp[Prs.av,nxV])) (by simp[hms];exact Nat.sub_lt_sub_left h1 (Nat.lt_succ_self n))⟩
     |some m1=>
      simp[qai,KP,hSS,o0,o1,hrow1,nxV,hk0,zqO hb1,gs0,gs1,gs2,nf1,wu,wn];exact⟨hoth1.1,qaC (fin _ _ (friz) (by simp[Prs.av,nxV])) (by simp[hms];exact Nat.sub_lt_sub_left h1 (Nat.lt_succ_self n))⟩
    ·intro p1 st err at_ j1 K1 hbad hpb1 hj1 hoth1 hB1;have hused:=qqY hbad;have o0:K1[H.length]? =K[H.length]? :=hoth1.2 _ (by omega) (by omega) (fun h=>fun e=>(kj h).1 e.symm);have o1:K1[H.length+1]? =K[H.length+1]? :=hoth1.2 _ (by omega) (by omega) (fun h=>fun e=>(kj h).2 e.symm);rw[hk0]at o0;rw[hk1]at o1;rw[hpan,hR0]
     have hfp:qaI p' (s.drop n)=((SR.bad p1 st err at_).prs,1):=by
      rw[hdr];simp only[qaI,hnx,hbad]
     rw[hfp]at hfd;refine⟨rfl,n,j',p',p1,j1,st,err,at_,rfl,by rw[hfd];simp;omega,by rw[hfd],hpb1,by omega,by omega,o0,o1,by have:=hoth1.1;omega,fun i hi h2 h3=>?_,fun h=>?_⟩
     ·rw[hoth1.2 i (by omega) h2 (fun h=>fun e=>?_)]
      ·exact hJ.oth i hi h2 h3
      ·rcases hJ.jj h with⟨h4,rfl⟩|h4
       ·exact h3 h4 e
       ·omega
     ·rcases hj1 h with⟨h4,rfl⟩|h4
      ·exact hJ.jj h4
      ·exact .inr (by omega)
  ·simp[hk0,hk1,hrow,h1,hset];have hn:n=s.length:=by omega
   exact stop (by rw[hn,List.drop_length];rfl)
 ·rintro e fr' K' a w' hs ⟨he,z,hres,hq⟩;obtain⟨hd,hn,β',Rd',Ow',hS',hβ'⟩:=hs;obtain⟨c,Ow2,fr2,hrun,hS2,hrel,_,_⟩:=qhw (a:=a) hS' hres;obtain rfl:=qas hrel
  have fin:Leaves Tryz.prog Tryz.f23 a.tmps (fun e w'=>∃c v H' β' Rd' Ow',e= .returned c/\Q v H'/\Post E' w β Rd Ow H w' β' Rd' Ow' H' v c) a.defers .returning w':=by
   rw[hd];refine leaves_cons (f:=43) (args:= #[.pointer (some ⟨w.heap.size,0,none⟩),.pointer (some ⟨w.heap.size+1,0,none⟩)]) (by simp) (by simp[go_sem]) ?_;refine(qle _ _ _).mono ?_;rintro e u' w2 ⟨rfl,rfl,rfl⟩;show Leaves _ _ a.tmps _ [] (settle .returning) _;exact⟨_,hrun,_,.int .i64 z,K',β',Rd',Ow2,rfl,hq,S3.post hS2 (fun i hi=>(hβ' i (by omega)).trans (hβH i hi)) (by omega) _ _⟩
  rcases he with rfl|rfl
  ·exact fin
  ·exact fin
end
def qjx(E:Env)(b:Nat)(f:FuncId)(S:Prs->UInt8->SR):Prop:=∀(K:Hp) (j:Nat) (p:Prs) (c:UInt8) (n:Nat) (Q:AV->Hp->Prop) (R:Value->Hp->Prop),fitP n p->n<4194304->PB K b j p->
 (∀p1 nx j1 K1,S p c= .go p1 nx->PB K1 b j1 p1->(p1.dec.isSome=true->(p.dec.isSome=true/\j1=j)\/K.length<=j1)->OthP K K1 b j p.dec.isSome->BndH K1.length K1->Q (nxV b nx) K1)->
 (∀p1 st err at_ j1 K1,S p c= .bad p1 st err at_->PB K1 b j1 p1->(p1.dec.isSome=true->(p.dec.isSome=true/\j1=j)\/K.length<=j1)->OthP K K1 b j p.dec.isSome->BndH K1.length K1->R (qbS st err at_) K1)->
 PX Tryz.prog E f [.ptr (some (b,0)),.int .u8 (c.toNat:Int)] K Q R
theorem OthP.refl(K:Hp)(b j:Nat)(d:Bool):OthP K K b j d:=⟨Nat.le_refl _,fun _ _ _ _=>rfl⟩
theorem OthP.put(K:Hp)(b j:Nat)(d:Bool)(x:List AV):OthP K (K.set b x) b j d:=⟨by simp,fun i _ h _=>zqF (Ne.symm h)⟩
theorem PB.lt{K:Hp}{b j:Nat}{p:Prs}(h:PB K b j p):b<K.length:=(zqC.1 h.row).1
theorem PB.put{K:Hp}{b j:Nat}{p p1:Prs}(h:PB K b j p)(hd:p1.dec=p.dec):PB (K.set b (p1.av b j)) b j p1:=
 ⟨zqO h.lt,fun d hd1=>by
  obtain⟨q1,q2⟩:=h.dec d (by rw[<-hd];exact hd1)
  exact⟨q1,by rw[zqF (Ne.symm q1)];exact q2⟩⟩
theorem PB.bnd{K:Hp}{b j:Nat}{p p1:Prs}(h:PB K b j p)(hd:p1.dec=p.dec):∀z∈p1.av b j,Bnd K.length z:=
 Prs.bnd h.lt fun d hd1=>(zqC.1 (h.dec d (by rw[<-hd];exact hd1)).2).1
theorem qaQ{N b:Nat}(hb:b<N)(m:Option Md):Bnd N (nxV b m):=by
 cases m with
 |none=>exact .raw _
 |some m=>exact .fn _ _ fun x hx=>by simp at hx;subst hx;exact .tup _ fun y hy=>by simp at hy;subst hy;exact .ptr _ _ hb
theorem SE.env{E E':Env}(h:SE E)(h0:E'.w0=E.w0)(hF:E'.Fix=E.Fix):SE E':=⟨by rw[hF];exact h.1,by rw[h0];exact h.2⟩
theorem qaO(l:List UInt8)(c:UInt8):bts l++[[.int .u8 (c.toNat:Int)]]=bts (l++[c]):=by simp[bts]
theorem qbH(b j:Nat)(p:Prs)(h:p.text=[]):nilL [AV.int .i64 p.lt,.int .i64 p.lh,.int .i64 p.lf,.int .i64 p.lb,nxV b p.nx,.int .i64 p.state,.int .i64 p.used,.str p.meth,.str p.targ,.int .i64 p.major,.int .i64 p.minor,.sl true 2 (flds p.fields),.str p.rbody,.sl false 2 (flds p.trailers),
 .int .i64 p.fst_,.int .i64 p.ferr,.int .i64 p.fat,.nil,.str [],.int .i64 p.head,.int .i64 p.begin_,.int .i64 p.left,.sl true 1 (bts p.body),.ptr (p.dec.map fun _=>(j,0)),.bool p.bodied] (p.av b j):=by
 unfold Prs.av;rw[h];exact⟨.inl rfl,.inl rfl,.inl rfl,.inl rfl,.inl rfl,.inl rfl,.inl rfl,.inl rfl,.inl rfl,.inl rfl,.inl rfl,.inl rfl,.inl rfl,.inl rfl,.inl rfl,.inl rfl,.inl rfl,.inr ⟨rfl,true,1,rfl⟩,.inl rfl,.inl rfl,.inl rfl,.inl rfl,.inl rfl,.inl rfl,.inl rfl,trivial⟩
theorem qbd(b j:Nat)(p:Prs):nilL [AV.int .i64 p.lt,.int .i64 p.lh,.int .i64 p.lf,.int .i64 p.lb,nxV b p.nx,.int .i64 p.state,.int .i64 p.used,.str p.meth,.str p.targ,.int .i64 p.major,.int .i64 p.minor,.sl true 2 (flds p.fields),.str p.rbody,.sl false 2 (flds p.trailers),
 .int .i64 p.fst_,.int .i64 p.ferr,.int .i64 p.fat,.sl true 1 (bts p.text),.str [],.int .i64 p.head,.int .i64 p.begin_,.int .i64 p.left,.sl true 1 (bts p.body),.ptr (p.dec.map fun _=>(j,0)),.bool p.bodied] (p.av b j):=qa8 _
section
variable (E:Env){K:Hp}{b j:Nat}{p:Prs}{Q:AV->Hp->Prop}{R:Value->Hp->Prop}
theorem qaf(hp:PB K b j p)(st err:Int)(hR:R (qbS st err p.used) K):PX Tryz.prog E 86 [.ptr (some (b,0)),.int .i64 st,.int .i64 err] K Q R:=by
 refine qbj R (fun _=>False) Tryz.func86 rfl [] [(0,[0,0,0,0,0,0,0,3])] (by kernel_rfl) (fun E' hpan hS h0 hF hB=>?_);have hrow:=hp.row;simp[Prs.av]at hrow;simp[Tryz.ntmps86,Tryz.results86,List.replicate_succ,hrow];refine qm5 E' _ _ _ _ ?_;rw[hpan];exact hR
theorem qeJ(hp:PB K b j p)(hl:p.body.length<=1073741824)(hQ:∀K1,PB K1 b j {p with rbody:=p.body,state:=4}->K1=K.set b (({p with rbody:=p.body,state:=4}:Prs).av b j)->BndH K1.length K1->Q (.raw .nilFunc) K1):PC Tryz.prog E 199 [.ptr (some (b,0))] K Q:=by
 have hrow:=hp.row;have hlt:=hp.lt;have m3:p.body.length<=maxLen:=by unfold maxLen;omega
 simp[Prs.av]at hrow;refine qab Tryz.func199 rfl [] [] (by kernel_rfl) (fun hB=>?_);simp[Tryz.ntmps199,Tryz.results199,List.replicate_succ,hrow,m3,hs0 hlt,hs1 hlt,hs2 hlt,hs3 hlt,hs4 hlt,hs5 hlt];exact qaD hB hlt (qbd b j {p with rbody:=p.body,state:=4}) rfl (hp.bnd (p1:={p with rbody:=p.body,state:=4}) rfl) (.raw _) (hQ _ (hp.put rfl) rfl (qaZ hB b (hp.bnd (p1:={p with rbody:=p.body,state:=4}) rfl)))
theorem qlb:qjx E b 198 qcZ:=by
 intro K j p c n Q R hf hn hp hG hR;refine qbj R (fun _=>False) Tryz.func198 rfl [10] [] (by kernel_rfl) (fun E' hpan hS h0 hF hB=>?_);have hrow:=hp.row;have hlt:=hp.lt;have hb:=hf.b;have hl:=hf.left;simp[Prs.av]at hrow;have m3:p.body.length<=maxLen:=by unfold maxLen;omega
 have m1:p.body.length<=140737488355327:=by omega
 have m4:p.body.length+1<=maxLen:=by unfold maxLen;omega
 have w1:IntKind.i64.wrap (p.left-1)=p.left-1:=wiz;unfold qcZ at hG;dsimp only at hG;have h1:PB (K.set b (({p with body:=p.body++[c],bodied:=true,left:=p.left-1}:Prs).av b j)) b j {p with body:=p.body++[c],bodied:=true,left:=p.left-1}:=hp.put rfl;have hb1:=hp.bnd (p1:={p with body:=p.body++[c],bodied:=true,left:=p.left-1}) rfl;by_cases h:0<p.left-1
 ·have h2:1<p.left:=by omega
  simp[Tryz.ntmps198,Tryz.results198,List.replicate_succ,hrow,m1,m3,m4,w1,h2,hs0 hlt,hs1 hlt,hs2 hlt,hs3 hlt,hs4 hlt,hs5 hlt,qaO];exact qaD hB hlt (qbd b j {p with body:=p.body++[c],bodied:=true,left:=p.left-1}) rfl hb1 (qaQ hlt (some .counted)) (hG _ (some .counted) j _ (by rw[if_pos h]) h1 (fun h=> .inl ⟨h,rfl⟩) (OthP.put ..) (qaZ hB b hb1))
 ·rw[if_neg h]at hG;have h2:¬1<p.left:=by omega
  simp[Tryz.ntmps198,Tryz.results198,List.replicate_succ,hrow,m1,m3,m4,w1,h2,hs0 hlt,hs1 hlt,hs2 hlt,hs3 hlt,hs4 hlt,hs5 hlt,qaO];refine qeJ E' (p:={p with body:=p.body++[c],bodied:=true,left:=p.left-1}) h1 (by simp;omega) (fun K1 g1 g2 g3=>?_);simp[qai,KP];subst g2;rw[List.set_set]at g1 g3⊢;exact qa3 (v:= .raw .nilFunc) rfl (by simp) g3 (.raw _) (hG _ none j _ rfl g1 (fun h=> .inl ⟨h,rfl⟩) (OthP.put ..) g3)
theorem qiP:qjx E b 60 qb3:=by
 intro K j p c n Q R hf hn hp hG hR;refine qbj R (fun _=>False) Tryz.func60 rfl [] [(2,[0,3])] (by kernel_rfl) (fun E' hpan hS h0 hF hB=>?_);by_cases h:c=10
 ·subst h;simp[Tryz.ntmps60,Tryz.results60,List.replicate_succ];exact qap hB rfl (qaa _) (qaQ hp.lt (some .start)) (hG p (some .start) j K rfl hp (fun h=> .inl ⟨h,rfl⟩) (OthP.refl ..) hB)
 ·have hb:=(qaU c 10 (by decide) 10 rfl h).2;simp[Tryz.ntmps60,Tryz.results60,List.replicate_succ,hb];refine qaf E' hp _ _ ?_;rw[hpan];exact hR p _ _ _ j K (by unfold qb3;rw[if_pos h];rfl) hp (fun h=> .inl ⟨h,rfl⟩) (OthP.refl ..) hB
theorem qh4(hE:SE E):qjx E b 61 qcS:=by
 intro K j p c n Q R hf hn hp hG hR;refine qbj R (fun _=>False) Tryz.func61 rfl [22] [(3,[0,3]),(9,[0,3])] (by kernel_rfl) (fun E' hpan hS h0 hF hB=>?_);have hrow:=hp.row;have hlt:=hp.lt;have ha:=hf.a;simp[Prs.av]at hrow;have m1:p.text.length<=140737488355327:=by omega
 have m2:(1:Nat)<=maxLen:=by unfold maxLen;omega
 have m3:p.text.length<=maxLen:=by unfold maxLen;omega
 have m4:p.text.length+1<=maxLen:=by unfold maxLen;omega
 unfold qcS at hG hR;have hc:(c.toNat:Int)<256:=by have:=c.toNat_lt;omega
 simp[Tryz.ntmps61,Tryz.results61,List.replicate_succ,m2,hc];refine qbr E' _ _ (hE.env h0 hF) [c] (by simp[cap]) ?_;by_cases ht:tokB [c]=true
 ·by_cases hl:p.text.length=24
  ·simp[qai,KP,ht,hrow,hl];refine qaf E' hp _ _ ?_;rw[hpan];exact hR p _ _ _ j K (by rw[if_pos ht,if_pos hl];rfl) hp (fun h=> .inl ⟨h,rfl⟩) (OthP.refl ..) hB
  ·have hl':((p.text.length:Int)==24)=false:=by simpa using fun e:(p.text.length:Int)=24=>hl (by omega)
   simp[qai,KP,ht,hrow,hl',m1,m3,m4,hs0 hlt,hs1 hlt,hs2 hlt,hs3 hlt,hs4 hlt,hs5 hlt,qaO];have h1:PB (K.set b (({p with text:=p.text++[c]}:Prs).av b j)) b j {p with text:=p.text++[c]}:=hp.put rfl;exact qaD hB hlt (qbd b j {p with text:=p.text++[c]}) rfl (hp.bnd (p1:={p with text:=p.text++[c]}) rfl) (qaQ hlt (some .method)) (hG _ (some .method) j _ (by rw[if_pos ht,if_neg hl]) h1 (fun h=> .inl ⟨h,rfl⟩) (OthP.put ..) (qaZ hB b (hp.bnd (p1:={p with text:=p.text++[c]}) rfl)))
 ·have ht':tokB [c]=false:=by simpa using ht
  by_cases h32:c=32
  ·subst h32;by_cases hne:p.text=[]
   ·simp[qai,KP,ht',hrow,hne];refine qaf E' hp _ _ ?_;rw[hpan];exact hR p _ _ _ j K (by rw[if_neg (by simp[ht']),if_neg (fun h=>h.2 hne)];rfl) hp (fun h=> .inl ⟨h,rfl⟩) (OthP.refl ..) hB
   ·have hpos:0<p.text.length:=List.length_pos_iff.2 hne;simp[qai,KP,ht',hrow,hpos,m3,hs0 hlt,hs1 hlt,hs2 hlt,hs3 hlt,hs4 hlt,hs5 hlt];have h1:PB (K.set b (({p with meth:=p.text,text:=[]}:Prs).av b j)) b j {p with meth:=p.text,text:=[]}:=hp.put rfl;exact qaD hB hlt (qbH b j {p with meth:=p.text,text:=[]} rfl) rfl (hp.bnd (p1:={p with meth:=p.text,text:=[]}) rfl) (qaQ hlt (some .target)) (hG _ (some .target) j _ (by rw[if_neg (by simp[ht']),if_pos ⟨rfl,hne⟩]) h1 (fun h=> .inl ⟨h,rfl⟩) (OthP.put ..) (qaZ hB b (hp.bnd (p1:={p with meth:=p.text,text:=[]}) rfl)))
  ·have hb:=(qaU c 32 (by decide) 32 rfl h32).1;simp[qai,KP,ht',hb,hrow];refine qaf E' hp _ _ ?_;rw[hpan];exact hR p _ _ _ j K (by rw[if_neg (by simp[ht']),if_neg (fun h=>h32 h.1)];rfl) hp (fun h=> .inl ⟨h,rfl⟩) (OthP.refl ..) hB
theorem qoq(hE:SE E):qjx E b 39 qfv:=by
 intro K j p c n Q R hf hn hp hG hR;refine qbj R (fun _=>False) Tryz.func39 rfl [] [(4,[0,0,3,0])] (by kernel_rfl) (fun E' hpan hS h0 hF hB=>?_);have hrow:=hp.row;have hlt:=hp.lt;simp[Prs.av]at hrow;unfold qfv at hG hR;by_cases h13:c=13
 ·subst h13;simp[Tryz.ntmps39,Tryz.results39,List.replicate_succ];exact qap hB rfl (qaa _) (qaQ hlt (some .startEnd)) (hG p (some .startEnd) j K (by rw[if_pos rfl]) hp (fun h=> .inl ⟨h,rfl⟩) (OthP.refl ..) hB)
 ·have hb:=(qaU c 13 (by decide) 13 rfl h13).1;have h1:PB (K.set b (({p with state:=1}:Prs).av b j)) b j {p with state:=1}:=hp.put rfl;have hlK:(K.set b (({p with state:=1}:Prs).av b j)).length=K.length:=by simp
  rw[if_neg h13]at hG hR;simp[Tryz.ntmps39,Tryz.results39,List.replicate_succ,hb,hrow,hs0 hlt,hs1 hlt,hs2 hlt,hs3 hlt,hs4 hlt,hs5 hlt];refine qh4 E' (hE.env h0 hF) _ j {p with state:=1} c n _ _ {hf with} hn h1 (fun p1 nx j1 K1 g1 g2 g3 g4 g5=>?_) (fun p1 st err at_ j1 K1 g1 g2 g3 g4 g5=>?_)
  ·have g6:OthP K K1 b j p.dec.isSome:=⟨by simpa using g4.1,fun i hi h2 h3=>(g4.2 i (by simpa using hi) h2 h3).trans (zqF (Ne.symm h2))⟩
   have q:=hG p1 nx j1 K1 g1 g2 (fun h=>(g3 h).imp id (fun h=>by simpa using h)) g6 g5;have hK1:=g6.1;cases nx with
   |none=>
    simp[qai,KP,nxV,hS];exact⟨hK1,qa3 rfl hK1 g5 (qaQ (N:=K1.length) g2.lt none) q⟩
   |some m=>
    simp[qai,KP,nxV,hS];exact⟨hK1,qa3 rfl hK1 g5 (qaQ (N:=K1.length) g2.lt (some m)) q⟩
  ·rw[hpan];exact hR p1 st err at_ j1 K1 g1 g2 (fun h=>(g3 h).imp id (fun h=>by simpa using h)) ⟨by simpa using g4.1,fun i hi h2 h3=>(g4.2 i (by simpa using hi) h2 h3).trans (zqF (Ne.symm h2))⟩ g5
theorem qlO:qjx E b 87 qdD:=by
 intro K j p c n Q R hf hn hp hG hR;refine qbj R (fun _=>False) Tryz.func87 rfl [29] [(3,[0,3]),(9,[0,3])] (by kernel_rfl) (fun E' hpan hS h0 hF hB=>?_);have hrow:=hp.row;have hlt:=hp.lt;have ha:=hf.a;simp[Prs.av]at hrow;have m1:p.text.length<=140737488355327:=by omega
 have m3:p.text.length<=maxLen:=by unfold maxLen;omega
 have m4:p.text.length+1<=maxLen:=by unfold maxLen;omega
 unfold qdD at hG hR;by_cases hr:33<=c.toNat/\c.toNat<=126
 ·have r1:(33:Int)<=c.toNat:=by omega
  have r2:(c.toNat:Int)<=126:=by omega
  by_cases hl:(p.text.length:Int)=p.lt
  ·simp[Tryz.ntmps87,Tryz.results87,List.replicate_succ,r1,r2,hrow,hl];refine qaf E' hp _ _ ?_;rw[hpan];exact hR p _ _ _ j K (by rw[if_pos hr,if_pos hl];rfl) hp (fun h=> .inl ⟨h,rfl⟩) (OthP.refl ..) hB
  ·have hl':((p.text.length:Int)==p.lt)=false:=by simpa using hl
   simp[Tryz.ntmps87,Tryz.results87,List.replicate_succ,r1,r2,hrow,hl',m1,m3,m4,hs0 hlt,hs1 hlt,hs2 hlt,hs3 hlt,hs4 hlt,hs5 hlt,qaO];have h1:PB (K.set b (({p with text:=p.text++[c]}:Prs).av b j)) b j {p with text:=p.text++[c]}:=hp.put rfl;exact qaD hB hlt (qbd b j {p with text:=p.text++[c]}) rfl (hp.bnd (p1:={p with text:=p.text++[c]}) rfl) (qaQ hlt (some .target)) (hG _ (some .target) j _ (by rw[if_pos hr,if_neg hl]) h1 (fun h=> .inl ⟨h,rfl⟩) (OthP.put ..) (qaZ hB b (hp.bnd (p1:={p with text:=p.text++[c]}) rfl)))
 ·by_cases h32:c=32
  ·subst h32;by_cases hne:p.text=[]
   ·simp[Tryz.ntmps87,Tryz.results87,List.replicate_succ,hrow,hne];refine qaf E' hp _ _ ?_;rw[hpan];exact hR p _ _ _ j K (by rw[if_neg hr,if_neg (fun h=>h.2 hne)];rfl) hp (fun h=> .inl ⟨h,rfl⟩) (OthP.refl ..) hB
   ·have hpos:0<p.text.length:=List.length_pos_iff.2 hne;simp[Tryz.ntmps87,Tryz.results87,List.replicate_succ,hrow,hpos,m3,hs0 hlt,hs1 hlt,hs2 hlt,hs3 hlt,hs4 hlt,hs5 hlt];have h1:PB (K.set b (({p with targ:=p.text,text:=[]}:Prs).av b j)) b j {p with targ:=p.text,text:=[]}:=hp.put rfl;exact qaD hB hlt (qbH b j {p with targ:=p.text,text:=[]} rfl) rfl (hp.bnd (p1:={p with targ:=p.text,text:=[]}) rfl) (qaQ hlt (some .line)) (hG _ (some .line) j _ (by rw[if_neg hr,if_pos ⟨rfl,hne⟩]) h1 (fun h=> .inl ⟨h,rfl⟩) (OthP.put ..) (qaZ hB b (hp.bnd (p1:={p with targ:=p.text,text:=[]}) rfl)))
  ·have hb:=(qaU c 32 (by decide) 32 rfl h32).1;have hr':¬((33:Int)<=c.toNat/\(c.toNat:Int)<=126):=by omega
   by_cases h33:(33:Int)<=c.toNat
   ·have h126:¬(c.toNat:Int)<=126:=fun h=>hr' ⟨h33,h⟩;simp[Tryz.ntmps87,Tryz.results87,List.replicate_succ,hb,hrow,h33,h126];refine qaf E' hp _ _ ?_;rw[hpan];exact hR p _ _ _ j K (by rw[if_neg hr,if_neg (fun h=>h32 h.1)];rfl) hp (fun h=> .inl ⟨h,rfl⟩) (OthP.refl ..) hB
   ·simp[Tryz.ntmps87,Tryz.results87,List.replicate_succ,hb,hrow,h33];refine qaf E' hp _ _ ?_;rw[hpan];exact hR p _ _ _ j K (by rw[if_neg hr,if_neg (fun h=>h32 h.1)];rfl) hp (fun h=> .inl ⟨h,rfl⟩) (OthP.refl ..) hB
theorem PB.putD{K:Hp}{b j:Nat}{p p1:Prs}{d d1:Dec}(h:PB K b j p)(hd:p.dec=some d)(hd1:p1.dec=some d1):PB ((K.set b (p1.av b j)).set j d1.av) b j p1:=by
 obtain⟨q1,q2⟩:=h.dec d hd;refine⟨by rw[zqF q1];exact zqO h.lt,fun e he=>?_⟩;rw[hd1]at he;cases he;exact⟨q1,zqO (by simp;exact(zqC.1 q2).1)⟩
theorem qld (hE : SE E) : qjx E b 197 qbo := by
  intro K j p c n Q R hf hn hp hG hR
  refine qbj R (fun _ => False) Tryz.func197 rfl [] [(12, [0, 0, 0, 0, 0, 0, 1]), (7, [0, 0, 3]), (9, [0, 0, 3]), (4, [0, 0, 3])] (by kernel_rfl) (fun E' hpan hS h0 hF hB => ?_)
  have hrow := hp.row
  have hlt := hp.lt
  simp [Prs.av] at hrow
  have hc : (c.toNat : Int) < 256 := by have := c.toNat_lt; omega
  have m2 : (1 : Nat) ≤ maxLen := by unfold maxLen; omega
  have h0p : PB (K.set b (({ p with bodied := true } : Prs).av b j)) b j { p with bodied := true } := hp.put rfl
  have hb0 := qaZ hB b (hp.bnd (p1 := { p with bodied := true }) rfl)
  cases hd : p.dec with
  | none =>
    have hSS : qbo p c = .bad { p with bodied := true } 400 103 p.used := by unfold qbo; rw [hd]; rfl
    simp [Tryz.ntmps197, Tryz.results197, List.replicate_succ, m2, hc, hrow, hd, hs0 hlt, hs1 hlt, hs2 hlt, hs3 hlt, hs4 hlt, hs5 hlt]
    refine qpb E' _ _ [c] ?_
    simp [qai, KP]
    have e0 : [AV.int .i64 p.lt, .int .i64 p.lh, .int .i64 p.lf, .int .i64 p.lb, nxV b p.nx, .int .i64 p.state, .int .i64 p.used, .str p.meth, .str p.targ, .int .i64 p.major, .int .i64 p.minor, .sl true 2 (flds p.fields), .str p.rbody, .sl false 2 (flds p.trailers), .int .i64 p.fst_, .int .i64 p.ferr, .int .i64 p.fat, .sl true 1 (bts p.text), .str [], .int .i64 p.head, .int .i64 p.begin_, .int .i64 p.left, .sl true 1 (bts p.body), .ptr none, .bool true] = ({ p with bodied := true } : Prs).av b j := by simp [Prs.av, hd]
    rw [e0]
    refine qaf E' h0p _ _ ?_
    rw [hpan]
    exact hR _ _ _ _ j _ hSS h0p (fun h => .inl ⟨h, rfl⟩) (OthP.put ..) hb0
  | some d =>
    obtain ⟨hjb, hjd⟩ := hp.dec d hd
    obtain ⟨ok, tot⟩ := hf.c d hd
    have hj' : (K.set b (({ p with bodied := true } : Prs).av b j))[j]? = some d.av := by rw [zqF (Ne.symm hjb)]; exact hjd
    have hj0 : ∀ x, (K.set b x)[j]? = some d.av := fun x => by rw [zqF (Ne.symm hjb)]; exact hjd
    simp [Tryz.ntmps197, Tryz.results197, List.replicate_succ, m2, hc, hrow, hd, hs0 hlt, hs1 hlt, hs2 hlt, hs3 hlt, hs4 hlt, hs5 hlt]
    have e0 : [AV.int .i64 p.lt, .int .i64 p.lh, .int .i64 p.lf, .int .i64 p.lb, nxV b p.nx, .int .i64 p.state, .int .i64 p.used, .str p.meth, .str p.targ, .int .i64 p.major, .int .i64 p.minor, .sl true 2 (flds p.fields), .str p.rbody, .sl false 2 (flds p.trailers), .int .i64 p.fst_, .int .i64 p.ferr, .int .i64 p.fat, .sl true 1 (bts p.text), .str [], .int .i64 p.head, .int .i64 p.begin_, .int .i64 p.left, .sl true 1 (bts p.body), .ptr (some (j, 0)), .bool true] = ({ p with bodied := true } : Prs).av b j := by simp [Prs.av, hd]
    rw [e0]
    by_cases hdn : d.done = true ∨ d.err ≠ 0
    · have hSS : qbo p c = .bad { p with bodied := true } 400 103 p.used := by unfold qbo; rw [hd]; exact if_pos hdn
      refine qm0 E' _ _ j d hj' (hE.env h0 hF) [c] ok (by simp; omega) (fun h1 h2 => absurd hdn (by simp [h1, h2])) (fun _ => ?_)
      simp [qai, KP]
      refine qaf E' h0p _ _ ?_
      rw [hpan]
      exact hR _ _ _ _ j _ hSS h0p (fun h => .inl ⟨h, rfl⟩) (OthP.put ..) hb0
    · have hSS := fun (d1 : Dec) (h1 : (qa6 d [c]).1 = d1) => show qbo p c = (let p1 : Prs := { p with bodied := true, dec := some d1 }
          if d1.err = 102 then qaz p1 413 102 else if d1.err = 104 then qaz p1 431 104 else if d1.err ≠ 0 then qaz p1 400 d1.err else if d1.done = false then .go p1 (some .chunked) else qek { p1 with body := d1.body, trailers := d1.trailers }) by
        unfold qbo; rw [hd, ← h1]; exact if_neg hdn
      refine qm0 E' _ _ j d hj' (hE.env h0 hF) [c] ok (by simp; omega) (fun _ _ => ?_) (fun h => absurd h hdn)
      have ok1 := (qhk [c] d ok).1
      have tot1 : (qa6 d [c]).1.total ≤ n + 1 := by
        have := (qhk [c] d ok).2
        have := qpa [c] d
        simp only [zqL, List.length_nil] at this
        omega
      obtain ⟨d1, hd1⟩ := exz ((qa6 d [c]).1)
      have hS1 := hSS d1 hd1
      clear hSS
      rw [hd1] at ok1 tot1 ⊢
      rw [hS1] at hG hR
      clear hS1 hd1
      dsimp only at hG hR
      obtain ⟨K2, hK2⟩ := exz ((K.set b (({ p with bodied := true } : Prs).av b j)).set j d1.av)
      rw [hK2]
      have hp2 : PB K2 b j { p with bodied := true, dec := some d1 } := by
        have := hp.putD (p1 := { p with bodied := true, dec := some d1 }) hd rfl
        have e1 : ({ p with bodied := true, dec := some d1 } : Prs).av b j = ({ p with bodied := true } : Prs).av b j := by simp [Prs.av, hd]
        rw [e1, hK2] at this
        exact this
      have ho2 : OthP K K2 b j p.dec.isSome := by
        rw [← hK2, hd]
        exact ⟨by simp, fun i hi h1 h2 => by rw [zqF (Ne.symm (h2 rfl)), zqF (Ne.symm h1)]⟩
      have hl2 : K2.length = K.length := by rw [← hK2]; simp
      have hlt2 : b < K2.length := hp2.lt
      have hb2 : BndH K2.length K2 := by
        rw [hl2, ← hK2]
        refine qen (by have := hb0; rwa [List.length_set] at this) _ fun z hz => Dec.bnd d1 _ z hz
      have hrow2 := hp2.row
      simp [Prs.av] at hrow2
      have hd2 : K2[j]? = some d1.av := (hp2.dec d1 rfl).2
      have jj : ∀ (x : Prs), x.dec.isSome = true → (p.dec.isSome = true ∧ j = j) ∨ K.length ≤ j := fun _ _ => .inl ⟨by rw [hd]; rfl, rfl⟩
      clear hK2
      have bad : ∀ st err, qaz { p with bodied := true, dec := some d1 } st err = .bad { p with bodied := true, dec := some d1 } st err p.used := fun _ _ => rfl
      by_cases e102 : d1.err = 102
      · simp [qai, KP, e102]
        refine qaf E' hp2 _ _ ?_
        rw [hpan]
        exact hR _ _ _ _ j K2 (by rw [if_pos e102]; rfl) hp2 (jj _) ho2 hb2
      · by_cases e104 : d1.err = 104
        · simp [qai, KP, e104]
          refine qaf E' hp2 _ _ ?_
          rw [hpan]
          exact hR _ _ _ _ j K2 (by rw [if_neg e102, if_pos e104]; rfl) hp2 (jj _) ho2 hb2
        · have f102 : (d1.err == 102) = false := by simpa using e102
          have f104 : (d1.err == 104) = false := by simpa using e104
          by_cases e0' : d1.err = 0
          · simp [qai, KP, e0', hrow2]
            refine qq5 E' _ _ j d1 hd2 ?_
            by_cases hdd : d1.done = true
            · simp [qai, KP, hdd, hrow2]
              have lb1 : d1.body.length ≤ 1073741824 := by have := ok1.2.1; omega
              have lt1 : d1.trailers.length ≤ 1073741824 := by have := ok1.2.2.1; omega
              have mb : d1.body.length ≤ maxLen := by unfold maxLen; omega
              refine qrg E' _ _ j d1 hd2 lb1 ?_
              simp [qai, KP, qae, hrow2, mb]
              refine qiM E' _ _ j d1 hd2 lt1 ?_
              simp [qai, KP, qae, hrow2, hs0 hlt2, hs1 hlt2, hs2 hlt2, hs3 hlt2, hs4 hlt2, hs5 hlt2]
              have h3 : PB (K2.set b (({ p with bodied := true, dec := some d1, body := d1.body, trailers := d1.trailers } : Prs).av b j)) b j { p with bodied := true, dec := some d1, body := d1.body, trailers := d1.trailers } := hp2.put rfl
              refine qeJ E' (p := { p with bodied := true, dec := some d1, body := d1.body, trailers := d1.trailers }) h3 lb1 (fun K1 g1 g2 g3 => ?_)
              simp [qai, KP]
              subst g2
              rw [List.set_set] at g1 g3 ⊢
              exact qa3 (v := .raw .nilFunc) rfl (by simp; omega) g3 (.raw _) (hG _ none j _ (by rw [if_neg e102, if_neg e104, if_neg (fun h => h e0'), if_neg (by simp [hdd])]; rfl) g1 (jj _) ⟨by simp; omega, fun i hi h1 h2 => by rw [zqF (Ne.symm h1)]; exact ho2.2 i hi h1 h2⟩ g3)
            · have hdd' : d1.done = false := by simpa using hdd
              simp [qai, KP, hdd', hrow2]
              exact qa3 (v := nxV b (some .chunked)) rfl (by omega) hb2 (qaQ hlt2 (some .chunked)) (hG _ _ j K2 (by rw [if_neg e102, if_neg e104, if_neg (fun h => h e0'), if_pos hdd']) hp2 (jj _) ho2 hb2)
          · have f0 : (d1.err == 0) = false := by simpa using e0'
            simp [qai, KP, f0, f102, f104]
            refine qaf E' hp2 _ _ ?_
            rw [hpan]
            exact hR _ _ _ _ j K2 (by rw [if_neg e102, if_neg e104, if_pos e0']; rfl) hp2 (jj _) ho2 hb2
theorem PX.nilTo{P:Program}{E:Env}{f:FuncId}{args:List AV}{H H1:Hp}{Q:AV->Hp->Prop}{R:Value->Hp->Prop}(h:PX P E f args H1 Q R)(hn:nilH H H1)(hl:H1.length=H.length):PX P E f args H Q R:=by
 refine⟨h.1,fun w β Rd Ow cargs hr hcell hsz hargs=>?_⟩;have s:=(S3.start (fr:=[]) (tmps:= #[]) hr rfl (by simp) (by simp)).nilTo (qa8 _) hn
 have tr:∀{w' β' Rd' Ow' H' v c},Post E w β Rd Ow H1 w' β' Rd' Ow' H' v c->Post E w β Rd Ow H w' β' Rd' Ow' H' v c:=fun hp=>
  ⟨hp.rel,hp.bnd,hp.own,hp.ne,hp.hr,fun i hi=>hp.old i (by omega),by have:=hp.len;omega,hp.keep,fun b hb h1 h2=>hp.frame b hb (fun i hi=>h1 i (by omega)) h2,hp.os,hp.tape,hp.output,hp.size⟩
 refine(h.2 w β Rd Ow cargs s.hr hcell hsz (fun t x u hx hu=>by rw[hl];exact hargs t x u hx hu)).mono ?_;rintro e w' (⟨c,v,H',β',Rd',Ow',he,hq,hp⟩|⟨c,H',β',Rd',Ow',he,hq,hp⟩)
 ·exact .inl ⟨c,v,H',β',Rd',Ow',he,hq,tr hp⟩
 ·exact .inr ⟨c,H',β',Rd',Ow',he,hq,tr hp⟩
end
def qn7(E:Env)(b:Nat):Prop:=∀(K:Hp) (j:Nat) (p:Prs) (n:Nat) (Q:AV->Hp->Prop) (R:Value->Hp->Prop),fitP n p->n<=4194304->PB K b j p->
 (∀p1 nx j1 K1,qb7 p= .go p1 nx->PB K1 b j1 p1->(p1.dec.isSome=true->(p.dec.isSome=true/\j1=j)\/K.length<=j1)->OthP K K1 b j p.dec.isSome->BndH K1.length K1->Q (nxV b nx) K1)->
 (∀p1 st err at_ j1 K1,qb7 p= .bad p1 st err at_->PB K1 b j1 p1->(p1.dec.isSome=true->(p.dec.isSome=true/\j1=j)\/K.length<=j1)->OthP K K1 b j p.dec.isSome->BndH K1.length K1->R (qbS st err at_) K1)->
 PX Tryz.prog E 166 [.ptr (some (b,0))] K Q R
section
variable (E:Env){b:Nat}
theorem qmZ(hE:SE E)(hH:∀E':Env,E'.w0=E.w0->E'.Fix=E.Fix->qn7 E' b):qjx E b 145 qb8:=by
 intro K j p c n Q R hf hn hp hG hR;refine qbj R (fun _=>False) Tryz.func145 rfl [60,125] [(2,[0,3]),(6,[0,3]),(13,[0,3,0]),(15,[0,3]),(18,[0,0,0,0,0,0,0,0,3])] (by kernel_rfl) (fun E' hpan hS h0 hF hB=>?_);have hrow:=hp.row;have hlt:=hp.lt;have ha:=hf.a;have hh:=hf.head;have hu:=hf.used;have hbg:=hf.beg;simp[Prs.av]at hrow;have m1:p.text.length<=140737488355327:=by omega
 have m3:p.text.length<=maxLen:=by unfold maxLen;omega
 have m4:p.text.length+1<=maxLen:=by unfold maxLen;omega
 have wh:IntKind.i64.wrap (p.head+1)=p.head+1:=wiz;by_cases h1:p.head=p.lh
 ·simp[Tryz.ntmps145,Tryz.results145,List.replicate_succ,hrow,h1];refine qaf E' hp _ _ ?_;rw[hpan];exact hR p _ _ _ j K (by unfold qb8;rw[if_pos h1];rfl) hp (fun h=> .inl ⟨h,rfl⟩) (OthP.refl ..) hB
 ·have h1':(p.head==p.lh)=false:=by simpa using h1
  have hpb1:PB (K.set b (({p with head:=p.head+1}:Prs).av b j)) b j {p with head:=p.head+1}:=hp.put rfl;have hbd1:=qaZ hB b (hp.bnd (p1:={p with head:=p.head+1}) rfl);have hc:(c.toNat:Int)<256:=by have:=c.toNat_lt;omega
  have bad:((p.text.getLast? ==some 13)≠(c==10))->R (qbS 400 111 p.used) (K.set b (({p with head:=p.head+1}:Prs).av b j)):=fun h=>hR {p with head:=p.head+1} _ _ _ j _ (by unfold qb8;rw[if_neg h1,if_pos h];rfl) hpb1 (fun h=> .inl ⟨h,rfl⟩) (OthP.put ..) hbd1
  have more:c≠10->((p.text.getLast? ==some 13)=(c==10))->∀Q',Q'=Q->Q' (nxV b (some .fields)) (K.set b (({p with head:=p.head+1,text:=p.text++[c]}:Prs).av b j)):=fun h10 h Q' e=>by
   rw[e];exact hG _ _ j _ (by unfold qb8;rw[if_neg h1,if_neg (by simp[h]),if_pos h10]) (hp.put rfl) (fun h=> .inl ⟨h,rfl⟩) (OthP.put ..) (qaZ hB b (hp.bnd (p1:={p with head:=p.head+1,text:=p.text++[c]}) rfl))
  have m2:(1:Nat)<=maxLen:=by unfold maxLen;omega
  have fine:c≠10->((p.text.getLast? ==some 13)=(c==10))->BndH K.length (K.set b (({p with head:=p.head+1,text:=p.text++[c]}:Prs).av b j)):=fun _ _=>by have:=qaZ hB b (hp.bnd (p1:={p with head:=p.head+1,text:=p.text++[c]}) rfl);rwa[List.length_set]at this
  by_cases hne:p.text=[]
  ·have hl0:p.text.length=0:=by rw[hne];rfl
   have g0:(p.text.getLast? ==some 13)=false:=by rw[hne];rfl
   by_cases h10:c=10
   ·subst h10;simp[Tryz.ntmps145,Tryz.results145,List.replicate_succ,hrow,h1',wh,hl0,hs0 hlt,hs1 hlt,hs2 hlt,hs3 hlt,hs4 hlt,hs5 hlt];refine qaf E' (p:={p with head:=p.head+1}) hpb1 _ _ ?_;rw[hpan];exact bad (by rw[g0];decide)
   ·obtain⟨b1,b2⟩:=qaU c 10 (by decide) 10 rfl h10;have hcf:(c==10)=false:=by simpa using h10
    simp[Tryz.ntmps145,Tryz.results145,List.replicate_succ,hrow,h1',wh,hl0,b1,b2,m2,hs0 hlt,hs1 hlt,hs2 hlt,hs3 hlt,hs4 hlt,hs5 hlt,qaO];exact qaD hB hlt (qbd b j {p with head:=p.head+1,text:=p.text++[c]}) rfl (hp.bnd (p1:={p with head:=p.head+1,text:=p.text++[c]}) rfl) (qaQ hlt (some .fields)) (more h10 (by rw[g0,hcf]) Q rfl)
  ·have hpos:0<p.text.length:=List.length_pos_iff.2 hne;obtain⟨z,hz⟩:∃z,p.text.getLast? =some z:=⟨_,List.getLast?_eq_some_getLast hne⟩
   have hz1:p.text[p.text.length-1]? =some z:=by rw[<-List.getLast?_eq_getElem?];exact hz
   have hat:lat (bts p.text) (p.text.length-1)=some [.int .u8 (z.toNat:Int)]:=by simp[lat,bts,hz1]
   have q1:(0:Int)<=p.text.length-1:=by omega
   have q2:((p.text.length:Int)-1).toNat=p.text.length-1:=by omega
   have q3:p.text.length-1<p.text.length:=by omega
   have q4:(1:Int)<=p.text.length:=by omega
   have w2:IntKind.i64.wrap ((p.text.length:Int)-1)=p.text.length-1:=wiz;by_cases h13:z=13
   ·subst h13;have g0:(p.text.getLast? ==some 13)=true:=by rw[hz];rfl
    by_cases h10:c=10
    ·subst h10;have e10:bts p.text++[[.int .u8 10]]=bts (p.text++[10]):=qaO p.text 10;have w3:IntKind.i64.wrap ((p.text.length:Int)+1-2)=((p.text.length-1:Nat):Int):=by rw[qax (by omega) (by omega)];omega
     have q5:p.text.length-1<=p.text.length+1:=by omega
     have q6:p.text.length<=p.text.length+1+1:=by omega
     have e11:List.take (p.text.length-1) (bts (p.text++[10]))=bts p.text.dropLast:=by
      rw[List.dropLast_eq_take];simp only[bts,<-List.map_take];rw[List.take_append_of_le_length (by omega)]
     have hld:p.text.dropLast.length=p.text.length-1:=List.length_dropLast
     have hnp:qb8 p 10=(let p1:Prs:={p with head:=p.head+1,text:=[]}
       if p.text.dropLast=[]then qb7 p1 else if(p.fields.length:Int)=p.lf then qaz p1 431 113
       else if(qa4 p.text.dropLast).2.2≠0 then .bad p1 400 (qa4 p.text.dropLast).2.2 (p.begin_+(qa4 p.text.dropLast).2.1)
       else .go {p1 with fields:=p.fields++[(qa4 p.text.dropLast).1],begin_:=p.used+1} (some .fields)):=by
      unfold qb8;rw[if_neg h1,if_neg (by rw[g0];decide),if_neg (by decide)]
     by_cases hline:p.text.dropLast=[]
     ·simp[Tryz.ntmps145,Tryz.results145,List.replicate_succ,hrow,h1',wh,hpos,w2,q1,q2,q3,q4,hat,m1,m3,m4,e10,w3,q5,e11,hline,hs0 hlt,hs1 hlt,hs2 hlt,hs3 hlt,hs4 hlt,hs5 hlt];have hp1:PB (K.set b (({p with head:=p.head+1,text:=[]}:Prs).av b j)) b j {p with head:=p.head+1,text:=[]}:=hp.put rfl
      refine PX.nilTo (H1:=K.set b (({p with head:=p.head+1,text:=[]}:Prs).av b j)) ?_ (by
       have:=qch (K.set b _) b _ _ (hs4 hlt _) (qbH b j {p with head:=p.head+1,text:=[]} rfl)
       rwa[hs5 hlt]at this) (by simp)
      rw[if_pos hline]at hnp;have hft:fitP (n+1) {p with head:=p.head+1,text:=[]}:={hf with tr:=(by have:=hf.tr;simp only;omega),rb:=(by have:=hf.rb;simp only;omega),tx:=(fun _ x hx=>by simp at hx),ln:=(fun _ k x hx=>by simp at hx),a:=by simp only[List.length_nil];omega,b:=by have:=hf.b;simp only;omega,c:=fun d hd=>⟨(hf.c d hd).1,by have:=(hf.c d hd).2;omega⟩,head:=by simp only;omega,left:=by have:=hf.left;simp only;omega,used:=by simp only;omega,beg:=by simp only;omega}
      refine hH E' h0 hF _ j {p with head:=p.head+1,text:=[]} (n+1) _ _ hft (by omega) hp1 (fun p1 nx j1 K1 g1 g2 g3 g4 g5=>?_) (fun p1 st err at_ j1 K1 g1 g2 g3 g4 g5=>?_)
      ·have g6:OthP K K1 b j p.dec.isSome:=⟨by simpa using g4.1,fun i hi h2 h3=>(g4.2 i (by simpa using hi) h2 h3).trans (zqF (Ne.symm h2))⟩
       have q:=hG p1 nx j1 K1 (hnp.trans g1) g2 (fun h=>(g3 h).imp id (fun h=>by simpa using h)) g6 g5;have hK1:=g6.1;cases nx with
       |none=>
        simp[qai,KP,nxV,hS];exact⟨hK1,qa3 rfl hK1 g5 (qaQ (N:=K1.length) g2.lt none) q⟩
       |some m=>
        simp[qai,KP,nxV,hS];exact⟨hK1,qa3 rfl hK1 g5 (qaQ (N:=K1.length) g2.lt (some m)) q⟩
      ·rw[hpan];exact hR p1 st err at_ j1 K1 (hnp.trans g1) g2 (fun h=>(g3 h).imp id (fun h=>by simpa using h)) ⟨by simpa using g4.1,fun i hi h2 h3=>(g4.2 i (by simpa using hi) h2 h3).trans (zqF (Ne.symm h2))⟩ g5
     ·have hie:p.text.dropLast.isEmpty=false:=by simpa using hline
      have hp1:PB (K.set b (({p with head:=p.head+1,text:=[]}:Prs).av b j)) b j {p with head:=p.head+1,text:=[]}:=hp.put rfl;have hbd2:=qaZ hB b (hp.bnd (p1:={p with head:=p.head+1,text:=[]}) rfl)
      have hnil:∀l,nilL l (({p with head:=p.head+1,text:=[]}:Prs).av b j)->nilH (K.set b l) (K.set b (({p with head:=p.head+1,text:=[]}:Prs).av b j)):=fun l hl=>by
       have:=qch (K.set b l) b _ _ (hs4 hlt _) hl;rwa[hs5 hlt]at this
      rw[if_neg hline]at hnp;by_cases hmany:(p.fields.length:Int)=p.lf
      ·rw[if_pos hmany]at hnp;simp[Tryz.ntmps145,Tryz.results145,List.replicate_succ,hrow,h1',wh,hpos,w2,q1,q2,q3,q4,hat,m1,m3,m4,e10,w3,q5,e11,hie,hmany,hs0 hlt,hs1 hlt,hs2 hlt,hs3 hlt,hs4 hlt,hs5 hlt];refine PX.nilTo (H1:=K.set b (({p with head:=p.head+1,text:=[]}:Prs).av b j)) ?_ (hnil _ (qbH b j {p with head:=p.head+1,text:=[]} rfl)) (by simp);refine qaf E' hp1 _ _ ?_;rw[hpan];exact hR _ _ _ _ j _ hnp hp1 (fun h=> .inl ⟨h,rfl⟩) (OthP.put ..) hbd2
      ·have hmany':((p.fields.length:Int)==p.lf)=false:=by simpa using hmany
       rw[if_neg hmany]at hnp;simp[Tryz.ntmps145,Tryz.results145,List.replicate_succ,hrow,h1',wh,hpos,w2,q1,q2,q3,q4,hat,m1,m3,m4,e10,w3,q5,e11,hie,hmany',hs0 hlt,hs1 hlt,hs2 hlt,hs3 hlt,hs4 hlt,hs5 hlt];obtain⟨L,hL⟩:=exz (qa4 p.text.dropLast);have hfit:=qjY (l:=p.text.dropLast);refine qgZ E' _ _ (hE.env h0 hF) p.text.dropLast (by rw[hld];simp only[cap];omega) ?_;rw[hL]at hnp hfit⊢;rw[hld]at hfit;have hat_:0<=L.2.1/\L.2.1<=16777216:=by rw[<-hL];exact qqR _ (by rw[hld];omega)
       obtain⟨F,at_,er⟩:=L;simp only at hat_;have wa:∀z:Int,z=p.begin_+at_->-9223372036854775808<=z->z<=9223372036854775807->IntKind.i64.wrap (p.begin_+at_)=p.begin_+at_:=fun z hz a1 a2=>qax (by omega) (by omega);by_cases her:er=0
       ·subst her;have h2:=hfit rfl;simp only at h2 hnp;rw[if_neg (by simp)]at hnp;have m5:p.fields.length<=140737488355327:=by omega
        have m6:p.fields.length<=maxLen:=by unfold maxLen;omega
        have m7:p.fields.length+1<=maxLen:=by unfold maxLen;omega
        have wu:IntKind.i64.wrap (p.used+1)=p.used+1:=wiz;have m8:(p.fields.length+1)*32<=140737488355328:=by omega
        simp[qai,KP,hs0 hlt,hs1 hlt,hs2 hlt,hs3 hlt,hs4 hlt,hs5 hlt,m2,m5,m6,m7,m8,wu,qeh]
        exact qdO hB hlt (qbH b j {p with head:=p.head+1,text:=[],fields:=p.fields++[F],begin_:=p.used+1} rfl) rfl (hp.bnd (p1:={p with head:=p.head+1,text:=[],fields:=p.fields++[F],begin_:=p.used+1}) rfl) (qaQ hlt (some .fields))
         (hG _ _ j _ hnp (hp.put rfl) (fun h=> .inl ⟨h,rfl⟩) (OthP.put ..) (qaZ hB b (hp.bnd (p1:={p with head:=p.head+1,text:=[],fields:=p.fields++[F],begin_:=p.used+1}) rfl)))
       ·have her':(er==0)=false:=by simpa using her
        have her2:(er !=0)=true:=by simpa using her
        simp only at hnp;rw[if_pos her]at hnp
        have hwa:IntKind.i64.wrap (p.begin_+at_)=p.begin_+at_:=by
         have:=hat_;exact qax (by omega) (by omega)
        simp[qai,KP,her',her2,hwa,hs0 hlt,hs1 hlt,hs2 hlt,hs3 hlt,hs4 hlt,hs5 hlt]
        have hnA:=fun(J:Hp) (l:List AV) (hl:nilL l (({p with head:=p.head+1,text:=[]}:Prs).av b j))=>show nilH (K.set b l++J) (K.set b (({p with head:=p.head+1,text:=[]}:Prs).av b j)++J)by
         have:=qch (K.set b l++J) b _ _ (hs1 hlt _ _) hl;rwa[hs2 hlt]at this
        refine PX.nilTo (H1:=K.set b (({p with head:=p.head+1,text:=[]}:Prs).av b j)++[[.str F.name,.str F.value]]) ?_ (hnA _ _ (qbH b j {p with head:=p.head+1,text:=[]} rfl)) (by simp);refine qm5 E' _ _ _ _ ?_;rw[hpan]
        have hpa:PB (K.set b (({p with head:=p.head+1,text:=[]}:Prs).av b j)++[[.str F.name,.str F.value]]) b j {p with head:=p.head+1,text:=[]}:=
         ⟨hs1 hlt _ _,fun d hd=>⟨(hp1.dec d hd).1,by rw[zqA (zqC.1 (hp1.dec d hd).2).1];exact(hp1.dec d hd).2⟩⟩
        refine hR _ _ _ _ j _ hnp hpa (fun h=> .inl ⟨h,rfl⟩) ⟨by simp,fun i hi h1 _=>by rw[zqA (by simpa using hi),zqF (Ne.symm h1)]⟩ ?_;have hbb:=qeL (M:=K.length+1) hbd2 (by simp)
        have:=qdy hbb (J:=[[.str F.name,.str F.value]]) (fun X hX y hy=>by
         simp only[List.mem_cons,List.not_mem_nil,or_false]at hX;subst hX;simp at hy
         rcases hy with rfl|rfl<;>exact .str _)
        simpa using this
    ·obtain⟨b1,b2⟩:=qaU c 10 (by decide) 10 rfl h10;have hcf:(c==10)=false:=by simpa using h10
     simp[Tryz.ntmps145,Tryz.results145,List.replicate_succ,hrow,h1',wh,hpos,w2,q1,q2,q3,q4,hat,b1,b2,hs0 hlt,hs1 hlt,hs2 hlt,hs3 hlt,hs4 hlt,hs5 hlt];refine qaf E' (p:={p with head:=p.head+1}) hpb1 _ _ ?_;rw[hpan];exact bad (by rw[g0,hcf];decide)
   ·obtain⟨c1,c2⟩:=qaU z 13 (by decide) 13 rfl h13;have g0:(p.text.getLast? ==some 13)=false:=by rw[hz];simpa using h13
    by_cases h10:c=10
    ·subst h10;simp[Tryz.ntmps145,Tryz.results145,List.replicate_succ,hrow,h1',wh,hpos,w2,q1,q2,q3,q4,hat,c1,c2,hs0 hlt,hs1 hlt,hs2 hlt,hs3 hlt,hs4 hlt,hs5 hlt];refine qaf E' (p:={p with head:=p.head+1}) hpb1 _ _ ?_;rw[hpan];exact bad (by rw[g0];decide)
    ·obtain⟨b1,b2⟩:=qaU c 10 (by decide) 10 rfl h10;have hcf:(c==10)=false:=by simpa using h10
     simp[Tryz.ntmps145,Tryz.results145,List.replicate_succ,hrow,h1',wh,hpos,w2,q1,q2,q3,q4,hat,b1,b2,c1,c2,m1,m3,m4,hs0 hlt,hs1 hlt,hs2 hlt,hs3 hlt,hs4 hlt,hs5 hlt,qaO];exact qaD hB hlt (qbd b j {p with head:=p.head+1,text:=p.text++[c]}) rfl (hp.bnd (p1:={p with head:=p.head+1,text:=p.text++[c]}) rfl) (qaQ hlt (some .fields)) (more h10 (by rw[g0,hcf]) Q rfl)
end
def newP(lt lh lf lb:Int):Prs:={lt:=lt,lh:=lh,lf:=lf,lb:=lb,nx:=some .start,state:=0,used:=0,meth:=[],targ:=[],major:=0,minor:=0,fields:=[],rbody:=[],trailers:=[],fst_:=0,ferr:=0,fat:=0,text:=[],head:=0,begin_:=0,left:=0,body:=[],dec:=none,bodied:=false}
def adv(p:Prs)(nx:Option Md):Prs:={p with nx:=nx,used:=p.used+1}
theorem qo9{p p1:Prs}{m:Md}{c:UInt8}{nx:Option Md}(r:List UInt8)(h:p.nx=some m)(hs:qfu p m c= .go p1 nx):qaI p (c::r)=((qaI (adv p1 nx) r).1,(qaI (adv p1 nx) r).2+1):=by
 simp only[qaI,h,hs];rfl
theorem qm2{p p1:Prs}{m:Md}{c:UInt8}{st err at_:Int}(r:List UInt8)(h:p.nx=some m)(hs:qfu p m c= .bad p1 st err at_):qaI p (c::r)=((SR.bad p1 st err at_).prs,1):=by
 simp only[qaI,h,hs]
theorem qk3{p:Prs}(s:List UInt8)(h:p.nx=none):qaI p s=(p,0):=by
 cases s with
 |nil=>rfl
 |cons c r=>simp only[qaI,h]
def expL:List UInt8:=[69,120,112,101,99,116]
def expB(l:List Fld):Bool:=!(allB l expL).isEmpty
structure Rq where
 meth:List UInt8
 targ:List UInt8
 major:Int
 minor:Int
 fields:List Fld
 body:List UInt8
 trailers:List Fld
def Rq.zero:Rq:=⟨[],[],0,0,[],[],[]⟩
def Rq.avs(r:Rq):List AV:=[.str r.meth,.str r.targ,.int .i64 r.major,.int .i64 r.minor,.sl false 2 (flds r.fields),.str r.body,.sl false 2 (flds r.trailers)]
def Rq.av(r:Rq):AV:= .agg r.avs
def Prs.rq(p:Prs):Rq:=⟨p.meth,p.targ,p.major,p.minor,p.fields,p.rbody,p.trailers⟩
theorem qip:∀(s:List UInt8) (p:Prs) (n:Nat),fitP n p->(qaI p s).1.state≠5->fitP (n+(qaI p s).2) (qaI p s).1
 |[],p,n,h,_=>by simpa[qaI]using h
 |c::r,p,n,hf,h5=>by
  cases h:p.nx with
  |none=>rw[qk3 _ h];exact hf
  |some m=>
   cases hs:qfu p m c with
   |go p1 nx=>
    rw[qo9 r h hs]at h5⊢;have hg:=(qpW hf h hs).1;have:=qip r (adv p1 nx) (n+1) hg h5;simp only;rw[show n+((qaI (adv p1 nx) r).2+1)=n+1+(qaI (adv p1 nx) r).2 by omega];exact this
   |bad p1 st err at_=>
    rw[qm2 r h hs]at h5;exact absurd rfl h5
theorem qoO{lt lh lf lb:Int}(h1:1<=lt/\lt<=65536)(h2:2<=lh/\lh<=1048576)(h3:0<=lf/\lf<=100)(h4:0<=lb/\lb<=1073741824):fitP 0 (newP lt lh lf lb):=
 ⟨by simp[newP,fsz],by simp[newP],fun d hd=>by simp[newP]at hd,h1,h2,h3,h4,by simp[newP],by simp[newP],by simp[newP],by simp[newP],(fun c hc=>by simp[newP]at hc),(fun e=>by simp[newP]at e),(fun e=>by simp[newP]at e),by simp[newP],by simp[newP]⟩
theorem PB.app{K:Hp}{b j:Nat}{p:Prs}(h:PB K b j p)(J:Hp):PB (K++J) b j p:=
 ⟨by rw[zqA h.lt];exact h.row,fun d hd=>by
  obtain⟨q1,q2⟩:=h.dec d hd
  exact⟨q1,by rw[zqA (zqC.1 q2).1];exact q2⟩⟩
theorem OthP.app(K:Hp)(b j:Nat)(d:Bool)(J:Hp):OthP K (K++J) b j d:=⟨by simp,fun i hi _ _=>zqA hi⟩
section
variable (E:Env){K:Hp}{b j:Nat}{p:Prs}(Q:AV->Hp->Prop)
theorem qpT(hp:PB K b j p)(hQ:Q (.bool (decide (p.minor=0))) K):PC Tryz.prog E 44 [.ptr (some (b,0))] K Q:=by
 have hrow:=hp.row;simp[Prs.av]at hrow;refine qab Tryz.func44 rfl [] [] (by kernel_rfl) (fun hB=>?_);simp[Tryz.ntmps44,Tryz.results44,List.replicate_succ,hrow];exact aQz hB (h6:=hQ)
theorem qe1(hp:PB K b j p)(hl:fsz p.fields+p.fields.length<=16777216)(hQ:Q (.bool (expB p.fields)) K):PC Tryz.prog E 45 [.ptr (some (b,0))] K Q:=by
 have hrow:=hp.row;simp[Prs.av]at hrow;refine qab Tryz.func45 rfl [] [] (by kernel_rfl) (fun hB=>?_);simp[Tryz.ntmps45,Tryz.results45,List.replicate_succ,hrow];refine qiA E _ _ p.fields [69,120,112,101,99,116] (by omega) (by decide) ?_;unfold expB expL at hQ;cases hl:allB p.fields [69,120,112,101,99,116]with
 |nil=>
  rw[hl]at hQ;simp[strs];exact aQz hB (h6:=hQ)
 |cons a r=>
  rw[hl]at hQ;have g:(0:Int)<(r.length:Int)+1:=by omega
  simp[strs,g];exact aQz hB (h6:=hQ)
end
section
variable {K:Hp}{b j:Nat}{p:Prs}{Q:AV->Hp->Prop}{P:Program}{rs:List ResultVar}{fr:List AV}
theorem qcV(hp:PB K b j p)(hB:BndH K.length K)(hlt:b<K.length){ln:Int}
  (hG:PB (K.set b (({p with state:=3,dec:=some (newD p.lb p.lh p.lf)}:Prs).av b (K.length+1))++[[AV.int .i64 2,AV.int .i64 ln],(newD p.lb p.lh p.lf).av]) b (K.length+1) {p with state:=3,dec:=some (newD p.lb p.lh p.lf)}->
   (true=true->(p.dec.isSome=true/\K.length+1=j)\/K.length<=K.length+1)->OthP K (K.set b (({p with state:=3,dec:=some (newD p.lb p.lh p.lf)}:Prs).av b (K.length+1))++[[AV.int .i64 2,AV.int .i64 ln],(newD p.lb p.lh p.lf).av]) b j p.dec.isSome->
   BndH (K.set b (({p with state:=3,dec:=some (newD p.lb p.lh p.lf)}:Prs).av b (K.length+1))++[[AV.int .i64 2,AV.int .i64 ln],(newD p.lb p.lh p.lf).av]).length (K.set b (({p with state:=3,dec:=some (newD p.lb p.lh p.lf)}:Prs).av b (K.length+1))++[[AV.int .i64 2,AV.int .i64 ln],(newD p.lb p.lh p.lf).av])->
   Q (nxV b (some .chunked)) (K.set b (({p with state:=3,dec:=some (newD p.lb p.lh p.lf)}:Prs).av b (K.length+1))++[[AV.int .i64 2,AV.int .i64 ln],(newD p.lb p.lh p.lf).av])) (h1:ares P fr (K.set b (({p with state:=3,dec:=some (newD p.lb p.lh p.lf)}:Prs).av b (K.length+1))++[[AV.int .i64 2,AV.int .i64 ln],(newD p.lb p.lh p.lf).av]) rs=some (nxV b (some .chunked)):=by rfl):
  qcc P rs K.length Q .ret fr (K.set b (({p with state:=3,dec:=some (newD p.lb p.lh p.lf)}:Prs).av b (K.length+1))++[[AV.int .i64 2,AV.int .i64 ln],(newD p.lb p.lh p.lf).av]):=by
 have hbd:BndH (K.length+2) (K.set b (({p with state:=3,dec:=some (newD p.lb p.lh p.lf)}:Prs).av b (K.length+1))++[[AV.int .i64 2,AV.int .i64 ln],(newD p.lb p.lh p.lf).av]):=by
  refine qdy (qen (qeL hB (by omega)) _ ?_) ?_
  ·exact Prs.bnd (by omega) (fun _ _=>by omega)
  ·intro X hX y hy;simp only[List.mem_cons,List.not_mem_nil,or_false]at hX;rcases hX with rfl|rfl
   ·simp at hy;rcases hy with rfl|rfl<;>exact .int _ _
   ·exact Dec.bnd _ _ y hy
 have hlen:(K.set b (({p with state:=3,dec:=some (newD p.lb p.lh p.lf)}:Prs).av b (K.length+1))++[[AV.int .i64 2,AV.int .i64 ln],(newD p.lb p.lh p.lf).av]).length=K.length+2:=by simp
 rw[<-hlen]at hbd;refine qa3 (v:=nxV b (some .chunked)) h1 (by rw[hlen];omega) hbd (qaQ (by rw[hlen];omega) (some .chunked)) (hG ⟨hs1 hlt _ _,fun d hd=>?_⟩ (fun _=> .inr (by omega)) ⟨by rw[hlen];omega,fun i hi h1 _=>by rw[zqA (by simpa using hi),zqF (Ne.symm h1)]⟩ hbd);cases hd;exact⟨by omega,by rw[zqB (by simp)];simp⟩
theorem qcU(hp:PB K b j p)(hB:BndH K.length K)(hlt:b<K.length)(kd ln:Int)
  (hG:PB (K.set b (({p with state:=3,left:=ln}:Prs).av b j)++[[AV.int .i64 kd,AV.int .i64 ln]]) b j {p with state:=3,left:=ln}->
   (p.dec.isSome=true->(p.dec.isSome=true/\j=j)\/K.length<=j)->OthP K (K.set b (({p with state:=3,left:=ln}:Prs).av b j)++[[AV.int .i64 kd,AV.int .i64 ln]]) b j p.dec.isSome->
   BndH (K.set b (({p with state:=3,left:=ln}:Prs).av b j)++[[AV.int .i64 kd,AV.int .i64 ln]]).length (K.set b (({p with state:=3,left:=ln}:Prs).av b j)++[[AV.int .i64 kd,AV.int .i64 ln]])->
   Q (nxV b (some .counted)) (K.set b (({p with state:=3,left:=ln}:Prs).av b j)++[[AV.int .i64 kd,AV.int .i64 ln]])) (h1:ares P fr (K.set b (({p with state:=3,left:=ln}:Prs).av b j)++[[AV.int .i64 kd,AV.int .i64 ln]]) rs=some (nxV b (some .counted)):=by rfl):
  qcc P rs K.length Q .ret fr (K.set b (({p with state:=3,left:=ln}:Prs).av b j)++[[AV.int .i64 kd,AV.int .i64 ln]]):=by
 have hbd:BndH (K.length+1) (K.set b (({p with state:=3,left:=ln}:Prs).av b j)++[[AV.int .i64 kd,AV.int .i64 ln]]):=by
  refine qdy (qeL (qen hB _ (hp.bnd (p1:={p with state:=3,left:=ln}) rfl)) (by omega)) ?_;intro X hX y hy;simp only[List.mem_cons,List.not_mem_nil,or_false]at hX;subst hX;simp at hy;rcases hy with rfl|rfl<;>exact .int _ _
 have hlen:(K.set b (({p with state:=3,left:=ln}:Prs).av b j)++[[AV.int .i64 kd,AV.int .i64 ln]]).length=K.length+1:=by simp
 rw[<-hlen]at hbd;exact qa3 (v:=nxV b (some .counted)) h1 (by rw[hlen];omega) hbd (qaQ (by rw[hlen];omega) (some .counted)) (hG ((hp.put (p1:={p with state:=3,left:=ln}) rfl).app _) (fun h=> .inl ⟨h,rfl⟩) ⟨by rw[hlen];omega,fun i hi h1 _=>by rw[zqA (by simpa using hi),zqF (Ne.symm h1)]⟩ hbd)
end
section
variable (E:Env){b:Nat}
theorem qmJ(hE:PE E):qn7 E b:=by
 intro K j p n Q R hf hn hp hG hR;refine qbj R (fun _=>False) Tryz.func166 rfl [] [(1,[0,0,0,0,0,0,4,4]),(7,[0,0,0,0,0,0,1]),(6,[0,0,3]),(3,[0,0,3]),(11,[0,0,3]),(15,[0,3]),(17,[0,3])] (by kernel_rfl) (fun E' hpan hS' h0 hF hB=>?_);have hE':=hE.env h0 hF;have hrow:=hp.row;have hlt:=hp.lt;have ha:=hf.a;simp[Prs.av]at hrow;simp[Tryz.ntmps166,Tryz.results166,List.replicate_succ,hrow];refine qdm fun J=>?_;refine qpT E' _ (hp.app J) ⟨rfl,?_⟩;refine qdm fun J2=>?_;refine qeH E' _ _ hE'.1.1 p.fields _ (by omega) ⟨rfl,?_⟩;have hSd:qb7 p=qb7 p:=rfl
 conv at hSd=>rhs;unfold qb7
 dsimp only at hSd;obtain⟨kd,ln,e0,hFr⟩:∃kd ln e0,qaJ p.fields (decide (p.minor=0))=(kd,ln,e0):=⟨_,_,_,rfl⟩
 obtain⟨h,hok,e1,hHo⟩:∃h hok e1,qhe p.fields (decide (p.minor=0))=(h,hok,e1):=⟨_,_,_,rfl⟩
 rw[hFr,hHo]at hSd;simp only at hSd;rw[hFr];have hp1:PB (K++[[AV.int .i64 kd,AV.int .i64 ln]]) b j p:=hp.app _
 have hB1:BndH (K++[[AV.int .i64 kd,AV.int .i64 ln]]).length (K++[[AV.int .i64 kd,AV.int .i64 ln]]):=by
  have hbb:=qeL (M:=K.length+1) hB (by simp)
  have:=qdy hbb (J:=[[.int .i64 kd,.int .i64 ln]]) (fun X hX y hy=>by
   simp only[List.mem_cons,List.not_mem_nil,or_false]at hX;subst hX;simp at hy
   rcases hy with rfl|rfl<;>exact .int _ _)
  simpa using this
 have hrow1:=hp1.row;simp[Prs.av]at hrow1;have hk1:(K++[[AV.int .i64 kd,.int .i64 ln]])[K.length]? =some [.int .i64 kd,.int .i64 ln]:=by simp
 have hlt1:b<(K++[[AV.int .i64 kd,.int .i64 ln]]).length:=hp1.lt;by_cases z67:e0=67
 ·subst z67;rw[if_pos rfl]at hSd;simp[qai,KP,qae,hrow];refine qaf E' hp1 _ _ ?_;rw[hpan];exact hR p _ _ _ j _ hSd hp1 (fun h=> .inl ⟨h,rfl⟩) (OthP.app ..) hB1
 rw[if_neg z67]at hSd;by_cases z0:e0=0;rotate_left
 ·have z0':(e0==0)=false:=by simpa using z0
  have z67':(e0==67)=false:=by simpa using z67
  rw[if_pos z0]at hSd;simp[qai,KP,qae,hrow,z0',z67'];refine qaf E' hp1 _ _ ?_;rw[hpan];exact hR p _ _ _ j _ hSd hp1 (fun h=> .inl ⟨h,rfl⟩) (OthP.app ..) hB1
 subst z0;rw[if_neg (by simp)]at hSd;simp[qai,KP,qae,hrow,hrow1];refine qpT E' _ hp1 ?_;simp[qai,KP,qae,hrow1];refine qo8 E' _ p.fields _ (by omega) (fun h' ok' e1' hH'=>?_)
 obtain⟨rfl,rfl,rfl⟩:h=h'/\hok=ok'/\e1=e1':=by
  have:=hHo.symm.trans hH';simpa using this
 clear hH';by_cases y1:e1=0;rotate_left
 ·have y1':(e1==0)=false:=by simpa using y1
  have y1'':(e1 !=0)=true:=by simpa using y1
  rw[if_pos y1]at hSd;simp[qai,KP,qae,hrow1,y1',y1''];refine qaf E' hp1 _ _ ?_;rw[hpan];exact hR p _ _ _ j _ hSd hp1 (fun h=> .inl ⟨h,rfl⟩) (OthP.app ..) hB1
 subst y1;rw[if_neg (by simp)]at hSd;by_cases hh:h=[]
 ·rw[if_neg (fun x=>x.1 hh)]at hSd;have hS:=hSd;clear hSd;simp[qai,KP,qae,hrow1,hh];refine qe1 E' _ hp1 (by omega) ?_;cases hexp:expB p.fields with
  |false=>
   have hnil:allB p.fields [69,120,112,101,99,116]=[]:=by unfold expB expL at hexp;simpa using hexp
   rw[if_neg (fun h=>h.1 hnil)]at hS;simp[qai,KP];by_cases hbig:p.lb<ln
   ·rw[if_pos hbig]at hS;simp[qai,KP,hrow1,hk1,hbig,hs0 hlt];refine qaf E' hp1 _ _ ?_;rw[hpan];exact hR p _ _ _ j _ hS hp1 (fun h=> .inl ⟨h,rfl⟩) (OthP.app ..) hB1
   ·rw[if_neg hbig]at hS;have hbig':¬p.lb<ln:=hbig;by_cases hk2:kd=2
    ·rw[if_pos hk2]at hS;subst hk2;simp[qai,KP,hrow1,hk1,hbig',hs0 hlt,hs1 hlt,hs2 hlt,hs3 hlt,hs4 hlt,hs5 hlt,-List.append_assoc,zqB];refine qhs E' _ _ _ _ _ (fun _ _ _=>?_) (fun h=>by have:=hf.lb;have:=hf.lh;have:=hf.lf;omega);simp[qai,KP,hrow1,hs0 hlt,hs1 hlt,hs2 hlt,hs3 hlt,hs4 hlt,hs5 hlt];exact qcV hp hB hlt (hG _ (some .chunked) (K.length+1) _ hS)
    ·rw[if_neg hk2]at hS;have hk2':(kd==2)=false:=by simpa using hk2
     by_cases hpos:0<ln
     ·rw[if_pos hpos]at hS;simp[qai,KP,hrow1,hk1,hbig',hk2',hpos,hs0 hlt,hs1 hlt,hs2 hlt,hs3 hlt,hs4 hlt,hs5 hlt];exact qcU hp hB hlt kd ln (hG _ (some .counted) j _ hS)
     ·rw[if_neg hpos]at hS;simp[qai,KP,hrow1,hk1,hbig',hk2',hpos,hs0 hlt,hs1 hlt,hs2 hlt,hs3 hlt,hs4 hlt,hs5 hlt];have h3:PB (K.set b (({p with state:=3}:Prs).av b j)++[[AV.int .i64 kd,AV.int .i64 ln]]) b j {p with state:=3}:=(hp.put (p1:={p with state:=3}) rfl).app _;refine qeJ E' (p:={p with state:=3}) h3 (by have:=hf.b;simp only;omega) (fun K1 g1 g2 g3=>?_);simp[qai,KP];unfold qek at hS;have hlK:K1.length=K.length+1:=by rw[g2];simp
      exact qa3 (v:= .raw .nilFunc) rfl (by omega) g3 (.raw _) (hG _ none j _ hS g1 (fun h=> .inl ⟨h,rfl⟩) ⟨by omega,fun i hi h1 _=>by rw[g2,zqF (Ne.symm h1),zqA (by simpa using hi),zqF (Ne.symm h1)]⟩ g3)
  |true=>
   have hnil:allB p.fields [69,120,112,101,99,116]≠[]:=by unfold expB expL at hexp;simpa using hexp
   simp[qai,KP,hrow1];refine qfr E' _ _ hE'.1.1 p.fields [69,120,112,101,99,116] (by omega) (by decide) ?_;obtain⟨tl,te,htk⟩:∃tl te,qbw p.fields [69,120,112,101,99,116]=(tl,te):=⟨_,_,rfl⟩
   rw[htk]at hS⊢;simp only at hS;by_cases hte:te=0
   ·subst hte;rcases tl with _|⟨t0,_|⟨t1,tr⟩⟩
    ·rw[if_pos ⟨hnil,.inr (by simp)⟩]at hS;simp[qai,KP,strs];refine qaf E' hp1 _ _ ?_;rw[hpan];exact hR p _ _ _ j _ hS hp1 (fun h=> .inl ⟨h,rfl⟩) (OthP.app ..) hB1
    ·have hat0:lat (strs [t0]) 0=some [AV.str t0]:=rfl;by_cases ht0:t0=[49,48,48,45,99,111,110,116,105,110,117,101]
     ·subst ht0;rw[if_neg (fun h=>h.2.elim (fun h=>h rfl) (fun h=>h rfl))]at hS;simp[qai,KP,hat0];by_cases hbig:p.lb<ln
      ·rw[if_pos hbig]at hS;simp[qai,KP,hrow1,hk1,hbig,hs0 hlt];refine qaf E' hp1 _ _ ?_;rw[hpan];exact hR p _ _ _ j _ hS hp1 (fun h=> .inl ⟨h,rfl⟩) (OthP.app ..) hB1
      ·rw[if_neg hbig]at hS;have hbig':¬p.lb<ln:=hbig;by_cases hk2:kd=2
       ·rw[if_pos hk2]at hS;subst hk2;simp[qai,KP,hrow1,hk1,hbig',hs0 hlt,hs1 hlt,hs2 hlt,hs3 hlt,hs4 hlt,hs5 hlt,-List.append_assoc,zqB];refine qhs E' _ _ _ _ _ (fun _ _ _=>?_) (fun h=>by have:=hf.lb;have:=hf.lh;have:=hf.lf;omega);simp[qai,KP,hrow1,hs0 hlt,hs1 hlt,hs2 hlt,hs3 hlt,hs4 hlt,hs5 hlt];exact qcV hp hB hlt (hG _ (some .chunked) (K.length+1) _ hS)
       ·rw[if_neg hk2]at hS;have hk2':(kd==2)=false:=by simpa using hk2
        by_cases hpos:0<ln
        ·rw[if_pos hpos]at hS;simp[qai,KP,hrow1,hk1,hbig',hk2',hpos,hs0 hlt,hs1 hlt,hs2 hlt,hs3 hlt,hs4 hlt,hs5 hlt];exact qcU hp hB hlt kd ln (hG _ (some .counted) j _ hS)
        ·rw[if_neg hpos]at hS;simp[qai,KP,hrow1,hk1,hbig',hk2',hpos,hs0 hlt,hs1 hlt,hs2 hlt,hs3 hlt,hs4 hlt,hs5 hlt];have h3:PB (K.set b (({p with state:=3}:Prs).av b j)++[[AV.int .i64 kd,AV.int .i64 ln]]) b j {p with state:=3}:=(hp.put (p1:={p with state:=3}) rfl).app _;refine qeJ E' (p:={p with state:=3}) h3 (by have:=hf.b;simp only;omega) (fun K1 g1 g2 g3=>?_);simp[qai,KP];unfold qek at hS;have hlK:K1.length=K.length+1:=by rw[g2];simp
         exact qa3 (v:= .raw .nilFunc) rfl (by omega) g3 (.raw _) (hG _ none j _ hS g1 (fun h=> .inl ⟨h,rfl⟩) ⟨by omega,fun i hi h1 _=>by rw[g2,zqF (Ne.symm h1),zqA (by simpa using hi),zqF (Ne.symm h1)]⟩ g3)
     ·rw[if_pos ⟨hnil,.inr (by simpa using ht0)⟩]at hS;have ht0':(t0==[49,48,48,45,99,111,110,116,105,110,117,101])=false:=by simpa using ht0
      have ht0'':(t0 !=[49,48,48,45,99,111,110,116,105,110,117,101])=true:=by simpa using ht0
      simp[qai,KP,hat0,ht0',ht0''];refine qaf E' hp1 _ _ ?_;rw[hpan];exact hR p _ _ _ j _ hS hp1 (fun h=> .inl ⟨h,rfl⟩) (OthP.app ..) hB1
    ·rw[if_pos ⟨hnil,.inr (by simp)⟩]at hS;have g1:¬((tr.length:Int)+1+1)=1:=by omega
     have g2:((tr.length:Int)+1+1 !=1)=true:=by simpa using g1
     simp[qai,KP,strs,g1,g2];refine qaf E' hp1 _ _ ?_;rw[hpan];exact hR p _ _ _ j _ hS hp1 (fun h=> .inl ⟨h,rfl⟩) (OthP.app ..) hB1
   ·rw[if_pos ⟨hnil,.inl hte⟩]at hS;have hte':(te==0)=false:=by simpa using hte
    have hte2:(te !=0)=true:=by simpa using hte
    simp[qai,KP,hte',hte2];refine qaf E' hp1 _ _ ?_;rw[hpan];exact hR p _ _ _ j _ hS hp1 (fun h=> .inl ⟨h,rfl⟩) (OthP.app ..) hB1
 ·have hh':(h !=[])=true:=by simpa using hh
  simp[qai,KP,qae,hrow1,hh']
  have hhl:h.length<=4194304:=by
   have:∀v∈allB p.fields [72,111,115,116],v.length<=fsz p.fields:=qiC _ _;unfold qhe at hHo;rcases hal:allB p.fields [72,111,115,116]with _|⟨v,_|⟨w,t⟩⟩
   ·rw[hal]at hHo;dsimp only at hHo;split at hHo<;>(cases hHo;try exact absurd rfl hh)
   ·have:=this v (by rw[hal];exact .head _);rw[hal]at hHo;dsimp only at hHo;split at hHo
    ·cases hHo
    ·cases hHo;omega
   ·rw[hal]at hHo;dsimp only at hHo;cases hHo
  refine qck E' _ hE' h (by omega) (fun hx px ex hA _ _ _=>?_);rw[hA]at hSd;simp only at hSd;by_cases x0:ex=0;rotate_left
  ·have x0':(ex==0)=false:=by simpa using x0
   have x0'':(ex !=0)=true:=by simpa using x0
   rw[if_pos ⟨hh,x0⟩]at hSd;simp[qai,KP,x0',x0''];refine qaf E' hp1 _ _ ?_;rw[hpan];exact hR p _ _ _ j _ hSd hp1 (fun h=> .inl ⟨h,rfl⟩) (OthP.app ..) hB1
  subst x0;rw[if_neg (fun x=>x.2 rfl)]at hSd;have hS:=hSd;clear hSd;simp[qai,KP];refine qe1 E' _ hp1 (by omega) ?_;cases hexp:expB p.fields with
  |false=>
   have hnil:allB p.fields [69,120,112,101,99,116]=[]:=by unfold expB expL at hexp;simpa using hexp
   rw[if_neg (fun h=>h.1 hnil)]at hS;simp[qai,KP];by_cases hbig:p.lb<ln
   ·rw[if_pos hbig]at hS;simp[qai,KP,hrow1,hk1,hbig,hs0 hlt];refine qaf E' hp1 _ _ ?_;rw[hpan];exact hR p _ _ _ j _ hS hp1 (fun h=> .inl ⟨h,rfl⟩) (OthP.app ..) hB1
   ·rw[if_neg hbig]at hS;have hbig':¬p.lb<ln:=hbig;by_cases hk2:kd=2
    ·rw[if_pos hk2]at hS;subst hk2;simp[qai,KP,hrow1,hk1,hbig',hs0 hlt,hs1 hlt,hs2 hlt,hs3 hlt,hs4 hlt,hs5 hlt,-List.append_assoc,zqB];refine qhs E' _ _ _ _ _ (fun _ _ _=>?_) (fun h=>by have:=hf.lb;have:=hf.lh;have:=hf.lf;omega);simp[qai,KP,hrow1,hs0 hlt,hs1 hlt,hs2 hlt,hs3 hlt,hs4 hlt,hs5 hlt];exact qcV hp hB hlt (hG _ (some .chunked) (K.length+1) _ hS)
    ·rw[if_neg hk2]at hS;have hk2':(kd==2)=false:=by simpa using hk2
     by_cases hpos:0<ln
     ·rw[if_pos hpos]at hS;simp[qai,KP,hrow1,hk1,hbig',hk2',hpos,hs0 hlt,hs1 hlt,hs2 hlt,hs3 hlt,hs4 hlt,hs5 hlt];exact qcU hp hB hlt kd ln (hG _ (some .counted) j _ hS)
     ·rw[if_neg hpos]at hS;simp[qai,KP,hrow1,hk1,hbig',hk2',hpos,hs0 hlt,hs1 hlt,hs2 hlt,hs3 hlt,hs4 hlt,hs5 hlt];have h3:PB (K.set b (({p with state:=3}:Prs).av b j)++[[AV.int .i64 kd,AV.int .i64 ln]]) b j {p with state:=3}:=(hp.put (p1:={p with state:=3}) rfl).app _;refine qeJ E' (p:={p with state:=3}) h3 (by have:=hf.b;simp only;omega) (fun K1 g1 g2 g3=>?_);simp[qai,KP];unfold qek at hS;have hlK:K1.length=K.length+1:=by rw[g2];simp
      exact qa3 (v:= .raw .nilFunc) rfl (by omega) g3 (.raw _) (hG _ none j _ hS g1 (fun h=> .inl ⟨h,rfl⟩) ⟨by omega,fun i hi h1 _=>by rw[g2,zqF (Ne.symm h1),zqA (by simpa using hi),zqF (Ne.symm h1)]⟩ g3)
  |true=>
   have hnil:allB p.fields [69,120,112,101,99,116]≠[]:=by unfold expB expL at hexp;simpa using hexp
   simp[qai,KP,hrow1];refine qfr E' _ _ hE'.1.1 p.fields [69,120,112,101,99,116] (by omega) (by decide) ?_;obtain⟨tl,te,htk⟩:∃tl te,qbw p.fields [69,120,112,101,99,116]=(tl,te):=⟨_,_,rfl⟩
   rw[htk]at hS⊢;simp only at hS;by_cases hte:te=0
   ·subst hte;rcases tl with _|⟨t0,_|⟨t1,tr⟩⟩
    ·rw[if_pos ⟨hnil,.inr (by simp)⟩]at hS;simp[qai,KP,strs];refine qaf E' hp1 _ _ ?_;rw[hpan];exact hR p _ _ _ j _ hS hp1 (fun h=> .inl ⟨h,rfl⟩) (OthP.app ..) hB1
    ·have hat0:lat (strs [t0]) 0=some [AV.str t0]:=rfl;by_cases ht0:t0=[49,48,48,45,99,111,110,116,105,110,117,101]
     ·subst ht0;rw[if_neg (fun h=>h.2.elim (fun h=>h rfl) (fun h=>h rfl))]at hS;simp[qai,KP,hat0];by_cases hbig:p.lb<ln
      ·rw[if_pos hbig]at hS;simp[qai,KP,hrow1,hk1,hbig,hs0 hlt];refine qaf E' hp1 _ _ ?_;rw[hpan];exact hR p _ _ _ j _ hS hp1 (fun h=> .inl ⟨h,rfl⟩) (OthP.app ..) hB1
      ·rw[if_neg hbig]at hS;have hbig':¬p.lb<ln:=hbig;by_cases hk2:kd=2
       ·rw[if_pos hk2]at hS;subst hk2;simp[qai,KP,hrow1,hk1,hbig',hs0 hlt,hs1 hlt,hs2 hlt,hs3 hlt,hs4 hlt,hs5 hlt,-List.append_assoc,zqB];refine qhs E' _ _ _ _ _ (fun _ _ _=>?_) (fun h=>by have:=hf.lb;have:=hf.lh;have:=hf.lf;omega);simp[qai,KP,hrow1,hs0 hlt,hs1 hlt,hs2 hlt,hs3 hlt,hs4 hlt,hs5 hlt];exact qcV hp hB hlt (hG _ (some .chunked) (K.length+1) _ hS)
       ·rw[if_neg hk2]at hS;have hk2':(kd==2)=false:=by simpa using hk2
        by_cases hpos:0<ln
        ·rw[if_pos hpos]at hS;simp[qai,KP,hrow1,hk1,hbig',hk2',hpos,hs0 hlt,hs1 hlt,hs2 hlt,hs3 hlt,hs4 hlt,hs5 hlt];exact qcU hp hB hlt kd ln (hG _ (some .counted) j _ hS)
        ·rw[if_neg hpos]at hS;simp[qai,KP,hrow1,hk1,hbig',hk2',hpos,hs0 hlt,hs1 hlt,hs2 hlt,hs3 hlt,hs4 hlt,hs5 hlt];have h3:PB (K.set b (({p with state:=3}:Prs).av b j)++[[AV.int .i64 kd,AV.int .i64 ln]]) b j {p with state:=3}:=(hp.put (p1:={p with state:=3}) rfl).app _;refine qeJ E' (p:={p with state:=3}) h3 (by have:=hf.b;simp only;omega) (fun K1 g1 g2 g3=>?_);simp[qai,KP];unfold qek at hS;have hlK:K1.length=K.length+1:=by rw[g2];simp
         exact qa3 (v:= .raw .nilFunc) rfl (by omega) g3 (.raw _) (hG _ none j _ hS g1 (fun h=> .inl ⟨h,rfl⟩) ⟨by omega,fun i hi h1 _=>by rw[g2,zqF (Ne.symm h1),zqA (by simpa using hi),zqF (Ne.symm h1)]⟩ g3)
     ·rw[if_pos ⟨hnil,.inr (by simpa using ht0)⟩]at hS;have ht0':(t0==[49,48,48,45,99,111,110,116,105,110,117,101])=false:=by simpa using ht0
      have ht0'':(t0 !=[49,48,48,45,99,111,110,116,105,110,117,101])=true:=by simpa using ht0
      simp[qai,KP,hat0,ht0',ht0''];refine qaf E' hp1 _ _ ?_;rw[hpan];exact hR p _ _ _ j _ hS hp1 (fun h=> .inl ⟨h,rfl⟩) (OthP.app ..) hB1
    ·rw[if_pos ⟨hnil,.inr (by simp)⟩]at hS;have g1:¬((tr.length:Int)+1+1)=1:=by omega
     have g2:((tr.length:Int)+1+1 !=1)=true:=by simpa using g1
     simp[qai,KP,strs,g1,g2];refine qaf E' hp1 _ _ ?_;rw[hpan];exact hR p _ _ _ j _ hS hp1 (fun h=> .inl ⟨h,rfl⟩) (OthP.app ..) hB1
   ·rw[if_pos ⟨hnil,.inl hte⟩]at hS;have hte':(te==0)=false:=by simpa using hte
    have hte2:(te !=0)=true:=by simpa using hte
    simp[qai,KP,hte',hte2];refine qaf E' hp1 _ _ ?_;rw[hpan];exact hR p _ _ _ j _ hS hp1 (fun h=> .inl ⟨h,rfl⟩) (OthP.app ..) hB1
end
theorem qj7{k:Nat}{c:UInt8}(h:qa5 k c=true)(hk:k=5\/k=7):48<=c.toNat/\c.toNat<=57:=by
 unfold qa5 at h;rw[if_neg (by omega),if_pos hk]at h;simpa using h
theorem u8w(c:UInt8)(h:48<=c.toNat/\c.toNat<=57):IntKind.u8.wrap ((c.toNat:Int)-48)=c.toNat-48:=by rw[IntKind.wrap_u8];omega
section
variable (E:Env){b:Nat}
theorem qqQ(hE:PE E)(K:Hp)(j:Nat)(p:Prs)(c:UInt8)(n:Nat)(Q:AV->Hp->Prop)(R:Value->Hp->Prop)(hf:fitP n p)(hn:n<4194304)(hnx:p.nx=some .line)(hp:PB K b j p)
 (hG:∀p1 nx j1 K1,qc9 p c= .go p1 nx->PB K1 b j1 p1->(p1.dec.isSome=true->(p.dec.isSome=true/\j1=j)\/K.length<=j1)->OthP K K1 b j p.dec.isSome->BndH K1.length K1->Q (nxV b nx) K1)
 (hR:∀p1 st err at_ j1 K1,qc9 p c= .bad p1 st err at_->PB K1 b j1 p1->(p1.dec.isSome=true->(p.dec.isSome=true/\j1=j)\/K.length<=j1)->OthP K K1 b j p.dec.isSome->BndH K1.length K1->R (qbS st err at_) K1):
 PX Tryz.prog E 119 [.ptr (some (b,0)),.int .u8 (c.toNat:Int)] K Q R:=by
 refine qbj R (fun _=>False) Tryz.func119 rfl [60] [(15,[0,3]),(22,[0,3]),(23,[0,0,0,0,0,0,0,0,0,0,4]),(25,[0,0,3])] (by kernel_rfl) (fun E' hpan hS' h0 hF hB=>?_);have hE':=hE.env h0 hF;have hrow:=hp.row;have hlt:=hp.lt;have ha:=hf.a;have hu:=hf.used;have hln:=hf.ln hnx;simp[Prs.av]at hrow;obtain⟨N,hN⟩:=exz (p.text.length);have m1:p.text.length<=140737488355327:=by omega
 have m3:p.text.length<=maxLen:=by unfold maxLen;omega
 have m4:p.text.length+1<=maxLen:=by unfold maxLen;omega
 rw[hN]at m1 m3 m4;have bad:qa5 N c=false->R (qbS 400 111 p.used) K:=fun h=>hR p _ _ _ j K (by unfold qc9;rw[hN,if_pos h];rfl) hp (fun h=> .inl ⟨h,rfl⟩) (OthP.refl ..) hB
 have more:qa5 N c=true->N<9->Q (nxV b (some .line)) (K.set b (({p with text:=p.text++[c]}:Prs).av b j)):=fun h h9=>
  hG {p with text:=p.text++[c]} (some .line) j _ (by unfold qc9;rw[hN,if_neg (by rw[h];simp),if_pos h9]) (hp.put (p1:={p with text:=p.text++[c]}) rfl) (fun h=> .inl ⟨h,rfl⟩) (OthP.put ..) (qaZ hB b (hp.bnd (p1:={p with text:=p.text++[c]}) rfl))
 have hc0:=c.toNat_lt;rcases(by omega:N<5\/(N=5\/N=7)\/N=6\/N=8\/N=9\/9<N)with hC|hC|hC|hC|hC|hC
 ·obtain⟨x,hx⟩:∃x,([72,84,84,80,47]:List UInt8)[N]? =some x:=⟨_,zqD (by simpa using hC)⟩
  have la:=qaP hx;have g1:(N:Int)<5:=by omega
  have g9:(N:Int)<9:=by omega
  by_cases hcx:c=x
  ·have hgg:qa5 N c=true:=by unfold qa5;rw[if_pos hC,hx,hcx];simp
   rw[<-hcx]at la;rcases(by omega:c.toNat<48\/(48<=c.toNat/\c.toNat<=57)\/57<c.toNat)with hr|hr|hr
   ·have d1:¬(48:Int)<=c.toNat:=by omega
    have d2:(c.toNat:Int)<=57:=by omega
    simp[Tryz.ntmps119,Tryz.results119,List.replicate_succ,hrow,hN,d1,d2,m1,m3,m4,hs0 hlt,hs1 hlt,hs2 hlt,hs3 hlt,hs4 hlt,hs5 hlt,qaO,g1,g9,la];exact qaD hB hlt (qbd b j {p with text:=p.text++[c]}) rfl (hp.bnd (p1:={p with text:=p.text++[c]}) rfl) (qaQ hlt (some .line)) (more hgg (by omega))
   ·have d1:(48:Int)<=c.toNat:=by omega
    have d2:(c.toNat:Int)<=57:=by omega
    simp[Tryz.ntmps119,Tryz.results119,List.replicate_succ,hrow,hN,d1,d2,m1,m3,m4,hs0 hlt,hs1 hlt,hs2 hlt,hs3 hlt,hs4 hlt,hs5 hlt,qaO,g1,g9,la];exact qaD hB hlt (qbd b j {p with text:=p.text++[c]}) rfl (hp.bnd (p1:={p with text:=p.text++[c]}) rfl) (qaQ hlt (some .line)) (more hgg (by omega))
   ·have d1:(48:Int)<=c.toNat:=by omega
    have d2:¬(c.toNat:Int)<=57:=by omega
    simp[Tryz.ntmps119,Tryz.results119,List.replicate_succ,hrow,hN,d1,d2,m1,m3,m4,hs0 hlt,hs1 hlt,hs2 hlt,hs3 hlt,hs4 hlt,hs5 hlt,qaO,g1,g9,la];exact qaD hB hlt (qbd b j {p with text:=p.text++[c]}) rfl (hp.bnd (p1:={p with text:=p.text++[c]}) rfl) (qaQ hlt (some .line)) (more hgg (by omega))
  ·have hgb:qa5 N c=false:=by unfold qa5;rw[if_pos hC,hx];simpa using fun e=>hcx e.symm
   have hcx2:((c.toNat:Int)==(x.toNat:Int))=false:=by rw[beq_eq_false_iff_ne];intro e;exact hcx (UInt8.toNat_inj.1 (by omega))
   rcases(by omega:c.toNat<48\/(48<=c.toNat/\c.toNat<=57)\/57<c.toNat)with hr|hr|hr
   ·have d1:¬(48:Int)<=c.toNat:=by omega
    have d2:(c.toNat:Int)<=57:=by omega
    simp[Tryz.ntmps119,Tryz.results119,List.replicate_succ,hrow,hN,d1,d2,g1,la,hcx2];refine qaf E' hp _ _ ?_;rw[hpan];exact bad hgb
   ·have d1:(48:Int)<=c.toNat:=by omega
    have d2:(c.toNat:Int)<=57:=by omega
    simp[Tryz.ntmps119,Tryz.results119,List.replicate_succ,hrow,hN,d1,d2,g1,la,hcx2];refine qaf E' hp _ _ ?_;rw[hpan];exact bad hgb
   ·have d1:(48:Int)<=c.toNat:=by omega
    have d2:¬(c.toNat:Int)<=57:=by omega
    simp[Tryz.ntmps119,Tryz.results119,List.replicate_succ,hrow,hN,d1,d2,g1,la,hcx2];refine qaf E' hp _ _ ?_;rw[hpan];exact bad hgb
 ·have g1:¬(N:Int)<5:=by omega
  have g9:(N:Int)<9:=by omega
  rcases hC with hC|hC
  ·have hNv:(N:Int)=5:=by omega
   rcases(by omega:c.toNat<48\/(48<=c.toNat/\c.toNat<=57)\/57<c.toNat)with hr|hr|hr
   ·have d1:¬(48:Int)<=c.toNat:=by omega
    have d2:(c.toNat:Int)<=57:=by omega
    have hgb:qa5 N c=false:=by unfold qa5;rw[if_neg (by omega),if_pos (by omega)];simp;omega
    simp[Tryz.ntmps119,Tryz.results119,List.replicate_succ,hrow,hN,d1,d2,hNv];refine qaf E' hp _ _ ?_;rw[hpan];exact bad hgb
   ·have d1:(48:Int)<=c.toNat:=by omega
    have d2:(c.toNat:Int)<=57:=by omega
    have hgg:qa5 N c=true:=by unfold qa5;rw[if_neg (by omega),if_pos (by omega)];simpa using hr
    simp[Tryz.ntmps119,Tryz.results119,List.replicate_succ,hrow,hN,d1,d2,m1,m3,m4,hs0 hlt,hs1 hlt,hs2 hlt,hs3 hlt,hs4 hlt,hs5 hlt,qaO,hNv];exact qaD hB hlt (qbd b j {p with text:=p.text++[c]}) rfl (hp.bnd (p1:={p with text:=p.text++[c]}) rfl) (qaQ hlt (some .line)) (more hgg (by omega))
   ·have d1:(48:Int)<=c.toNat:=by omega
    have d2:¬(c.toNat:Int)<=57:=by omega
    have hgb:qa5 N c=false:=by unfold qa5;rw[if_neg (by omega),if_pos (by omega)];simp;omega
    simp[Tryz.ntmps119,Tryz.results119,List.replicate_succ,hrow,hN,d1,d2,hNv];refine qaf E' hp _ _ ?_;rw[hpan];exact bad hgb
  ·have hNv:(N:Int)=7:=by omega
   rcases(by omega:c.toNat<48\/(48<=c.toNat/\c.toNat<=57)\/57<c.toNat)with hr|hr|hr
   ·have d1:¬(48:Int)<=c.toNat:=by omega
    have d2:(c.toNat:Int)<=57:=by omega
    have hgb:qa5 N c=false:=by unfold qa5;rw[if_neg (by omega),if_pos (by omega)];simp;omega
    simp[Tryz.ntmps119,Tryz.results119,List.replicate_succ,hrow,hN,d1,d2,hNv];refine qaf E' hp _ _ ?_;rw[hpan];exact bad hgb
   ·have d1:(48:Int)<=c.toNat:=by omega
    have d2:(c.toNat:Int)<=57:=by omega
    have hgg:qa5 N c=true:=by unfold qa5;rw[if_neg (by omega),if_pos (by omega)];simpa using hr
    simp[Tryz.ntmps119,Tryz.results119,List.replicate_succ,hrow,hN,d1,d2,m1,m3,m4,hs0 hlt,hs1 hlt,hs2 hlt,hs3 hlt,hs4 hlt,hs5 hlt,qaO,hNv];exact qaD hB hlt (qbd b j {p with text:=p.text++[c]}) rfl (hp.bnd (p1:={p with text:=p.text++[c]}) rfl) (qaQ hlt (some .line)) (more hgg (by omega))
   ·have d1:(48:Int)<=c.toNat:=by omega
    have d2:¬(c.toNat:Int)<=57:=by omega
    have hgb:qa5 N c=false:=by unfold qa5;rw[if_neg (by omega),if_pos (by omega)];simp;omega
    simp[Tryz.ntmps119,Tryz.results119,List.replicate_succ,hrow,hN,d1,d2,hNv];refine qaf E' hp _ _ ?_;rw[hpan];exact bad hgb
 ·have hNv:(N:Int)=6:=by omega
  by_cases hcx:c=46
  ·have hgg:qa5 N c=true:=by unfold qa5;rw[if_neg (by omega),if_neg (by omega),if_pos hC,hcx];simp
   have g9:(N:Int)<9:=by omega
   have d1:¬(48:Int)<=c.toNat:=by rw[hcx];decide
   have d2:(c.toNat:Int)<=57:=by rw[hcx];decide
   have d3:(c.toNat:Int)=46:=by rw[hcx];decide
   have e10:bts p.text++[[AV.int .u8 46]]=bts (p.text++[c]):=by rw[hcx];exact qaO p.text 46
   simp[Tryz.ntmps119,Tryz.results119,List.replicate_succ,hrow,hN,d1,d2,m1,m3,m4,hs0 hlt,hs1 hlt,hs2 hlt,hs3 hlt,hs4 hlt,hs5 hlt,qaO,hNv,d3,e10];exact qaD hB hlt (qbd b j {p with text:=p.text++[c]}) rfl (hp.bnd (p1:={p with text:=p.text++[c]}) rfl) (qaQ hlt (some .line)) (more hgg (by omega))
  ·have hgb:qa5 N c=false:=by unfold qa5;rw[if_neg (by omega),if_neg (by omega),if_pos hC];simpa using hcx
   have hb:=(qaU c 46 (by decide) 46 rfl hcx).1;rcases(by omega:c.toNat<48\/(48<=c.toNat/\c.toNat<=57)\/57<c.toNat)with hr|hr|hr
   ·have d1:¬(48:Int)<=c.toNat:=by omega
    have d2:(c.toNat:Int)<=57:=by omega
    simp[Tryz.ntmps119,Tryz.results119,List.replicate_succ,hrow,hN,d1,d2,hNv,hb];refine qaf E' hp _ _ ?_;rw[hpan];exact bad hgb
   ·have d1:(48:Int)<=c.toNat:=by omega
    have d2:(c.toNat:Int)<=57:=by omega
    simp[Tryz.ntmps119,Tryz.results119,List.replicate_succ,hrow,hN,d1,d2,hNv,hb];refine qaf E' hp _ _ ?_;rw[hpan];exact bad hgb
   ·have d1:(48:Int)<=c.toNat:=by omega
    have d2:¬(c.toNat:Int)<=57:=by omega
    simp[Tryz.ntmps119,Tryz.results119,List.replicate_succ,hrow,hN,d1,d2,hNv,hb];refine qaf E' hp _ _ ?_;rw[hpan];exact bad hgb
 ·have hNv:(N:Int)=8:=by omega
  by_cases hcx:c=13
  ·have hgg:qa5 N c=true:=by unfold qa5;rw[if_neg (by omega),if_neg (by omega),if_neg (by omega),if_pos hC,hcx];simp
   have g9:(N:Int)<9:=by omega
   have d1:¬(48:Int)<=c.toNat:=by rw[hcx];decide
   have d2:(c.toNat:Int)<=57:=by rw[hcx];decide
   have d3:(c.toNat:Int)=13:=by rw[hcx];decide
   have e10:bts p.text++[[AV.int .u8 13]]=bts (p.text++[c]):=by rw[hcx];exact qaO p.text 13
   simp[Tryz.ntmps119,Tryz.results119,List.replicate_succ,hrow,hN,d1,d2,m1,m3,m4,hs0 hlt,hs1 hlt,hs2 hlt,hs3 hlt,hs4 hlt,hs5 hlt,qaO,hNv,d3,e10];exact qaD hB hlt (qbd b j {p with text:=p.text++[c]}) rfl (hp.bnd (p1:={p with text:=p.text++[c]}) rfl) (qaQ hlt (some .line)) (more hgg (by omega))
  ·have hgb:qa5 N c=false:=by unfold qa5;rw[if_neg (by omega),if_neg (by omega),if_neg (by omega),if_pos hC];simpa using hcx
   have hb:=(qaU c 13 (by decide) 13 rfl hcx).1;rcases(by omega:c.toNat<48\/(48<=c.toNat/\c.toNat<=57)\/57<c.toNat)with hr|hr|hr
   ·have d1:¬(48:Int)<=c.toNat:=by omega
    have d2:(c.toNat:Int)<=57:=by omega
    simp[Tryz.ntmps119,Tryz.results119,List.replicate_succ,hrow,hN,d1,d2,hNv,hb];refine qaf E' hp _ _ ?_;rw[hpan];exact bad hgb
   ·have d1:(48:Int)<=c.toNat:=by omega
    have d2:(c.toNat:Int)<=57:=by omega
    simp[Tryz.ntmps119,Tryz.results119,List.replicate_succ,hrow,hN,d1,d2,hNv,hb];refine qaf E' hp _ _ ?_;rw[hpan];exact bad hgb
   ·have d1:(48:Int)<=c.toNat:=by omega
    have d2:¬(c.toNat:Int)<=57:=by omega
    simp[Tryz.ntmps119,Tryz.results119,List.replicate_succ,hrow,hN,d1,d2,hNv,hb];refine qaf E' hp _ _ ?_;rw[hpan];exact bad hgb
 ·have hNv:(N:Int)=9:=by omega
  by_cases hcx:c=10
  ·have hgg:qa5 N c=true:=by unfold qa5;rw[if_neg (by omega),if_neg (by omega),if_neg (by omega),if_neg (by omega),if_pos hC,hcx];simp
   subst hcx;have e10:bts p.text++[[AV.int .u8 10]]=bts (p.text++[10]):=qaO p.text 10;obtain⟨x5,hx5⟩:∃x,p.text[5]? =some x:=⟨_,zqD (by omega)⟩
   obtain⟨x7,hx7⟩:∃x,p.text[7]? =some x:=⟨_,zqD (by omega)⟩
   have r5:=qj7 (hln 5 x5 hx5) (.inl rfl);have r7:=qj7 (hln 7 x7 hx7) (.inr rfl)
   have la5:lat (bts (p.text++[10])) 5=some [.int .u8 (x5.toNat:Int)]:=by
    have:(p.text++[10])[5]? =some x5:=by rw[zqA (by omega)];exact hx5
    unfold lat bts;rw[List.getElem?_map,this];rfl
   have la7:lat (bts (p.text++[10])) 7=some [.int .u8 (x7.toNat:Int)]:=by
    have:(p.text++[10])[7]? =some x7:=by rw[zqA (by omega)];exact hx7
    unfold lat bts;rw[List.getElem?_map,this];rfl
   have gd5:p.text.getD 5 0=x5:=by simp[List.getD,hx5]
   have gd7:p.text.getD 7 0=x7:=by simp[List.getD,hx7]
   have hV:qc9 p 10=(let p1:Prs:={p with text:=[],major:=(x5.toNat:Int)-48,minor:=(x7.toNat:Int)-48}
     if p1.major≠1\/1<p1.minor then qaz p1 505 117 else if tgtE p.meth p.targ≠0 then qaz p1 400 (tgtE p.meth p.targ)else .go {p1 with state:=2,begin_:=p.used+1} (some .fields)):=by
    unfold qc9;rw[hN,if_neg (by rw[hgg];simp),if_neg (by omega),gd5,gd7]
   obtain⟨ma,hma⟩:∃m:Int,(x5.toNat:Int)-48=m:=⟨_,rfl⟩
   obtain⟨mi,hmi⟩:∃m:Int,(x7.toNat:Int)-48=m:=⟨_,rfl⟩
   rw[hma,hmi]at hV;dsimp only at hV;have w5:IntKind.u8.wrap ((x5.toNat:Int)-48)=ma:=(u8w x5 r5).trans hma;have w7:IntKind.u8.wrap ((x7.toNat:Int)-48)=mi:=(u8w x7 r7).trans hmi;have v5':IntKind.i64.wrap ma=ma:=wiz;have v7':IntKind.i64.wrap mi=mi:=wiz;have hp1:PB (K.set b (({p with text:=[],major:=ma,minor:=mi}:Prs).av b j)) b j {p with text:=[],major:=ma,minor:=mi}:=hp.put rfl;have hbd1:=qaZ hB b (hp.bnd (p1:={p with text:=[],major:=ma,minor:=mi}) rfl)
   have hnil:∀l,nilL l (({p with text:=[],major:=ma,minor:=mi}:Prs).av b j)->nilH (K.set b l) (K.set b (({p with text:=[],major:=ma,minor:=mi}:Prs).av b j)):=fun l hl=>by
    have:=qch (K.set b l) b _ _ (hs4 hlt _) hl;rwa[hs5 hlt]at this
   have hbadv:(ma≠1\/1<mi)->R (qbS 505 117 p.used) (K.set b (({p with text:=[],major:=ma,minor:=mi}:Prs).av b j)):=fun h=>
    hR {p with text:=[],major:=ma,minor:=mi} _ _ _ j _ (by rw[hV,if_pos h];rfl) hp1 (fun h=> .inl ⟨h,rfl⟩) (OthP.put ..) hbd1
   have w11:IntKind.i64.wrap 1=1:=by decide
   by_cases hm1:ma=1
   ·by_cases hmi1:1<mi
    ·simp[Tryz.ntmps119,Tryz.results119,List.replicate_succ,hrow,hN,hNv,m1,m3,m4,e10,la5,la7,w5,w7,v5',v7',w11,hm1,hmi1,hs0 hlt,hs1 hlt,hs2 hlt,hs3 hlt,hs4 hlt,hs5 hlt];refine PX.nilTo (H1:=K.set b (({p with text:=[],major:=ma,minor:=mi}:Prs).av b j)) ?_ (hnil _ (by rw[hm1];exact qbH b j {p with text:=[],major:=1,minor:=mi} rfl)) (by simp);refine qaf E' hp1 _ _ ?_;rw[hpan];exact hbadv (.inr hmi1)
    ·rw[if_neg (by omega)]at hV;simp[Tryz.ntmps119,Tryz.results119,List.replicate_succ,hrow,hN,hNv,m1,m3,m4,e10,la5,la7,w5,w7,v5',v7',w11,hm1,hmi1,hs0 hlt,hs1 hlt,hs2 hlt,hs3 hlt,hs4 hlt,hs5 hlt];refine qdm fun J=>?_;refine qlM E' _ hE' p.meth p.targ (by omega) hf.asc (fun fm pt h pa qu hq v=>⟨rfl,?_⟩);by_cases hT:tgtE p.meth p.targ=0
     ·rw[if_neg (by simp[hT])]at hV;have wu:IntKind.i64.wrap (p.used+1)=p.used+1:=wiz;simp[tgV,hT,wu,hs0 hlt,hs1 hlt,hs2 hlt,hs3 hlt,hs4 hlt,hs5 hlt];subst hm1
      exact qdO hB hlt (qbH b j {p with text:=[],major:=1,minor:=mi,state:=2,begin_:=p.used+1} rfl) rfl (hp.bnd (p1:={p with text:=[],major:=1,minor:=mi,state:=2,begin_:=p.used+1}) rfl) (qaQ hlt (some .fields))
       (hG _ _ j _ hV (hp.put (p1:={p with text:=[],major:=1,minor:=mi,state:=2,begin_:=p.used+1}) rfl) (fun h=> .inl ⟨h,rfl⟩) (OthP.put ..) (qaZ hB b (hp.bnd (p1:={p with text:=[],major:=1,minor:=mi,state:=2,begin_:=p.used+1}) rfl)))
     ·rw[if_pos hT]at hV;have hT':(tgtE p.meth p.targ==0)=false:=by simpa using hT
      have hT2:(tgtE p.meth p.targ !=0)=true:=by simpa using hT
      simp[tgV,hT',hT2,hs0 hlt,hs1 hlt,hs2 hlt,hs3 hlt,hs4 hlt,hs5 hlt]
      have hnA:=fun(J:Hp) (l:List AV) (hl:nilL l (({p with text:=[],major:=ma,minor:=mi}:Prs).av b j))=>show nilH (K.set b l++J) (K.set b (({p with text:=[],major:=ma,minor:=mi}:Prs).av b j)++J)by
       have:=qch (K.set b l++J) b _ _ (hs1 hlt _ _) hl;rwa[hs2 hlt]at this
      refine PX.nilTo (H1:=K.set b (({p with text:=[],major:=ma,minor:=mi}:Prs).av b j)++[[.int .i64 fm,.str h,.int .i64 pt,.str pa,.str qu,.bool hq]]) ?_ (hnA _ _ (by rw[hm1];exact qbH b j {p with text:=[],major:=1,minor:=mi} rfl)) (by simp);refine qaf E' (hp1.app _) _ _ ?_;rw[hpan];refine hR _ _ _ _ j _ hV (hp1.app _) (fun h=> .inl ⟨h,rfl⟩) ⟨by simp,fun i hi h1 _=>by rw[zqA (by simpa using hi),zqF (Ne.symm h1)]⟩ ?_;have hbb:=qeL (M:=K.length+1) hbd1 (by simp)
      have:=qdy hbb (J:=[[AV.int .i64 fm,.str h,.int .i64 pt,.str pa,.str qu,.bool hq]]) (fun X hX y hy=>by
       simp only[List.mem_cons,List.not_mem_nil,or_false]at hX;subst hX;simp at hy
       rcases hy with rfl|rfl|rfl|rfl|rfl|rfl<;>constructor)
      simpa using this
   ·have hm1':(ma==1)=false:=by simpa using hm1
    have hm2:(ma !=1)=true:=by simpa using hm1
    simp[Tryz.ntmps119,Tryz.results119,List.replicate_succ,hrow,hN,hNv,m1,m3,m4,e10,la5,la7,w5,w7,v5',v7',hm1',hm2,hs0 hlt,hs1 hlt,hs2 hlt,hs3 hlt,hs4 hlt,hs5 hlt];refine PX.nilTo (H1:=K.set b (({p with text:=[],major:=ma,minor:=mi}:Prs).av b j)) ?_ (hnil _ (qbH b j {p with text:=[],major:=ma,minor:=mi} rfl)) (by simp);refine qaf E' hp1 _ _ ?_;rw[hpan];exact hbadv (.inl hm1)
  ·have hgb:qa5 N c=false:=by unfold qa5;rw[if_neg (by omega),if_neg (by omega),if_neg (by omega),if_neg (by omega),if_pos hC];simpa using hcx
   have hb:=(qaU c 10 (by decide) 10 rfl hcx).1;rcases(by omega:c.toNat<48\/(48<=c.toNat/\c.toNat<=57)\/57<c.toNat)with hr|hr|hr
   ·have d1:¬(48:Int)<=c.toNat:=by omega
    have d2:(c.toNat:Int)<=57:=by omega
    simp[Tryz.ntmps119,Tryz.results119,List.replicate_succ,hrow,hN,d1,d2,hNv,hb];refine qaf E' hp _ _ ?_;rw[hpan];exact bad hgb
   ·have d1:(48:Int)<=c.toNat:=by omega
    have d2:(c.toNat:Int)<=57:=by omega
    simp[Tryz.ntmps119,Tryz.results119,List.replicate_succ,hrow,hN,d1,d2,hNv,hb];refine qaf E' hp _ _ ?_;rw[hpan];exact bad hgb
   ·have d1:(48:Int)<=c.toNat:=by omega
    have d2:¬(c.toNat:Int)<=57:=by omega
    simp[Tryz.ntmps119,Tryz.results119,List.replicate_succ,hrow,hN,d1,d2,hNv,hb];refine qaf E' hp _ _ ?_;rw[hpan];exact bad hgb
 ·have q5:¬(N:Int)<5:=by omega
  have f5:((N:Int)==5)=false:=by rw[beq_eq_false_iff_ne];omega
  have f6:((N:Int)==6)=false:=by rw[beq_eq_false_iff_ne];omega
  have f7:((N:Int)==7)=false:=by rw[beq_eq_false_iff_ne];omega
  have f8:((N:Int)==8)=false:=by rw[beq_eq_false_iff_ne];omega
  have f9:((N:Int)==9)=false:=by rw[beq_eq_false_iff_ne];omega
  have hgb:qa5 N c=false:=by unfold qa5;rw[if_neg (by omega),if_neg (by omega),if_neg (by omega),if_neg (by omega),if_neg (by omega)]
  rcases(by omega:c.toNat<48\/(48<=c.toNat/\c.toNat<=57)\/57<c.toNat)with hr|hr|hr
  ·have d1:¬(48:Int)<=c.toNat:=by omega
   have d2:(c.toNat:Int)<=57:=by omega
   simp[Tryz.ntmps119,Tryz.results119,List.replicate_succ,hrow,hN,d1,d2,q5,f5,f6,f7,f8,f9];refine qaf E' hp _ _ ?_;rw[hpan];exact bad hgb
  ·have d1:(48:Int)<=c.toNat:=by omega
   have d2:(c.toNat:Int)<=57:=by omega
   simp[Tryz.ntmps119,Tryz.results119,List.replicate_succ,hrow,hN,d1,d2,q5,f5,f6,f7,f8,f9];refine qaf E' hp _ _ ?_;rw[hpan];exact bad hgb
  ·have d1:(48:Int)<=c.toNat:=by omega
   have d2:¬(c.toNat:Int)<=57:=by omega
   simp[Tryz.ntmps119,Tryz.results119,List.replicate_succ,hrow,hN,d1,d2,q5,f5,f6,f7,f8,f9];refine qaf E' hp _ _ ?_;rw[hpan];exact bad hgb
theorem feedOk(hE:PE E):qp6 E b:=by
 intro K j p m c n Q R hf hn hnx hp hG hR;have hH:∀E':Env,E'.w0=E.w0->E'.Fix=E.Fix->qn7 E' b:=fun E' h0 hF=>qmJ E' (hE.env h0 hF);cases m
 ·exact qoq E hE.1.1 K j p c n Q R hf hn hp hG hR
 ·exact qiP E K j p c n Q R hf hn hp hG hR
 ·exact qh4 E hE.1.1 K j p c n Q R hf hn hp hG hR
 ·exact qlO E K j p c n Q R hf hn hp hG hR
 ·exact qqQ E hE K j p c n Q R hf hn hnx hp hG hR
 ·exact qmZ E hE.1.1 hH K j p c n Q R hf hn hp hG hR
 ·exact qlb E K j p c n Q R hf hn hp hG hR
 ·exact qld E hE.1.1 K j p c n Q R hf hn hp hG hR
end
theorem qqF{H K:Hp}(h1:H.length<=K.length)(h2:∀i,i<H.length->K[i]? =H[i]?):∃J,K=H++J:=by
 refine⟨K.drop H.length,?_⟩;apply List.ext_getElem?;intro i;by_cases hi:i<H.length
 ·rw[zqA hi,h2 i hi]
 ·rw[zqB (by omega),zqN];congr 1;omega
def chkE(a b c d:Int):Int:=if(1<=a/\a<=65536)/\(2<=b/\b<=1048576)/\(0<=c/\c<=100)/\(0<=d/\d<=1073741824)then 0 else 115
def limV(a b c d:Int):AV:= .agg [.int .i64 a,.int .i64 b,.int .i64 c,.int .i64 d]
def Rq.if(c:Bool)(r:Rq):Rq:=if c then r else .zero
theorem Rq.nil(m t b:List UInt8)(ma mi:Int):NilL [.str m,.str t,.int .i64 ma,.int .i64 mi,.nil,.str b,.nil] (Rq.mk m t ma mi [] b []).avs:=⟨.same _,.same _,.same _,.same _,.nil _,.same _,.nil _,trivial⟩
theorem Rq.bnd(r:Rq)(N:Nat):∀x∈r.avs,Bnd N x:=by
 intro x hx;simp only[Rq.avs,List.mem_cons,List.not_mem_nil,or_false]at hx;rcases hx with rfl|rfl|rfl|rfl|rfl|rfl|rfl<;>first|exact qdx _ _ _|constructor
def fltV(p:Prs):AV:=if p.state=5 then .agg [.int .i64 p.fst_,.int .i64 p.ferr,.int .i64 p.fat]else .agg [.int .i64 0,.int .i64 0,.int .i64 0]
section
variable (E:Env){H:Hp}(Q:AV->Hp->Prop)
theorem qki(n a b:Int)(hQ:Q (.bool (decide (a<=n)&&decide (n<=b))) H):PC Tryz.prog E 40 [.int .i64 n,.int .i64 a,.int .i64 b] H Q:=by
 refine qab Tryz.func40 rfl [] [] (by kernel_rfl) (fun hB=>?_);by_cases h1:a<=n
 ·by_cases h2:n<=b
  ·simp[Tryz.ntmps40,Tryz.results40,List.replicate_succ,h1,h2];exact aQz hB (h6:=(by simpa[h1,h2]using hQ))
  ·simp[Tryz.ntmps40,Tryz.results40,List.replicate_succ,h1,h2];exact aQz hB (h6:=(by simpa[h1,h2]using hQ))
 ·simp[Tryz.ntmps40,Tryz.results40,List.replicate_succ,h1];exact aQz hB (h6:=(by simpa[h1]using hQ))
theorem ql9(a b c d:Int)(hQ:Q (.int .i64 (chkE a b c d)) H):PC Tryz.prog E 20 [limV a b c d] H Q:=by
 refine qab Tryz.func20 rfl [] [] (by kernel_rfl) (fun hB=>?_);have fin:∀e,chkE a b c d=e->Q (.int .i64 e) H:=fun e h=>h▸hQ;simp[Tryz.ntmps20,Tryz.results20,List.replicate_succ,limV];refine qki E _ a 1 65536 ?_;by_cases h1:1<=a/\a<=65536
 ·have g1:(decide (1<=a)&&decide (a<=65536))=true:=by simpa using h1
  rw[g1];simp;refine qki E _ b 2 1048576 ?_;by_cases h2:2<=b/\b<=1048576
  ·have g2:(decide (2<=b)&&decide (b<=1048576))=true:=by simpa using h2
   rw[g2];simp;refine qki E _ c 0 100 ?_;by_cases h3:0<=c/\c<=100
   ·have g3:(decide (0<=c)&&decide (c<=100))=true:=by simpa using h3
    rw[g3];simp;refine qki E _ d 0 1073741824 ?_;by_cases h4:0<=d/\d<=1073741824
    ·have g4:(decide (0<=d)&&decide (d<=1073741824))=true:=by simpa using h4
     rw[g4];simp;exact qac hB rfl (qaa _) (by simp) (fin 0 (by unfold chkE;rw[if_pos ⟨h1,h2,h3,h4⟩]))
    ·have g4:(decide (0<=d)&&decide (d<=1073741824))=false:=by rw[Bool.eq_false_iff];intro h;simp at h;exact h4 h
     rw[g4];simp;exact qac hB rfl (qaa _) (by simp) (fin 115 (by unfold chkE;rw[if_neg (fun h=>h4 h.2.2.2)]))
   ·have g3:(decide (0<=c)&&decide (c<=100))=false:=by rw[Bool.eq_false_iff];intro h;simp at h;exact h3 h
    rw[g3];simp;exact qac hB rfl (qaa _) (by simp) (fin 115 (by unfold chkE;rw[if_neg (fun h=>h3 h.2.2.1)]))
  ·have g2:(decide (2<=b)&&decide (b<=1048576))=false:=by rw[Bool.eq_false_iff];intro h;simp at h;exact h2 h
   rw[g2];simp;exact qac hB rfl (qaa _) (by simp) (fin 115 (by unfold chkE;rw[if_neg (fun h=>h2 h.2.1)]))
 ·have g1:(decide (1<=a)&&decide (a<=65536))=false:=by rw[Bool.eq_false_iff];intro h;simp at h;exact h1 h
  rw[g1];simp;exact qac hB rfl (qaa _) (by simp) (fin 115 (by unfold chkE;rw[if_neg (fun h=>h1 h.1)]))
theorem ql5(hQ:Q (limV 8000 16384 100 1048576) H):PC Tryz.prog E 17 [] H Q:=by
 refine qab Tryz.func17 rfl [] [] (by kernel_rfl) (fun hB=>?_);simp[Tryz.ntmps17,Tryz.results17,List.replicate_succ];exact qac hB (v0:=limV 8000 16384 100 1048576) (by simp[limV]) (qaa _) (by simp[limV]) hQ
theorem qoI(hE:SE E)(s:List UInt8)(hl:s.length<=cap)(hQ:Q (.bool (tokB s&&decide (s.length<=24))) H):PC Tryz.prog E 21 [.str s] H Q:=by
 refine qab Tryz.func21 rfl [] [] (by kernel_rfl) (fun hB=>?_);simp[Tryz.ntmps21,Tryz.results21,List.replicate_succ];refine qbr E _ _ hE s hl ?_;cases ht:tokB s with
 |false=>
  rw[ht]at hQ;simp;exact aQz hB (h6:=hQ)
 |true=>
  rw[ht]at hQ;have e:decide ((s.length:Int)<=24)=decide (s.length<=24):=by rw[decide_eq_decide];omega
  rw[Bool.true_and,<-e]at hQ;simp;exact aQz hB (h6:=hQ)
def nwH(H:Hp)(a b c d:Int):Hp:=H++[[.int .i64 a,.int .i64 b,.int .i64 c,.int .i64 d],(newP a b c d).av (H.length+1) 0]
theorem nwH_pb(H:Hp)(a b c d:Int):PB (nwH H a b c d) (H.length+1) 0 (newP a b c d):=⟨by unfold nwH;rw[zqB (by omega)];simp,fun d hd=>by cases hd⟩
theorem qqK{H:Hp}(hB:BndH H.length H)(a b c d:Int):BndH (nwH H a b c d).length (nwH H a b c d):=by
 have hl:(nwH H a b c d).length=H.length+2:=by unfold nwH;simp
 rw[hl];unfold nwH;refine qdy (qeL hB (by omega)) (fun X hX y hy=>?_);simp only[List.mem_cons,List.not_mem_nil,or_false]at hX;rcases hX with rfl|rfl
 ·simp at hy;rcases hy with rfl|rfl|rfl|rfl<;>exact .int _ _
 ·exact Prs.bnd (by omega) (fun d hd=>by cases hd) y hy
theorem qqH(a b c d:Int)(hQ1:chkE a b c d=0->BndH (nwH H a b c d).length (nwH H a b c d)->Q (.tup [.ptr (some (H.length+1,0)),.int .i64 0]) (nwH H a b c d))(hQ2:chkE a b c d≠0->Q (.tup [.ptr none,.int .i64 (chkE a b c d)]) H):PC Tryz.prog E 18 [limV a b c d] H Q:=by
 refine qab Tryz.func18 rfl [] [] (by kernel_rfl) (fun hB=>?_);simp[Tryz.ntmps18,Tryz.results18,List.replicate_succ,limV];refine ql9 E _ a b c d ?_;by_cases h:chkE a b c d=0
 ·have hbn:=qqK hB a b c d;simp[h];refine⟨.tup [.ptr (some (H.length+1,0)),.int .i64 0],_,nwH H a b c d,nwH H a b c d,[],rfl,qaa _,?_,(List.append_nil _).symm,by unfold nwH;simp,hbn,by unfold nwH;simp,hQ1 h hbn⟩;exact qg2 H ⟨qa8 _,⟨.inl rfl,.inl rfl,.inl rfl,.inl rfl,.inl rfl,.inl rfl,.inl rfl,.inl rfl,.inl rfl,.inl rfl,.inl rfl,.inr ⟨rfl,true,2,rfl⟩,.inl rfl,.inr ⟨rfl,false,2,rfl⟩,.inl rfl,.inl rfl,.inl rfl,.inr ⟨rfl,true,1,rfl⟩,.inl rfl,.inl rfl,.inl rfl,.inl rfl,.inr ⟨rfl,true,1,rfl⟩,.inl rfl,.inl rfl,trivial⟩,trivial⟩
 ·have h':(chkE a b c d==0)=false:=by simpa using h
  have h2:(chkE a b c d !=0)=true:=by simpa using h
  simp[h',h2];exact qac hB rfl (qaa _) (by simp) (hQ2 h)
section
variable {b j:Nat}{p:Prs}
theorem qno(r:Rq)(h1:r.fields.length<=16777216)(h2:r.trailers.length<=16777216)(hQ:Q r.av H):PC Tryz.prog E 37 [r.av] H Q:=by
 refine qab Tryz.func37 rfl [] [] (by kernel_rfl) (fun hB=>?_);have m1:r.fields.length<=maxLen:=by unfold maxLen;omega
 have m2:r.trailers.length<=maxLen:=by unfold maxLen;omega
 have m3:r.fields.length*32<=140737488355328:=by omega
 have m4:r.trailers.length*32<=140737488355328:=by omega
 simp[Tryz.ntmps37,Tryz.results37,List.replicate_succ,Rq.av,Rq.avs,m1,m2,m3,m4];exact qac hB (v0:=r.av) (by simp[Rq.av,Rq.avs]) (qaa _) (by simp[Rq.av,Rq.avs,qdx]) hQ
end
end
section
variable (E:Env){H:Hp}(Q:AV->Hp->Prop)
def qha(p:Prs):Int:=if p.state=4 then 1 else if p.state=5 then 2 else 0
def qqb(a b c d:Int)(s:List UInt8):AV:=if chkE a b c d=0 then
  .tup [(Rq.if (decide ((qaI (newP a b c d) s).1.state=4)) (qaI (newP a b c d) s).1.rq).av,.int .i64 (qaI (newP a b c d) s).2,fltV (qaI (newP a b c d) s).1,.int .i64 (qha (qaI (newP a b c d) s).1)]
 else .tup [Rq.zero.av,.int .i64 0,.agg [.int .i64 0,.int .i64 (chkE a b c d),.int .i64 0],.int .i64 2]
theorem qre{a b c d:Int}(h:chkE a b c d=0):(1<=a/\a<=65536)/\(2<=b/\b<=1048576)/\(0<=c/\c<=100)/\(0<=d/\d<=1073741824):=by
 unfold chkE at h;split at h
 ·assumption
 ·cases h
theorem qh1{a b c d:Int}(h:chkE a b c d=0):fitP 0 (newP a b c d):=by
 obtain⟨h1,h2,h3,h4⟩:=qre h;exact qoO h1 h2 h3 h4
theorem qqZ{a b c d:Int}(h:chkE a b c d=0)(s:List UInt8)(hs:s.length<=4194304)(h5:(qaI (newP a b c d) s).1.state≠5):fsz (qaI (newP a b c d) s).1.fields+(qaI (newP a b c d) s).1.fields.length<=4194304/\(qaI (newP a b c d) s).1.trailers.length<=4194304:=by
 have hf:=qip s (newP a b c d) 0 (qh1 h) h5;have:=hf.a;have:=hf.tr;have:=qhj (newP a b c d) s;omega
theorem qeM{P:Program}{rs:List ResultVar}{Q:AV->Hp->Prop}{fr:List AV}{H K:Hp}{v0 v:AV}(hB:BndH H.length H)(hle:H.length<=K.length)(hk:∀i,i<H.length->K[i]? =H[i]?)(h1:ares P fr K rs=some v0)(h2:nilV v0 v)(h5:Bnd H.length v)(h6:Q v H):qcc P rs H.length Q .ret fr K:=by
 obtain⟨J,rfl⟩:=qqF hle hk;exact qac hB h1 h2 h5 h6
theorem ql2(hE:PE E)(a b c d:Int)(s:List UInt8)(hs:s.length<=4194304)(hQ:Q (qqb a b c d s) H):PC Tryz.prog E 12 [limV a b c d,.str s] H Q:=by
 refine PC.nilD ?_;refine qma (fun i=>i=H.length+4) Tryz.func12 rfl [] [(9,[0,0,0,0,0,2,2])] (by kernel_rfl) (fun E' hS' h0' hF' hB=>?_);have hE':=hE.env h0' hF';unfold qqb at hQ;simp[Tryz.ntmps12,Tryz.results12,List.replicate_succ,limV];refine qqH E' _ a b c d (fun h0 hBn=>?_) (fun h0=>?_)
 ·rw[if_pos h0]at hQ;simp;obtain⟨H3,hH3⟩:∃H3:Hp,H++[[AV.int .i64 a,AV.int .i64 b,AV.int .i64 c,AV.int .i64 d],[AV.str [],AV.str [],AV.int .i64 0,AV.int .i64 0,AV.nil,AV.str [],AV.nil],[AV.int .i64 0,AV.int .i64 0,AV.int .i64 0]]=H3:=⟨_,rfl⟩
  have hl3:H3.length=H.length+3:=by rw[<-hH3];simp
  have hpb:=nwH_pb H3 a b c d;rw[hH3];rw[show H3.length+1=H.length+4 by omega]at hpb;have hfl:=qhj (newP a b c d) s;refine qoJ E' _ hpb (fun _=>qh1 h0) (fun E2 h02 hF2=>feedOk E2 (hE'.env h02 hF2)) s (by omega) (by omega) (fun j1 K1 hp1 hj1 ho1 hB1=>?_);have hfit:=qqZ h0 s hs;obtain⟨P,hP⟩:=exz ((qaI (newP a b c d) s).1);obtain⟨N,hN⟩:=exz ((qaI (newP a b c d) s).2);rw[hP]at hp1 hfit;rw[hP,hN]at hQ;rw[hN];have hlen:H.length+5<=K1.length:=by have:=ho1.1;unfold nwH at this;simp at this;omega
  have hold:∀i,i<H.length+3->K1[i]? =H3[i]? :=fun i hi=>by
   rw[ho1.2 i (by unfold nwH;simp;omega) (by omega) (fun h=>by cases h)];unfold nwH;rw[zqA (by omega)]
  have k1:K1[H.length+1]? =some [AV.str [],AV.str [],AV.int .i64 0,AV.int .i64 0,AV.nil,AV.str [],AV.nil]:=by rw[hold _ (by omega),<-hH3,zqB (by omega)];simp
  have k2:K1[H.length+2]? =some [AV.int .i64 0,AV.int .i64 0,AV.int .i64 0]:=by rw[hold _ (by omega),<-hH3,zqB (by omega)];simp
  have kH:∀i,i<H.length->K1[i]? =H[i]? :=fun i hi=>by rw[hold i (by omega),<-hH3,zqA hi]
  have hrow:=hp1.row;simp[Prs.av]at hrow;have e1:H.length+1<K1.length:=by omega
  have e2:H.length+2<K1.length:=by omega
  have u1:∀x,(K1.set (H.length+1) x)[H.length+2]? =some [AV.int .i64 0,AV.int .i64 0,AV.int .i64 0]:=fun x=>by rw[zqF (by omega)];exact k2
  have u2:∀x,(K1.set (H.length+1) x)[H.length+4]? =K1[H.length+4]? :=fun x=>zqF (by omega);have u3:∀x y,((K1.set (H.length+1) x).set (H.length+2) y)[H.length+1]? =some x:=fun x y=>by rw[zqF (by omega),zqO e1]
  have u4:∀x y,((K1.set (H.length+1) x).set (H.length+2) y)[H.length+2]? =some y:=fun x y=>zqO (by simpa using e2);have kK:∀x y i,i<H.length->((K1.set (H.length+1) x).set (H.length+2) y)[i]? =H[i]? :=fun x y i hi=>by rw[zqF (by omega),zqF (by omega)];exact kH i hi
  by_cases h4:P.state=4
  ·have hk:qha P=1:=by unfold qha;rw[if_pos h4]
   have hd:decide (P.state=4)=true:=by simpa using h4
   have hf5:P.state≠5:=by omega
   have hfv:fltV P= .agg [.int .i64 0,.int .i64 0,.int .i64 0]:=by unfold fltV;rw[if_neg hf5]
   have hrq:Rq.if true P.rq=P.rq:=rfl;rw[hk,hd,hfv,hrq]at hQ;have:=hfit hf5;simp[qai,KP,hrow,h4];refine qno E' _ P.rq (by show P.fields.length<=_;omega) (by show P.trailers.length<=_;omega) ?_;simp[Rq.av,Rq.avs,k1,k2,u1,u2,u3,u4];exact qeM hB (v0:= .tup [P.rq.av,.int .i64 N,.agg [.int .i64 0,.int .i64 0,.int .i64 0],.int .i64 1]) (v:= .tup [P.rq.av,.int .i64 N,.agg [.int .i64 0,.int .i64 0,.int .i64 0],.int .i64 1]) (by simp;omega) (kK _ _) (by simp[Rq.av,Rq.avs,u3,u4]) (qaa _) (by simp[Rq.av,Rq.avs,qdx]) ⟨_,.same _,hQ⟩
  ·have hd:decide (P.state=4)=false:=by simpa using h4
   have h4':(P.state==4)=false:=by simpa using h4
   have hrq:Rq.if false P.rq= .zero:=rfl;rw[hd,hrq]at hQ;by_cases h5:P.state=5
   ·have hk:qha P=2:=by unfold qha;rw[if_neg h4,if_pos h5]
    have hfv:fltV P= .agg [.int .i64 P.fst_,.int .i64 P.ferr,.int .i64 P.fat]:=by unfold fltV;rw[if_pos h5]
    rw[hk,hfv]at hQ;simp[qai,KP,hrow,h5,hS',k1,k2,u1,u2,u3,u4]
    exact qeM hB (v0:= .tup [.agg [.str [],.str [],.int .i64 0,.int .i64 0,.nil,.str [],.nil],.int .i64 N,.agg [.int .i64 P.fst_,.int .i64 P.ferr,.int .i64 P.fat],.int .i64 2]) (v:= .tup [.agg [.str [],.str [],.int .i64 0,.int .i64 0,.nil,.str [],.nil],.int .i64 N,.agg [.int .i64 P.fst_,.int .i64 P.ferr,.int .i64 P.fat],.int .i64 2]) (by simp;omega) (kK _ _) (by simp[u3,u4]) (qaa _) (by simp)
     ⟨.tup [Rq.zero.av,.int .i64 N,.agg [.int .i64 P.fst_,.int .i64 P.ferr,.int .i64 P.fat],.int .i64 2],qhA (m:=[Rq.zero.av,.int .i64 N,.agg [.int .i64 P.fst_,.int .i64 P.ferr,.int .i64 P.fat],.int .i64 2]) ⟨qhB (Rq.nil [] [] [] 0 0),.same _,.same _,.same _,trivial⟩,hQ⟩
   ·have hk:qha P=0:=by unfold qha;rw[if_neg h4,if_neg h5]
    have hfv:fltV P= .agg [.int .i64 0,.int .i64 0,.int .i64 0]:=by unfold fltV;rw[if_neg h5]
    have h5':(P.state==5)=false:=by simpa using h5
    rw[hk,hfv]at hQ;simp[qai,KP,hrow,h4',h5',k1,k2,u1,u2,u3,u4]
    exact qeM hB (v0:= .tup [.agg [.str [],.str [],.int .i64 0,.int .i64 0,.nil,.str [],.nil],.int .i64 N,.agg [.int .i64 0,.int .i64 0,.int .i64 0],.int .i64 0]) (v:= .tup [.agg [.str [],.str [],.int .i64 0,.int .i64 0,.nil,.str [],.nil],.int .i64 N,.agg [.int .i64 0,.int .i64 0,.int .i64 0],.int .i64 0]) (by simp;omega) (kK _ _) (by simp[u3,u4]) (qaa _) (by simp)
     ⟨.tup [Rq.zero.av,.int .i64 N,.agg [.int .i64 0,.int .i64 0,.int .i64 0],.int .i64 0],qhA (m:=[Rq.zero.av,.int .i64 N,.agg [.int .i64 0,.int .i64 0,.int .i64 0],.int .i64 0]) ⟨qhB (Rq.nil [] [] [] 0 0),.same _,.same _,.same _,trivial⟩,hQ⟩
 ·rw[if_neg h0]at hQ;have h':(chkE a b c d==0)=false:=by simpa using h0
  have h2:(chkE a b c d !=0)=true:=by simpa using h0
  simp[h',h2]
  exact qac hB (v0:= .tup [.agg [.str [],.str [],.int .i64 0,.int .i64 0,.nil,.str [],.nil],.int .i64 0,.agg [.int .i64 0,.int .i64 (chkE a b c d),.int .i64 0],.int .i64 2]) (v:= .tup [.agg [.str [],.str [],.int .i64 0,.int .i64 0,.nil,.str [],.nil],.int .i64 0,.agg [.int .i64 0,.int .i64 (chkE a b c d),.int .i64 0],.int .i64 2]) (by simp) (qaa _) (by simp)
   ⟨.tup [Rq.zero.av,.int .i64 0,.agg [.int .i64 0,.int .i64 (chkE a b c d),.int .i64 0],.int .i64 2],qhA (m:=[Rq.zero.av,.int .i64 0,.agg [.int .i64 0,.int .i64 (chkE a b c d),.int .i64 0],.int .i64 2]) ⟨qhB (Rq.nil [] [] [] 0 0),.same _,.same _,.same _,trivial⟩,hQ⟩
end
end Go.Proofs.YtnnhdehmlkkfjaaGreatDoor
namespace Go.Proofs.YtnnhdehmlkkfjaaGreatDoor
open Go Go.Shelf Go.Proofs
def lrenw:Go.Shelf.Ren:=⟨fun|15=>71|20=>103|n=>n,fun|0=>0|3=>3|4=>4|9=>9|21=>21|23=>117|n=>n,fun|n=>n⟩
theorem qmz:Go.Proofs.LaysGw.n15 Tryz.prog lrenw:={
 mixed:=by kernel_rfl
 f15:=lfz Tryz.func71
 f20:=lfz Tryz.func103
 t0:=Tryz.underlying0
 a0:=Tryz.isAgg0
 z0:=Tryz.sizeOf0
 v0:=Tryz.zeroValue0
 i0:=by kernel_rfl
 t3:=Tryz.underlying3
 a3:=Tryz.isAgg3
 z3:=Tryz.sizeOf3
 v3:=Tryz.zeroValue3
 i3:=by kernel_rfl
 t4:=Tryz.underlying4
 a4:=Tryz.isAgg4
 z4:=Tryz.sizeOf4
 v4:=Tryz.zeroValue4
 i4:=by kernel_rfl
 t9:=Tryz.underlying9
 a9:=Tryz.isAgg9
 z9:=Tryz.sizeOf9
 v9:=Tryz.zeroValue9
 i9:=by kernel_rfl
 t21:=Tryz.underlying21
 a21:=Tryz.isAgg21
 z21:=Tryz.sizeOf21
 v21:=Tryz.zeroValue21
 i21:=by kernel_rfl
 t23:=Tryz.underlying117
 a23:=Tryz.isAgg117
 z23:=Tryz.sizeOf117
 v23:=Tryz.zeroValue117
 i23:=by kernel_rfl}
end Go.Proofs.YtnnhdehmlkkfjaaGreatDoor
