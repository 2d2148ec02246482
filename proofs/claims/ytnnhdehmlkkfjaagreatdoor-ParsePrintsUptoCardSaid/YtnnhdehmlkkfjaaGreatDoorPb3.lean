/- Part 3 of the texts below the law. -/
import Derived.Test.YtnnhdehmlkkfjaaGreatDoorPb2
import Derived.Scope
import Derived.KernelRfl
set_option maxRecDepth 100000
set_option maxHeartbeats 16000000
set_option linter.unusedVariables false
set_option linter.unusedSimpArgs false
namespace Go.Proofs.YtnnhdehmlkkfjaaGreatDoor
open Go Go.RowKit
section
variable {P:Program}{E:Env}{W:World}{F:Nat->Prop}{Rd0:Nat->Nat->Prop}{w w':World}{β β':Nat->Nat}{Rd Rd':Nat->Nat->Prop}{Ow Ow':Nat->Option Hold}{fr fr':List AV}{H H':Hp}{tmps:Array Value}{N:Nat}
def qcK(P:Program)(E:Env)(W:World)(F:Nat->Prop)(Rd0:Nat->Nat->Prop)(β:Nat->Nat)(n:Nat)(a:Act)(o:Oper)(w:World)(v:AV)(fr':List AV)(H':Hp):Prop:=
 ∃(r:Next) (c:Value) (w':World) (β':Nat->Nat) (Rd':Nat->Nat->Prop) (Ow':Nat->Option Hold),(execOp a.eval o).run P w= .ok r w'/\(r= .value c\/(r= .skip/\c=undef))/\
  S3 E W F Rd0 w' β' Rd' Ow' (aput fr' o.dst v) H' (a.put o.dst c).tmps/\(∀i,i<n->β' i=β i)/\n<=H'.length
theorem qbY{x:AV}(h:x.dis.free=true):x.dis.dis.free=true:=qaR h
theorem Got.nofree{v:AV}{c:Value}(g:Got w β Rd N v c):v.dis.free=true:=qaR g.free
theorem qaK{a:Act}{o:Oper}(h:S3 E W F Rd0 w β Rd Ow fr H a.tmps){v:AV}{c:Value}(hr:(execOp a.eval o).run P w= .ok (.value c) w)(g:Got w β Rd H.length v c):qcK P E W F Rd0 β H.length a o w v fr H:=
 ⟨_,c,w,β,Rd,Ow,hr,.inl rfl,h.aput o.dst rfl g.rel g.bnd g.nofree (fun g' hg=>by rw[qaw g.free]at hg;cases hg),fun _ _=>rfl,Nat.le_refl _⟩
theorem qmf(h:S3 E W F Rd0 w β Rd Ow fr H tmps):∀k,Ow w.heap.size≠some k:=fun k hk=>by have:=h.hr.ows _ _ hk;omega
theorem S3.freshSl{a:Act}(h:S3 E W F Rd0 w β Rd Ow fr H a.tmps)(hf:Frm (fun _=>False) w w')(hlt:w.heap.size<w'.heap.size)(d:Option Tmp){k cap:Nat}{rows:List (List AV)}{xs:List Value}
  (hos:OSl w' k (.slice (some ⟨w.heap.size,0,none⟩) rows.length cap) rows.length xs) (hk:∀r∈rows,r.length=k) (hff:∀r∈rows,∀x∈r,x.free=true/\x.one=true) (hB:∀r∈rows,∀x∈r,Bnd H.length x)
  (hr:∀(j:Nat) (x:AV) (u:Value),rows.flatten[j]? =some x->xs[j]? =some u->Rel w β Rd x u):
  ∃Rd' Ow',S3 E W F Rd0 w' β Rd' Ow' (Go.Proofs.YtnnhdehmlkkfjaaGreatDoor.aput fr d (.sl true k rows)) H (a.put d (.slice (some ⟨w.heap.size,0,none⟩) rows.length cap)).tmps:=by
 obtain⟨Ow',hfr,hOw⟩:=h.freshRow hf hlt (rows.length*k) d
 have hR:∀g' o',Rd g' o'->(Rd g' o'\/(g'=w.heap.size/\o'<rows.length*k))/\w'.cell? ⟨g',o',none⟩=w.cell? ⟨g',o',none⟩:=fun g' o' hg'=>
  ⟨.inl hg',World.cell?_of_block (a:=⟨g',o',none⟩) (hf.block g' (h.hr.rds g' o' hg') (fun h=>h))⟩
 refine⟨_,Ow',hfr.aput d rfl (.sl true k rows _ xs hk hos.toR (fun g' o' n c hv j hj=>?_) (fun _=>⟨hos,fun g' o' n c hv j h1 h2 h3=>?_⟩) hff (qfC (k:=k) hB hff hr hR hf.size)) (.sl _ _ _ hB) rfl (fun g hg t ht=>?_)⟩
 ·cases hv;exact .inr ⟨rfl,by omega⟩
 ·cases hv;rcases h3 with h3|⟨_,e1⟩
  ·have:=h.hr.rds _ _ h3;omega
  ·omega
 ·have:w.heap.size=g:=by simpa[own0,Value.ownBlock]using hg
  rw[<-this];exact hOw t ht
theorem S3.growNil{a:Act}(h:S3 E W F Rd0 w β Rd Ow fr H a.tmps){k:Nat}(hk0:0<k)(d:Option Tmp)
  (t tx ty e:TypeId) (i:TypeInfo) (z:Value) (bytes:Nat) (ht:P.underlying t=some (.slice e)) (hi:P.info? e=some i) (hz:i.zero=some z) (hsize:i.size=k) (hby:i.bytes=bytes) (hzs:z.cells.size=k)
  (y:Value) (rows':List (List AV)) (news:List Value) (hs:Src P k tx y rows'.length news w) (hk':∀r∈rows',r.length=k) (hf':∀r∈rows',∀x∈r,x.free=true/\x.one=true) (hB':∀r∈rows',∀x∈r,Bnd H.length x)
  (hr':∀(j:Nat) (x:AV) (u:Value),rows'.flatten[j]? =some x->news[j]? =some u->Rel w β Rd x u)
  (h63:rows'.length<=maxLen) (hbytes:rows'.length*bytes<=140737488355328):
  ∃v' w' Rd' Ow',(Builtin.append_ #[t,tx] ty #[.slice none 0 0,y]).run P w= .ok v' w'/\S3 E W F Rd0 w' β Rd' Ow' (Go.Proofs.YtnnhdehmlkkfjaaGreatDoor.aput fr d (.sl true k rows')) H (a.put d v').tmps:=by
 obtain⟨v',w',hrun,hos,hcase⟩:=qd4 (OSl.nil w k) t tx ty e i z bytes ht hi hz hsize hby hzs y rows'.length news hs (by rw[Nat.zero_add];exact h63) (by rw[Nat.zero_add];exact hbytes);rw[Nat.zero_add,List.nil_append]at hos;have hln:news.length=rows'.length*k:=hs.newsLen;rcases hcase with⟨rfl,rfl,rfl⟩|⟨g,o,cap,he,_⟩|⟨cap,hv,hfrm,hlt⟩
 ·have hz0:rows'.length=0:=by
   have:rows'.length*k=0:=by simpa using hln.symm
   rcases Nat.mul_eq_zero.1 this with h|h<;>omega
  have:rows'=[]:=List.eq_nil_of_length_eq_zero hz0;subst this;refine⟨_,w',Rd,Ow,hrun,h.aput d rfl (.sl true k [] _ [] (by simp) (OSl.nil w' k).toR (fun g o n c hv=>by cases hv) (fun _=>⟨OSl.nil w' k,fun g o n c hv=>by cases hv⟩) (by simp) (fun j x u hx=>by simp at hx)) (.sl _ _ _ (by simp)) rfl (fun g hg=>by cases hg)⟩
 ·cases he
 ·rw[Nat.zero_add]at hv;subst hv;obtain⟨Rd',Ow',hfin⟩:=h.freshSl hfrm hlt d hos hk' hf' hB' hr';exact⟨_,w',Rd',Ow',hrun,hfin⟩
theorem qkq{pl:List (Nat×Nat)}{a:Act}(hS:S3 E W F Rd0 w β Rd Ow fr H a.tmps):∀(ps:List (Nat×Operand)) (cs:List AV) (cells:Array Value) (l:List AV),afill pl cs (ps.map fun p=>(p.1,aeval fr p.2))=some l->
  cells.size=cs.length->(∀x∈cs,x.free=true/\x.one=true)->(∀x∈cs,Bnd H.length x)->(∀(j:Nat) (x:AV) (u:Value),cs[j]? =some x->cells[j]? =some u->Rel w β Rd x u)->
  ∃cells',Instr.fill (pl.toArray[·]?) cells (ps.map fun p=>(p.1,a.eval p.2))=some cells'/\cells'.size=l.length/\(∀x∈l,x.free=true/\x.one=true)/\(∀x∈l,Bnd H.length x)/\∀(j:Nat) (x:AV) (u:Value),l[j]? =some x->cells'[j]? =some u->Rel w β Rd x u
 |[],cs,cells,l,h,h1,h2,h3,h4=>by cases h;exact⟨cells,rfl,h1,h2,h3,h4⟩
 |(i,x)::ps,cs,cells,l,h,h1,h2,h3,h4=>by
  rw[List.map_cons,afill]at h;split at h
  ·rename_i o n l' hp hc;split at h
   ·rename_i hcond;obtain⟨hl,hle,hfree⟩:=hcond;obtain⟨r1,r2,r3⟩:=hS.eval rfl x;obtain⟨e1,e2,e3⟩:=qeq hc r1.dis r2.dis (qbY r3);have hfs:=Great.foldl_set o (a.eval x).cells.toList 0 cells;have hfree':=List.all_eq_true.1 hfree;have hcl:(a.eval x).cells.toList.length=l'.length:=by simpa using e1
    have hsz:(((a.eval x).cells.toList.zipIdx 0).foldl (fun cs (x:Value×Nat)=>cs.setIfInBounds (o+x.2) x.1) cells).size=cells.size:=hfs.1
    obtain⟨cells',f1,f2⟩:=qkq hS ps (setR cs o l') (((a.eval x).cells.toList.zipIdx 0).foldl (fun cs (x:Value×Nat)=>cs.setIfInBounds (o+x.2) x.1) cells) l h
     (by rw[hsz,qfA _ _ _ (by omega),h1])
     (fun y hy=>by
      rcases qgW hy with hy|hy
      ·exact h2 y hy
      ·obtain⟨j,hj⟩:=List.getElem?_of_mem hy;have hj':j<(a.eval x).cells.toList.length:=by have:=(zqC.1 hj).1;omega
       exact⟨hfree' y hy,(e3 j y _ hj (zqD hj')).2.1⟩)
     (fun y hy=>by
      rcases qgW hy with hy|hy
      ·exact h3 y hy
      ·obtain⟨j,hj⟩:=List.getElem?_of_mem hy;have hj':j<(a.eval x).cells.toList.length:=by have:=(zqC.1 hj).1;omega
       exact(e3 j y _ hj (zqD hj')).2.2.1)
     (fun j y u hy hu=>by
      rw[qiR _ _ _ (by omega)]at hy;rw[hfs.2 j]at hu;split at hy
      ·rename_i hj;rw[if_pos (by omega)]at hu;exact(e3 (j-o) y u hy (by rw[Nat.add_zero]at hu;exact hu)).1
      ·rename_i hj;rw[if_neg (by omega)]at hu
       exact h4 j y u hy hu)
    refine⟨cells',?_,f2⟩;rw[List.map_cons,Instr.fill];have hp':pl.toArray[i]? =some (o,n):=by simpa using hp
    simp only[hp']
    rw[if_neg (by
     simp only[Bool.or_eq_true,decide_eq_true_eq,not_or];refine⟨by simp[e1,hl],?_⟩
     rw[e1];omega)]
    have hz:(a.eval x).cells.zipIdx.foldl (fun cs (x:Value×Nat)=>cs.setIfInBounds (o+x.2) x.1) cells=((a.eval x).cells.toList.zipIdx 0).foldl (fun cs (x:Value×Nat)=>cs.setIfInBounds (o+x.2) x.1) cells:=by
     rw[<-Array.foldl_toList];simp
    have:=f1;rw[<-hz]at this;exact this
   ·cases h
  ·cases h
theorem qbF{t:TypeId}{l:List AV}(h:tzc P t=some l):∃i z,P.info? t=some i/\i.zero=some z/\z.cells.toList.all (·.oneCell')=true/\l=z.cells.toList.map cval0:=by
 unfold tzc at h;split at h
 ·rename_i i hi;split at h
  ·rename_i z hz;split at h
   ·rename_i h1;cases h;exact⟨i,z,hi,hz,h1,rfl⟩
   ·cases h
  ·cases h
 ·cases h
theorem qio{f g:Nat->Option (Nat×Nat)}(h:∀i p,f i=some p->g i=some p):∀(ps:List (Nat×Value)) (cs r:Array Value),Instr.fill f cs ps=some r->Instr.fill g cs ps=some r
 |[],cs,r,hr=>hr
 |(i,v)::ps,cs,r,hr=>by
  rw[Instr.fill]at hr⊢;cases hf:f i with
  |none=>simp[hf]at hr
  |some p=>
   rw[hf]at hr;rw[h i p hf];obtain⟨o,n⟩:=p;simp only at hr⊢;split at hr
   ·cases hr
   ·rename_i hc;rw[if_neg hc];exact qio h ps _ r hr
theorem qnN{a:Act}(hS:S3 E W F Rd0 w β Rd Ow fr H a.tmps){t:TypeId}{parts:Array (Nat×Operand)}{v:AV}(h:abuild P t (parts.toList.map fun p=>(p.1,aeval fr p.2))=some v):
  ∃c,(Instr.build t (parts.map fun(i,x)=>(i,a.eval x))).run P w= .ok c w/\Got w β Rd H.length v c:=by
 unfold abuild at h;split at h
 ·rename_i z pl hz hp;cases hf:afill pl z (parts.toList.map fun p=>(p.1,aeval fr p.2))with
  |none=>simp[hf]at h
  |some l=>
   simp[hf]at h;subst h;obtain⟨i,zv,hi,hzv,hone,rfl⟩:=qbF hz;obtain⟨z1,z2,z3⟩:=qbD (w:=w) (β:=β) (Rd:=Rd) (N:=H.length) _ hone;obtain⟨cells',f1,f2,f3,f4,f5⟩:=qkq hS parts.toList _ zv.cells l hf (by simp) z1 z3 (fun j x u hx hu=>z2 j x u hx (by simpa using hu));refine⟨.agg cells',run_build w t _ cells' ?_,.agg _ _ f2 f3 f5,.agg _ f4,rfl⟩;unfold tplaces at hp;unfold Program.built;cases hu:P.underlying t with
   |none=>simp[hu]at hp
   |some d=>
    cases d<;>simp[hu]at hp
    case array m e=>
     obtain⟨ie,hie,rfl⟩:=hp;simp only[hi,hzv,hie];rw[Array.toList_map];refine qio (fun i p hp=>?_) _ _ _ f1;simp only[List.getElem?_toArray,List.getElem?_map,Option.map_eq_some_iff]at hp;obtain⟨q,hq,rfl⟩:=hp;have hlt:i<m:=by have:=(zqC.1 hq).1;simpa using this
     rw[List.getElem?_range hlt]at hq;cases hq;rfl
    case struct fields=>
    have hfun:(fun x:Nat=>pl.toArray[x]?)=fun x=>pl[x]? :=funext fun x=>by simp
    simp[hi,hzv,hp];rw[<-hfun];exact f1
 ·cases h
theorem qhv{k:Nat}{a:Act}(hS:S3 E W F Rd0 w β Rd Ow fr H a.tmps):∀(ps:List (Nat×Operand)) (rows:List (List AV)),arows k (ps.map fun p=>aeval fr p.2)=some rows->
  rows.length=ps.length/\(∀r∈rows,r.length=k)/\(∀r∈rows,∀x∈r,x.free=true/\x.one=true)/\(∀r∈rows,∀x∈r,Bnd H.length x)/\(∀v∈ps.map fun p=>a.eval p.2,v.cells.size=k)/\
   ∀(j:Nat) (x:AV) (u:Value),rows.flatten[j]? =some x->((ps.map fun p=>a.eval p.2).flatMap fun v=>v.cells.toList)[j]? =some u->Rel w β Rd x u
 |[],rows,h=>by cases h;simp
 |(i,x)::ps,rows,h=>by
  rw[List.map_cons,arows]at h;split at h
  ·rename_i l m hc hm;split at h
   ·rename_i hcond;obtain⟨hl,hfree⟩:=hcond;cases h;obtain⟨r1,r2,r3⟩:=hS.eval rfl x;obtain⟨e1,e2,e3⟩:=qeq hc r1.dis r2.dis (qbY r3);have hfree':=List.all_eq_true.1 hfree;obtain⟨i1,i2,i3,i4,i5,i6⟩:=qhv hS ps m hm;have hcl:(a.eval x).cells.toList.length=l.length:=by simpa using e1
    have hel:∀y∈l,(y.free=true/\y.one=true)/\Bnd H.length y:=fun y hy=>by
     obtain⟨j,hj⟩:=List.getElem?_of_mem hy;have hj':j<(a.eval x).cells.toList.length:=by have:=(zqC.1 hj).1;omega
     have:=e3 j y _ hj (zqD hj');exact⟨⟨hfree' y hy,this.2.1⟩,this.2.2.1⟩
    refine⟨by simp[i1],fun r hr=>?_,fun r hr y hy=>?_,fun r hr y hy=>?_,fun v hv=>?_,fun j y u hy hu=>?_⟩
    ·rcases List.mem_cons.1 hr with rfl|hr;exact hl;exact i2 r hr
    ·rcases List.mem_cons.1 hr with rfl|hr;exact(hel y hy).1;exact i3 r hr y hy
    ·rcases List.mem_cons.1 hr with rfl|hr;exact(hel y hy).2;exact i4 r hr y hy
    ·rw[List.map_cons]at hv;rcases List.mem_cons.1 hv with rfl|hv
     ·rw[e1,hl]
     ·exact i5 v hv
    ·rw[List.flatten_cons]at hy;rw[List.map_cons,List.flatMap_cons]at hu;dsimp only at hu;by_cases hj:j<l.length
     ·rw[zqA hj]at hy;rw[zqA (by omega)]at hu;exact(e3 j y u hy hu).1
     ·rw[zqB (by omega)]at hy hu;rw[hcl]at hu;exact i6 _ y u hy hu
   ·cases h
  ·cases h
theorem qfH{α β:Type}:∀(ps:List (Nat×α)) (f:α->β) (s:Nat),ps.map (·.1)=List.range' s ps.length->(ps.map fun p=>(p.1,f p.2))=(((ps.map fun p=>f p.2).zipIdx s).map fun x=>(x.2,x.1))
 |[],f,s,h=>rfl
 |(i,x)::ps,f,s,h=>by
  rw[List.map_cons,zqL,List.range'_succ]at h;have h1:=(List.cons.inj h).1;have h2:=(List.cons.inj h).2;simp only at h1;subst h1;rw[List.map_cons,List.map_cons,List.zipIdx_cons,List.map_cons,qfH ps f (i+1) h2]
theorem qjN{t e:TypeId}(hu:P.underlying t=some (.slice e)){k:Nat}(hs:tsz P e=some k)(w:World):(Instr.buildSlice t 0 #[]).run P w= .ok (.slice (some ⟨w.heap.size,0,none⟩) 0 0) (w.alloc (.cells #[] e)):=by
 have:=qcv (P:=P) hs w;have e0:∀f:Nat->Value,(Array.range 0).map f= #[]:=fun f=>by simp[Array.range]
 simp[Instr.buildSlice,run_underlying hu,this,newRow,Instr.fill,e0]
theorem qrl{a:Act}{o:Oper}(hS:S3 E W F Rd0 w β Rd Ow fr H a.tmps){t:TypeId}{n:Nat}{parts:Array (Nat×Operand)}{v:AV}(ho:o.op= .buildSlice t n parts)(h:alit P t n (parts.toList.map fun p=>(p.1,aeval fr p.2))=some v):qcK P E W F Rd0 β H.length a o w v fr H:=by
 unfold alit at h;split at h
 ·rename_i e he;have hu:=qa0 he;split at h
  ·rename_i z k hz hk;split at h
   ·rename_i hcond;obtain⟨hzk,hk0,hsm,hparts⟩:=hcond;rw[List.map_map]at hparts;cases hrw:arows k ((parts.toList.map fun p=>(p.1,aeval fr p.2)).map (·.2))with
    |none=>rw[hrw]at h;cases h
    |some rows=>
     simp only[hrw,Option.map_some,Option.some.injEq]at h;subst h;rw[List.map_map]at hrw;obtain⟨i1,i2,i3,i4,i5,i6⟩:=qhv hS parts.toList rows hrw;obtain⟨ie,zv,hie,hzv,hone,rfl⟩:=qbF hz;obtain⟨ie',hie',hsz⟩:=qbV hk;rw[hie]at hie';cases hie'
     have hlen:parts.toList.length=n:=by
      have:=congrArg List.length hparts;simpa using this
     have hzc:zv.cells.size=k:=by simpa using hzk
     have hrun:(Instr.buildSlice t n (parts.map fun(i,x)=>(i,a.eval x))).run P w= .ok (.slice (some ⟨w.heap.size,0,none⟩) n n) (w.alloc (.cells ((parts.toList.map fun p=>a.eval p.2).flatMap fun v=>v.cells.toList).toArray e)):=by
      rcases Nat.eq_zero_or_pos n with hn|hn
      ·subst hn
       have:parts= #[]:=by
        have:=List.eq_nil_of_length_eq_zero hlen;simpa using this
       subst this;have e1:((#[]:Array (Nat×Operand)).map fun(x:Nat×Operand)=>(x.1,a.eval x.2))= #[]:=by simp
       refine(congrArg (fun y=>(Instr.buildSlice t 0 y).run P w) e1).trans ?_;exact qjN hu hk w
      ·refine run_buildSlice w t e n _ _ ie zv hu hie hzv (by rw[hsz];omega) (by rw[hsz];exact Nat.ne_of_gt (Nat.mul_pos hn hk0)) ?_;rw[hsz];have hpz:=qfH parts.toList a.eval 0 (by rw[hlen,<-List.range_eq_range'];exact hparts)
       have hpl:(parts.map fun(i,x)=>(i,a.eval x)).toList=(((parts.toList.map fun p=>a.eval p.2).zipIdx 0).map fun x=>(x.2,x.1)):=by
        rw[<-hpz];simp
       rw[hpl];exact Great.fill_whole hk0 _ _ i5 (by simp[hlen])
     have hlr:rows.length=n:=by rw[i1,hlen]
     have hfl:((parts.toList.map fun p=>a.eval p.2).flatMap fun v=>v.cells.toList).length=n*k:=by
      have:∀l:List Value,(∀v∈l,v.cells.size=k)->(l.flatMap fun v=>v.cells.toList).length=l.length*k:=by
       intro l
       induction l with
       |nil=>simp
       |cons v l ih=>
        intro hh;rw[List.flatMap_cons,zqK,ih (fun v hv=>hh v (by simp[hv])),zqL,Nat.add_mul];have:=hh v (by simp);simp;omega
      rw[this _ i5];simp[hlen]
     have hos:OSl (w.alloc (.cells ((parts.toList.map fun p=>a.eval p.2).flatMap fun v=>v.cells.toList).toArray e)) k (.slice (some ⟨w.heap.size,0,none⟩) rows.length n) rows.length ((parts.toList.map fun p=>a.eval p.2).flatMap fun v=>v.cells.toList):=by
      rw[hlr];refine OSl.new w _ e k n n _ hfl (Nat.le_refl _) ?_ (by simp[hfl]) (fun j hj=>by simp);have:n<=n*k:=Nat.le_mul_of_pos_right _ hk0;unfold maxLen;omega
     obtain⟨Rd',Ow',hfin⟩:=hS.freshSl (Frm.alloc _ w _) (by simp) o.dst hos i2 i3 i4 i6;refine⟨_,_,_,β,Rd',Ow',by simp only[execOp,ho,Sem.run_bind];rw[hrun];rfl,.inl rfl,?_,fun _ _=>rfl,Nat.le_refl _⟩;rw[hlr]at hfin;exact hfin
   ·cases h
  ·cases h
 ·cases h
end
section
variable {P:Program}{E:Env}{W:World}{F:Nat->Prop}{Rd0:Nat->Nat->Prop}{w w':World}{β β':Nat->Nat}{Rd Rd':Nat->Nat->Prop}{Ow Ow':Nat->Option Hold}{fr fr':List AV}{H H':Hp}{tmps:Array Value}{N:Nat}
theorem qb4{i p:Nat}{v:Value}(h:Rel w β Rd (.ptr (some (i,p))) v):v= .pointer (some ⟨β i,p,none⟩):=by cases h;rfl
theorem qgX{v:Value}(h:Rel w β Rd .nil v):v= .slice none 0 0:=by cases h;rfl
theorem qiT{l:List AV}{v:Value}(h:Rel w β Rd (.elt l) v):∃(g o:Nat) (us:List Value),v= .pointer (some ⟨g,o,none⟩)/\us.length=l.length/\(∀j,j<us.length->Rd g (o+j)/\w.cell? ⟨g,o+j,none⟩=us[j]?)/\(∀x∈l,x.free=true/\x.one=true)/\
  ∀(j:Nat) (x:AV) (u:Value),l[j]? =some x->us[j]? =some u->Rel w β Rd x u:=by
 cases h with
 |elt _ g o us hl hc hf hr=>exact⟨g,o,us,rfl,hl,hc,hf,hr⟩
theorem qcA{l:List AV}(h:∀x∈l,x.free=true)(t:TypeId):AV.bl t∉l:=fun ht=>by have:=h _ ht;simp[AV.free]at this
theorem nobl0{l:List AV}(h:∀t,AV.bl t∉l){T:TypeId}{cs:Array Value}:∀t,l[0]? =some (.bl t)->∃v,T=t/\cs= #[.pointer none,v]:=fun t ht=>absurd (zqH ht) (h t)
theorem qgz{x:AV}{l:List AV}{c:Value}(h:acells x=some l)(hx:Rel w β Rd x c)(hd:x.dis.free=true)(t:TypeId):AV.bl t∉l:=by
 cases x with
 |agg l'=>
  cases h;cases hx with
  |agg _ vs hl hf hr=>exact qcA (fun x hx=>(hf x hx).1) t
 |tup l'=>cases h
 |raw v=>
  simp only[acells]at h;split at h
  ·cases h;intro ht;simp at ht
  ·cases h
 |bl t'=>simp[AV.dis,AV.free]at hd
 |_=>cases h;intro ht;simp at ht
theorem qh2{a:Act}{o:Oper}(h:S3 E W F Rd0 w β Rd Ow fr H a.tmps)(l:List AV)(cs:Array Value)(T:TypeId)(hl:cs.size=l.length)
  (hc:∀(j:Nat) x u,l[j]? =some x->cs[j]? =some u->Rel w β Rd x u/\x.one=true/\Bnd H.length x/\∀g,own0 x u=some g->Ow g=some (.cell H.length j))
  (hr:(execOp a.eval o).run P w= .ok (.value (.pointer (some ⟨w.heap.size,0,none⟩))) (w.alloc (.cells cs T))) (hnb:∀t,AV.bl t∉l):qcK P E W F Rd0 β H.length a o w (.ptr (some (H.length,0))) fr (H++[l]):=by
 have h1:=h.newBox l cs T hl hc (qmf h) (nobl0 hnb);refine⟨_,_,_,_,_,_,hr,.inl rfl,h1.aput o.dst rfl ?_ (.ptr _ _ (by simp)) rfl (fun g hg=>by cases hg),fun i hi=>qc0 hi,by simp⟩;have:=Rel.ptr (w:=w.alloc (.cells cs T)) (β:=bup β H.length w.heap.size) (Rd:=Rd) H.length 0;rw[qbP]at this;exact this
theorem qpx{B:List Tmp}{a:Act}{o:Oper}(hS:S3 E W F Rd0 w β Rd Ow fr H a.tmps){t:TypeId}{x:Operand}(ho:o.op= .load t x){v:AV}(h:aload P B o.dst t fr H (aeval fr x)=some (v,fr',H')):qcK P E W F Rd0 β H.length a o w v fr' H':=by
 obtain⟨hx1,hx2,hx3⟩:=hS.eval rfl x;have hexec:execOp a.eval o=(do pure (.value (<-Instr.loadAt t (a.eval x)))):=by simp only[execOp,ho]
 have single:∀(b p:Nat) (c:Value),trow P t=some false->w.cell? ⟨b,p,none⟩=some c->a.eval x= .pointer (some ⟨b,p,none⟩)->(execOp a.eval o).run P w= .ok (.value c) w:=fun b p c ht hc he=>by
  rw[hexec,he];simp[Instr.loadAt,Instr.sureAddr,loadVar,qdb ht,hc]
 have multi:∀(b p:Nat) (cs:List Value),trow P t=some true->tsz P t=some cs.length->w.rangeAt b p cs->a.eval x= .pointer (some ⟨b,p,none⟩)->(execOp a.eval o).run P w= .ok (.value (.agg cs.toArray)) w:=fun b p cs ht hs hc he=>by
  rw[hexec,he];obtain⟨d,hd1,hd2⟩:=qdW ht;simp[run_loadAt_mid w b p t cs d hc hd1 hd2 hs]
 unfold aload at h;split at h
 ·rename_i i p heq;rw[heq]at hx1 hx2;have he:a.eval x= .pointer (some ⟨β i,p,none⟩):=qb4 hx1;split at h
  ·rename_i l hl hrow;obtain⟨T,cs,h1,h2,h3⟩:=hS.hr.box i l hl;split at h
   ·rename_i n hn;split at h
    ·rename_i hcond;obtain⟨hle,hfr⟩:=hcond;cases h;have hlen:((cs.toList.drop p).take n).length=n:=by rw[zqJ,zqI];simp;omega
     refine qaK hS (multi (β i) p ((cs.toList.drop p).take n) hrow (by rw[hlen];exact hn) (fun j u hu=>?_) he) ⟨.agg _ _ (by simp;omega) (fun y hy=>?_) (fun j y u hy hu=>?_),.agg _ (fun y hy=>?_),rfl⟩
     ·have hj:j<n:=by have:=(zqC.1 hu).1;omega
      rw[zqG hj,zqN]at hu;rw[qaX h1];simpa using hu
     ·obtain⟨z,hz,rfl⟩:=List.mem_map.1 hy;refine⟨List.all_eq_true.1 hfr z hz,?_⟩;obtain⟨j,hj⟩:=List.getElem?_of_mem (List.mem_of_mem_drop (List.mem_of_mem_take hz));have hj':j<cs.size:=by have:=(zqC.1 hj).1;omega
      have:=(h3 j z _ hj (zqM hj')).2.1;cases z<;>simp_all [AV.dis,AV.one]
     ·rw[List.getElem?_map]at hy;cases hz:((l.drop p).take n)[j]? with
      |none=>rw[hz]at hy;cases hy
      |some z=>
       rw[hz]at hy;simp at hy;subst hy;have hj:j<n:=by have:=(zqC.1 hz).1;rw[zqJ]at this;omega
       rw[zqG hj,zqN]at hz
       have hu':cs[p+j]? =some u:=by
        simp only[List.getElem?_toArray]at hu;rw[zqG hj,zqN]at hu;simpa using hu
       exact(h3 _ z u hz hu').1.dis
     ·obtain⟨z,hz,rfl⟩:=List.mem_map.1 hy;exact(hS.hr.bnd l (qak hl) z (List.mem_of_mem_drop (List.mem_of_mem_take hz))).dis
    ·cases h
   ·cases h
  ·rename_i l hl hrow;obtain⟨T,cs,h1,h2,h3⟩:=hS.hr.box i l hl;split at h
   ·rename_i y hy;have hp:p<cs.size:=by have:=(zqC.1 hy).1;omega
    have hc:cs[p]? =some cs[p]:=zqM hp;obtain⟨r1,r2,r3⟩:=h3 p y _ hy hc;have hrun:=single (β i) p cs[p] hrow ((qaX h1 p).trans hc) he;split at h
    ·rename_i hd;split at h
     ·cases h;obtain⟨Ow',hT,hO⟩:=hS.takeCell hl hy h1 hc hd (o.dst.map .slot);refine⟨_,_,w,β,Rd,Ow',hrun,.inl rfl,hT.aput o.dst rfl r1 (by simpa using hS.hr.bnd l (qak hl) _ (qak hy)) hd (fun g hg t ht=>by rw[hO g hg,ht];rfl),fun _ _=>rfl,by simp⟩
     ·cases h;exact qaK hS hrun ⟨r1.dis,(hS.hr.bnd l (qak hl) _ (qak hy)).dis,hd⟩
    ·cases h
   ·cases h
  ·cases h
 ·rename_i l heq;rw[heq]at hx1 hx2;obtain⟨g,q,us,hxe,hl,hc,hf,hr⟩:=qiT hx1;cases hx2 with
  |elt _ hB=>
   split at h
   ·rename_i hrow;split at h
    ·rename_i hs;cases h;refine qaK hS (multi g q us hrow (by rw[hl];exact hs) (fun j u hu=>?_) hxe) ⟨.agg _ _ (by simpa using hl) hf (fun j y u hy hu=>hr j y u hy (by simpa using hu)),.agg _ hB,rfl⟩;rw[(hc j (zqC.1 hu).1).2];exact hu
    ·cases h
   ·rename_i hrow;split at h
    ·rename_i y;cases h;have h0:=(hc 0 (by rw[hl];simp)).2;have hu:us[0]? =some (us[0]'(by rw[hl];simp)):=zqD _;rw[hu,Nat.add_zero]at h0;exact qaK hS (single g q _ hrow h0 hxe) ⟨hr 0 v _ rfl hu,hB v (by simp),(hf v (by simp)).1⟩
    ·cases h
   ·cases h
 ·cases h
theorem qfB{b p:Nat}{t:TypeId}{c:Value}(ht:w.there b p c.cells.size)(hi:tsz P t=some c.cells.size)(h1:∀u∈c.cells.toList,u.oneCell'=true):
  (Instr.storeAt t (.pointer (some ⟨b,p,none⟩)) c).run P w= .ok () (w.setCells b p c.cells.toList):=by
 have:=run_storeCells_cells (P:=P) b p c.cells.toList 0 w (fun j hj=>by simpa using(ht j (by simpa using hj)).1) (fun j hj=>by simpa using(ht j (by simpa using hj)).2) h1;simp only[Nat.add_zero]at this;have hs:=qcv (P:=P) hi;simp[Instr.storeAt,Instr.sureAddr,storeVar,hs,this]
theorem qnH{a:Act}{o:Oper}(hS:S3 E W F Rd0 w β Rd Ow fr H a.tmps){t:TypeId}{x y:Operand}(ho:o.op= .store t x y){v:AV}(h:astore P t y fr H (aeval fr x)=some (v,fr',H')):qcK P E W F Rd0 β H.length a o w v fr' H':=by
 obtain⟨hx1,hx2,hx3⟩:=hS.eval rfl x;obtain⟨hy1,hy2,hy3⟩:=hS.eval rfl y;unfold astore at h;split at h
 ·rename_i i p heq;rw[heq]at hx1 hx2;have he:a.eval x= .pointer (some ⟨β i,p,none⟩):=qb4 hx1;split at h
  ·rename_i l cs hl hcs;split at h
   ·rename_i hcond;obtain⟨hsz,hle⟩:=hcond;cases h;obtain⟨Ow',hT,hO⟩:=hS.take rfl y (some (.cell i p));obtain⟨e1,e2,e3⟩:=qeq hcs hy1 hy2 hy3;obtain⟨T,bs,h1,h2,h3⟩:=hS.hr.box i l hl
    have hst:=hT.store i l hl p cs (a.eval y).cells.toList (by simpa using e1) hle (fun j z u hz hu=>by
     obtain⟨q1,q2,q3,q4⟩:=e3 j z u hz hu;refine⟨q1,q2,q3,fun g hg=>?_⟩;obtain⟨q5,rfl⟩:=q4 g hg
     exact hO g q5) (qgz hcs hy1 hy3)
    refine⟨.skip,undef,_,β,Rd,Ow',?_,.inr ⟨rfl,rfl⟩,hst.aput o.dst rfl (.raw _) (.raw _) rfl (fun g hg=>by cases hg),fun _ _=>rfl,by simp⟩;simp only[execOp,ho,he,Sem.run_bind];rw[qfB (fun j hj=>⟨by rw[qaX h1,zqM (by omega)];rfl,qfe h1 _⟩) (by rw[e1];exact hsz) e2];rfl
   ·cases h
  ·cases h
 ·cases h
theorem qjt{t:TypeId}{k:Nat}{x:AV}{c:Value}{rows:List (List AV)}(h:asrc P t k x=some rows)(hx:Rel w β Rd x c)(hB:Bnd N x):∃news,Src P k t c rows.length news w/\(∀r∈rows,r.length=k)/\(∀r∈rows,∀x∈r,x.free=true/\x.one=true)/\
  (∀r∈rows,∀x∈r,Bnd N x)/\∀(j:Nat) (x:AV) (u:Value),rows.flatten[j]? =some x->news[j]? =some u->Rel w β Rd x u:=by
 unfold asrc at h;split at h
 ·split at h
  ·rename_i hc;obtain⟨rfl,ht⟩:=hc;cases h;obtain⟨e,he⟩:=Option.isSome_iff_exists.1 ht;obtain⟨xs,h1,h2,h3,h4,h5⟩:=qeS hx;refine⟨xs,qfw h2 (Rel.slOne (own:=true) h1 h2.1 h4 h5) (qa0 he),h1,h4,?_,h5⟩;cases hB with
   |sl _ _ _ hB=>exact hB
  ·cases h
 ·split at h
  ·rename_i ht;cases h;obtain⟨e,he⟩:=Option.isSome_iff_exists.1 ht;have hc:c= .slice none 0 0:=by cases hx;rfl
   subst hc;exact⟨[],qfw (OSl.nil w k).toR (by simp) (qa0 he),by simp,by simp,by simp,by simp⟩
  ·cases h
 ·rename_i l;split at h
  ·rename_i hc;obtain⟨rfl,ht⟩:=hc;cases h;obtain⟨s,rfl,rfl,hs⟩:=qaq hx;refine⟨u8s s.data.toList,?_,fun r hr=>?_,fun r hr x hx=>?_,fun r hr x hx=>?_,fun j x u hx hu=>?_⟩
   ·have:=Src.ofString (P:=P) w (qbs ht) s;rw[qc2,qad];have e:u8s s.data.toList=byteCells s:=by simp[u8s,byteCells]
    rw[e];exact this
   ·obtain⟨b,_,rfl⟩:=List.mem_map.1 hr;rfl
   ·obtain⟨b,_,rfl⟩:=List.mem_map.1 hr;simp at hx;subst hx;exact⟨rfl,rfl⟩
   ·obtain⟨b,_,rfl⟩:=List.mem_map.1 hr;simp at hx;subst hx;exact .int _ _
   ·rw[qff]at hx;rw[qdU]at hu;cases hb:s.data.toList[j]? with
    |none=>rw[hb]at hx;cases hx
    |some b=>rw[hb]at hx hu;cases hx;cases hu;exact .int _ _
  ·cases h
 ·cases h
theorem flat1{α:Type}(l:List α):(l.map fun x=>[x]).flatten=l:=by
 induction l with
 |nil=>rfl
 |cons a l ih=>simp[ih]
theorem qhQ{i q n c k:Nat}{v:Value}(h:Rel w β Rd (.bx i q n c k) v):v= .slice (some ⟨β i,q,none⟩) n c/\n<=c/\c<=maxLen:=by
 cases h;exact⟨rfl,by assumption,by assumption⟩
theorem qfh{fr:List AV}{tm:Array Value}(hS:S3 E W F Rd0 w β Rd Ow fr H tm){t:TypeId}{k:Nat}{x:AV}{c:Value}{rows:List (List AV)}(h:qgm P t k H x=some rows)(hx:Rel w β Rd x c):∃news,(Src P k t c rows.length news w/\RSl w k c rows.length news)/\(∀r∈rows,r.length=k)/\(∀r∈rows,∀x∈r,x.free=true/\x.one=true)/\
  (∀r∈rows,∀x∈r,Bnd H.length x)/\∀(j:Nat) (x:AV) (u:Value),rows.flatten[j]? =some x->news[j]? =some u->Rel w β Rd x u:=by
 unfold qgm at h;split at h
 ·rename_i i q n cp k';obtain⟨rfl,hnc,hcm⟩:=qhQ hx;split at h
  ·rename_i l hl;split at h
   ·rename_i hc;obtain⟨⟨rfl,rfl,ht⟩,hle,hfree⟩:=hc;cases h;have hfree':=List.all_eq_true.1 hfree;obtain⟨e,he⟩:=Option.isSome_iff_exists.1 ht;obtain⟨T,bs,c1,c2,c3⟩:=hS.hr.box i l hl;have hln:((l.drop q).take n).length=n:=by rw[zqJ,zqI];omega
    have hmem:∀r∈((l.drop q).take n).map (fun x=>[x]),∃x,r=[x]/\x∈(l.drop q).take n:=fun r hr=>by
     obtain⟨x,h1,rfl⟩:=List.mem_map.1 hr;exact⟨x,rfl,h1⟩
    have hat:∀x∈(l.drop q).take n,∃u,Rel w β Rd x u/\x.one=true:=fun x hx=>by
     have h1:=List.mem_of_mem_drop (List.mem_of_mem_take hx);obtain⟨j,hj⟩:=List.getElem?_of_mem h1;have hj2:j<bs.size:=by have:=(zqC.1 hj).1;omega
     exact⟨_,(c3 j x _ hj (zqM hj2)).1,(c3 j x _ hj (zqM hj2)).2.1⟩
    have hcell:∀(j:Nat) (x:AV) (u:Value),((l.drop q).take n)[j]? =some x->((bs.toList.drop q).take n)[j]? =some u->Rel w β Rd x u:=fun j x u hx hu=>by
     have hj:j<n:=by have:=(zqC.1 hx).1;omega
     rw[zqG hj,zqN]at hx hu;exact(c3 (q+j) x u hx (by rw[<-Array.getElem?_toList];exact hu)).1
    have hnl:((bs.toList.drop q).take n).length=n:=by rw[zqJ,zqI,Array.length_toList,c2];omega
    have hR:RSl w 1 (.slice (some ⟨β i,q,none⟩) n cp) n ((bs.toList.drop q).take n):=by
     refine⟨by rw[hnl,Nat.mul_one],_,cp,rfl,hnc,hcm,fun _=>⟨β i,q,rfl,fun j hj=>?_⟩⟩;rw[qaX c1,zqG (by omega),zqN,Array.getElem?_toList]
    have hk1:∀r∈((l.drop q).take n).map (fun x=>[x]),r.length=1:=fun r hr=>by obtain⟨x,rfl,_⟩:=hmem r hr;rfl
    have hf1:∀r∈((l.drop q).take n).map (fun x=>[x]),∀x∈r,x.free=true/\x.one=true:=fun r hr x hx=>by
     obtain⟨y,rfl,hy⟩:=hmem r hr;simp at hx;subst hx;exact⟨hfree' x hy,(hat x hy).choose_spec.2⟩
    have hr1:∀(j:Nat) (x:AV) (u:Value),(((l.drop q).take n).map (fun x=>[x])).flatten[j]? =some x->((bs.toList.drop q).take n)[j]? =some u->Rel w β Rd x u:=fun j x u hx hu=>by
     rw[flat1]at hx;exact hcell j x u hx hu
    have hlr:(((l.drop q).take n).map (fun x=>[x])).length=n:=by rw[List.length_map,hln]
    refine⟨(bs.toList.drop q).take n,⟨?_,hlr.symm▸hR⟩,hk1,hf1,fun r hr x hx=>?_,hr1⟩
    ·rw[hlr];exact qfw hR (Rel.slOne (own:=true) hk1 (by rw[hlr,hnl,Nat.mul_one]) hf1 hr1) (qa0 he)
    ·obtain⟨y,rfl,hy⟩:=hmem r hr;simp at hx;subst hx;exact hS.hr.bnd l (qak hl) x (List.mem_of_mem_drop (List.mem_of_mem_take hy))
   ·cases h
  ·cases h
 ·cases h
theorem qlm{a:Act}{o:Oper}(hS:S3 E W F Rd0 w β Rd Ow fr H a.tmps){t t':TypeId}{x y:Operand}(ho:o.op= .call {callee:= .builtin .append,args:= #[x,y],argTypes:= #[t,t']}){v:AV}(h:aappend P t t' x y fr H=some (v,fr',H')):qcK P E W F Rd0 β H.length a o w v fr' H':=by
 obtain⟨hx1,hx2,hx3⟩:=hS.eval rfl x;obtain⟨hy1,hy2,hy3⟩:=hS.eval rfl y;unfold aappend at h;split at h
 ·rename_i e he;have ht:=qa0 he;split at h
  ·rename_i k b z hk hb hz;split at h
   ·rename_i rows rows' hbase hsrc;split at h
    ·rename_i hcond;obtain⟨⟨hzk,hk0⟩,h63,hby⟩:=hcond;cases h;obtain⟨i,zv,hi,hzv,hone,hzl⟩:=qbF hz;obtain⟨i2,hi2,hsz⟩:=qbV hk;rw[hi]at hi2;cases hi2;have hbb:i.bytes=b:=by simpa[tby,hi]using hb
     have hzc:zv.cells.size=k:=by rw[<-hzk,hzl];simp
     obtain⟨news,s1,s2,s3,s4,s5⟩:∃news,Src P k t' (a.eval y) rows'.length news w/\(∀r∈rows',r.length=k)/\(∀r∈rows',∀x∈r,x.free=true/\x.one=true)/\(∀r∈rows',∀x∈r,Bnd H.length x)/\∀(j:Nat) (x:AV) (u:Value),rows'.flatten[j]? =some x->news[j]? =some u->Rel w β Rd x u:=by
      rcases Option.or_eq_some_iff.1 hsrc with h1|⟨_,h1⟩
      ·exact qjt h1 hy1 hy2
      ·obtain⟨news,⟨s1,_⟩,s2⟩:=qfh hS h1 hy1;exact⟨news,s1,s2⟩
     have hexec:∀{v':Value} {w':World},(Builtin.append_ #[t,t'] o.type #[a.eval x,a.eval y]).run P w= .ok v' w'->(execOp a.eval o).run P w= .ok (.value v') w':=fun h=>by
      simp[execOp,ho,resolve,invoke,builtin,h]
     unfold abase at hbase;split at hbase
     ·rename_i k' rows0 heq;split at hbase
      ·rename_i hkk;subst hkk;cases hbase;cases x with
       |tmp s=>
        have hlt:s<fr.length:=by
         by_cases hlt:s<fr.length
         ·exact hlt
         ·have:aeval fr (.tmp s)= .raw undef:=by simp[aeval,List.getD,List.getElem?_eq_none (Nat.le_of_not_lt hlt)]
          rw[this]at heq;cases heq
        have hfs:fr[s]? =some (.sl true k' rows):=by
         have:aeval fr (.tmp s)=fr[s]:=by simp[aeval,List.getD,zqD hlt]
         rw[zqD hlt,<-this,heq]
        have hlt2:s<a.tmps.size:=hS.ff.len▸hlt
        have hts:a.tmps[s]? =some (a.eval (.tmp s)):=by
         rw[zqM hlt2];simp[Act.eval,Array.getD,hlt2]
        obtain⟨v',w',Rd',Ow',hrun,g1,g2,g3,g4⟩:=hS.grow s hfs hts o.dst t t' o.type e i zv b ht hi hzv hsz hbb hzc (a.eval y) rows' news s1 s2 s3 s4 s5 h63 hby
        have hfd:fdis fr (.tmp s)=fr.set s (.sl false k' rows):=by
         show fr.set s (fr.getD s (.raw undef)).dis=_;rw[show fr.getD s (.raw undef)= .sl true k' rows by simp[List.getD,hfs]];rfl
        rw[hfd];exact⟨_,_,w',β,Rd',Ow',hexec hrun,.inl rfl,g1.aput o.dst rfl g2 g3 rfl g4,fun _ _=>rfl,Nat.le_refl _⟩
       |const c=>
        have:=(qhq (w:=w) (β:=β) (Rd:=Rd) (N:=0) c).free;have hc:cval c= .sl true k' rows:=heq;rw[hc]at this;cases this
       |global g=>cases heq
       |func f=>cases heq
      ·cases hbase
     ·rename_i heq;cases hbase;rw[heq]at hx1;have hxe:a.eval x= .slice none 0 0:=qgX hx1
      have hfd:S3 E W F Rd0 w β Rd Ow (fdis fr x) H a.tmps:=by
       have:fdis fr x=fr:=by
        cases x with
        |tmp s=>
         show fr.set s (fr.getD s (.raw undef)).dis=fr;have:fr.getD s (.raw undef)= .nil:=heq;rw[this];by_cases hlt:s<fr.length
         ·have hg:fr[s]= .nil:=by simpa[List.getD,zqD hlt]using this
          show fr.set s .nil=fr;rw[<-hg];exact List.set_getElem_self hlt
         ·exact List.set_eq_of_length_le (Nat.le_of_not_lt hlt)
        |_=>rfl
       rw[this];exact hS
      obtain⟨v',w',Rd',Ow',hrun,hfin⟩:=hfd.growNil hk0 o.dst t t' o.type e i zv b ht hi hzv hsz hbb hzc (a.eval y) rows' news s1 s2 s3 s4 s5 (by simpa using h63) (by simpa using hby);rw[<-hxe]at hrun;exact⟨_,_,w',β,Rd',Ow',hexec hrun,.inl rfl,by simpa using hfin,fun _ _=>rfl,Nat.le_refl _⟩
     ·cases hbase
    ·cases h
   ·cases h
  ·cases h
 ·cases h
end
section
variable {P:Program}{E:Env}{W:World}{F:Nat->Prop}{Rd0:Nat->Nat->Prop}{w w':World}{β β':Nat->Nat}{Rd Rd':Nat->Nat->Prop}{Ow Ow':Nat->Option Hold}{fr fr':List AV}{H H':Hp}{tmps:Array Value}{N:Nat}
theorem rel_fn{f:FuncId}{l:List AV}{v:Value}(h:Rel w β Rd (.fn f l) v):(∃vs,v= .func (.func f) #[] vs/\vs.size=l.length/\(∀x∈l,x.free=true)/\(∀x,l≠[.tup [x]])/\∀(j:Nat) x u,l[j]? =some x->vs[j]? =some u->Rel w β Rd x u)\/∃x u,l=[.tup [x]]/\v= .func (.func f) #[u] #[]/\x.free=true/\Rel w β Rd x u:=by
 cases h with
 |fn _ _ vs hl hf hr hn=>exact .inl ⟨vs,rfl,hl,hf,hn,hr⟩
 |bm _ x u hf hr=>exact .inr ⟨x,u,rfl,rfl,hf,hr⟩
theorem qqB{f:FuncId}{l:List AV}{v:Value}(h:Rel w β Rd (.fn f l) v):∃a b,v= .func (.func f) a b:=by
 cases h<;>exact⟨_,_,rfl⟩
theorem qrj{a:Act}(hS:S3 E W F Rd0 w β Rd Ow fr H a.tmps){fn:Fn}{first caps:Array Operand}{v:AV}(h:amkf fn (first.toList.map fun x=>(aeval fr x).dis) (caps.toList.map fun x=>(aeval fr x).dis)=some v):∃c,(Instr.makeFunc fn (first.map a.eval) (caps.map a.eval)).run P w= .ok c w/\Got w β Rd H.length v c:=by
 refine⟨_,rfl,?_⟩;unfold amkf at h;split at h
 ·cases h
 ·rename_i f hf hnt;cases h
  have hf0:first= #[]:=by
   have:=congrArg List.length hf;simp at this;exact this
  subst hf0;have e0:(#[]:Array Operand).map a.eval= #[]:=by simp
  rw[e0];refine⟨.fn f _ (caps.map a.eval) (by simp) (fun x hx=>?_) (fun j x u hx hu=>?_) (fun x hx=>hnt x hx),.fn f _ (fun x hx=>?_),rfl⟩
  ·obtain⟨y,_,rfl⟩:=List.mem_map.1 hx;exact(hS.eval rfl y).2.2
  ·rw[List.getElem?_map,Array.getElem?_toList]at hx;rw[Array.getElem?_map]at hu;cases hy:caps[j]? with
   |none=>rw[hy]at hx;cases hx
   |some y=>
    rw[hy]at hx hu;cases hx;cases hu;exact(hS.eval rfl y).1.dis
  ·obtain⟨y,_,rfl⟩:=List.mem_map.1 hx;exact(hS.eval rfl y).2.1.dis
 ·rename_i f x hf hc;cases h
  have hc0:caps= #[]:=by
   have:=congrArg List.length hc;simp at this;exact this
  subst hc0
  obtain⟨y,hy⟩:∃y,first= #[y]:=by
   have:=congrArg List.length hf;simp at this
   match first,this with
   |⟨[y]⟩,_=>exact⟨y,rfl⟩
  subst hy;simp at hf;subst hf;obtain⟨r1,r2,r3⟩:=hS.eval rfl y;refine⟨?_,.fn f _ (fun x hx=>by simp at hx;subst hx;exact .tup _ (fun z hz=>by simp at hz;subst hz;exact r2.dis)),rfl⟩;show Rel w β Rd _ (.func (.func f) (#[y].map a.eval) (#[].map a.eval));simp only[List.map_toArray,List.map_cons,List.map_nil];exact .bm f _ _ r3 r1.dis
 ·cases h
theorem qfg(hS:S3 E W F Rd0 w β Rd Ow fr H tmps){a:Act}(ha:a.tmps=tmps)(x:Option Operand):BRel w β Rd (x.map (aeval fr)) (x.map a.eval):=by
 cases x with
 |none=>trivial
 |some x=>exact(hS.eval ha x).1
theorem qpw{a:Act}{o:Oper}(hS:S3 E W F Rd0 w β Rd Ow fr H a.tmps){t:TypeId}{l c:Operand}(ho:o.op= .makeSlice t l c){v:AV}(h:amake P t (aeval fr l) (aeval fr c)=some v):qcK P E W F Rd0 β H.length a o w v fr H:=by
 obtain⟨hl1,_,_⟩:=hS.eval rfl l;obtain⟨hc1,_,_⟩:=hS.eval rfl c;unfold amake at h;split at h
 ·rename_i e kl li kc ci he hle hce;rw[hle]at hl1;rw[hce]at hc1;have e1:=qas hl1;have e2:=qas hc1;split at h
  ·rename_i z k b hz hk hb;split at h
   ·rename_i hcond;obtain⟨hzk,hk0,h0,hlc,hby,h63⟩:=hcond;cases h;obtain⟨i,zv,hi,hzv,hone,rfl⟩:=qbF hz;obtain⟨i2,hi2,hsz⟩:=qbV hk;rw[hi]at hi2;cases hi2;have hbb:i.bytes=b:=by simpa[tby,hi]using hb
    have hzc:zv.cells.size=k:=by simpa using hzk
    obtain⟨z1,z2,z3⟩:=qbD (w:=w) (β:=β) (Rd:=Rd) (N:=H.length) _ hone;have hrun:=run_make (P:=P) w t e i zv (qa0 he) hi hzv kl kc li ci h0 hlc (by rw[hbb];omega) h63;rw[hsz]at hrun
    have hmod:∀n j,j<n*k->(madeCells zv.cells (n*k))[j]? =zv.cells[j%k]? :=fun n j hj=>by
     have hj2:j%k<zv.cells.size:=by rw[hzc];exact Nat.mod_lt _ hk0
     simp only[madeCells];rw[Array.getElem?_map,zqM (by simpa using hj)];simp[hzc,zqM hj2,hj2];exact getElem!_pos zv.cells (j%k) hj2
    have hln:(List.replicate li.toNat (zv.cells.toList.map cval0)).length=li.toNat:=List.length_replicate;have hmem:∀r∈List.replicate li.toNat (zv.cells.toList.map cval0),r=zv.cells.toList.map cval0:=fun r hr=>(List.mem_replicate.1 hr).2;have hkr:∀r∈List.replicate li.toNat (zv.cells.toList.map cval0),r.length=k:=fun r hr=>by rw[hmem r hr];exact hzk
    have hmul:li.toNat*k<=ci.toNat*k:=Nat.mul_le_mul_right _ (by omega)
    have hxs:∀j,j<li.toNat*k->(((madeCells zv.cells (ci.toNat*k)).toList.take (li.toNat*k)))[j]? =zv.cells[j%k]? :=fun j hj=>by
     rw[zqG hj,Array.getElem?_toList,hmod _ _ (by omega)]
    have hos:OSl (w.alloc (.cells (madeCells zv.cells (ci.toNat*k)) e)) k (.slice (some ⟨w.heap.size,0,none⟩) (List.replicate li.toNat (zv.cells.toList.map cval0)).length ci.toNat) (List.replicate li.toNat (zv.cells.toList.map cval0)).length ((madeCells zv.cells (ci.toNat*k)).toList.take (li.toNat*k)):=by
     rw[hln];refine OSl.new w _ e k _ _ _ (by rw[zqJ,Array.length_toList,size_madeCells];omega) (by omega) (by simp only[maxLen];omega) (by rw[size_madeCells]) (fun j hj=>?_);rw[zqG hj,Array.getElem?_toList]
    obtain⟨Rd',Ow',hfin⟩:=hS.freshSl (Frm.alloc _ w _) (by simp) o.dst hos hkr (fun r hr=>by rw[hmem r hr];exact z1) (fun r hr=>by rw[hmem r hr];exact z3) (fun j x u hx hu=>by
     have hj:j<li.toNat*k:=by
      have:=(zqC.1 hx).1;rwa[qei hkr,hln]at this
     rw[hxs j hj]at hu;have hjm:j%k<k:=Nat.mod_lt _ hk0;have hdiv:j/k<li.toNat:=Nat.div_lt_of_lt_mul (by rw[Nat.mul_comm];exact hj);have hrow:(List.replicate li.toNat (zv.cells.toList.map cval0))[j/k]? =some (zv.cells.toList.map cval0):=by rw[List.getElem?_replicate,if_pos hdiv]
     have:=qhi hkr hrow (j%k) hjm;rw[Nat.mul_comm,Nat.div_add_mod]at this;rw[this]at hx
     exact z2 _ x u hx (by simpa using hu))
    refine⟨_,_,_,β,Rd',Ow',?_,.inl rfl,hfin,fun _ _=>rfl,Nat.le_refl _⟩;simp only[execOp,ho,Sem.run_bind];rw[e1,e2,hrun,hln];rfl
   ·cases h
  ·cases h
 ·cases h
theorem qnM{a:Act}{o:Oper}(hS:S3 E W F Rd0 w β Rd Ow fr H a.tmps){s d:TypeId}{x:Operand}(ho:o.op= .convert s d x){v:AV}(h:qgQ P s d (aeval fr x)=some v):qcK P E W F Rd0 β H.length a o w v fr H:=by
 obtain⟨hx1,_,_⟩:=hS.eval rfl x;unfold qgQ at h;split at h
 ·rename_i l heq;rw[heq]at hx1;obtain⟨sb,hse,rfl,hsz⟩:=qaq hx1;split at h
  ·rename_i hc;simp only[Bool.and_eq_true]at hc;cases h;obtain⟨e,hd,he⟩:=qcM hc.2;obtain⟨cap,w',hrun,hos,hf,hlt⟩:=qcP (P:=P) w s d e sb (qbs hc.1) hd he hsz;have hos':OSl w' 1 (.slice (some ⟨w.heap.size,0,none⟩) (bts sb.data.toList).length cap) (bts sb.data.toList).length (u8s sb.data.toList):=by rw[qc2,qad];exact hos
   obtain⟨Rd',Ow',hfin⟩:=hS.freshSl hf (by omega) o.dst hos' (fun r hr=>by obtain⟨b,_,rfl⟩:=List.mem_map.1 hr;rfl)
    (fun r hr x hx=>by obtain⟨b,_,rfl⟩:=List.mem_map.1 hr;simp at hx;subst hx;exact⟨rfl,rfl⟩) (fun r hr x hx=>by obtain⟨b,_,rfl⟩:=List.mem_map.1 hr;simp at hx;subst hx;exact .int _ _)
    (fun j x u hx hu=>by
     rw[qff]at hx;rw[qdU]at hu;cases hb:sb.data.toList[j]? with
     |none=>rw[hb]at hx;cases hx
     |some b=>rw[hb]at hx hu;cases hx;cases hu;exact .int _ _)
   refine⟨_,_,w',β,Rd',Ow',?_,.inl rfl,hfin,fun _ _=>rfl,Nat.le_refl _⟩;simp only[execOp,ho,Sem.run_bind];rw[hse,hrun,qc2,qad];rfl
  ·cases h
 ·cases h
theorem qba{α β:Type}{x:Option α}{f:α->β}{y:β}(h:x.map f=some y):∃z,x=some z/\f z=y:=by
 cases x with
 |none=>cases h
 |some z=>exact⟨z,rfl,by simpa using h⟩
theorem aop_ok{B:List Tmp}{a:Act}{o:Oper}(hS:S3 E W F Rd0 w β Rd Ow fr H a.tmps){v:AV}(h:aop P B fr H o=some (v,fr',H')):qcK P E W F Rd0 β H.length a o w v fr' H':=by
 unfold aop at h;split at h
 ·skip
  rename_i x ho;cases h;obtain⟨r1,r2,r3⟩:=hS.eval rfl x;obtain⟨Ow',hT,hO⟩:=hS.take rfl x (o.dst.map .slot);exact⟨_,_,w,β,Rd,Ow',by simp only[execOp,ho];rfl,.inl rfl,hT.aput o.dst rfl r1 r2 r3 (fun g hg t ht=>by rw[hO g hg,ht];rfl),fun _ _=>rfl,Nat.le_refl _⟩
 ·skip
  rename_i x ho;obtain⟨r1,r2,r3⟩:=hS.eval rfl x;split at h
  ·cases h;obtain⟨Ow',hT,hO⟩:=hS.take rfl x (o.dst.map .slot);exact⟨_,_,w,β,Rd,Ow',by simp only[execOp,ho];rfl,.inl rfl,hT.aput o.dst rfl r1 r2 r3 (fun g hg t ht=>by rw[hO g hg,ht];rfl),fun _ _=>rfl,Nat.le_refl _⟩
  ·cases h;exact qaK hS (by simp only[execOp,ho];rfl) ⟨r1.dis,r2.dis,r3⟩
 ·skip
  rename_i c x y ho;split at h
  ·rename_i t heq;cases h;obtain⟨c1,_,_⟩:=hS.eval rfl c;rw[heq]at c1;have hc:=qbX c1;obtain⟨x1,x2,x3⟩:=hS.eval rfl x;obtain⟨y1,y2,y3⟩:=hS.eval rfl y;refine qaK hS (c:=if t then a.eval x else a.eval y) (by simp[execOp,ho,hc,asBool]) ?_;cases t
   ·exact⟨y1.dis,y2.dis,y3⟩
   ·exact⟨x1.dis,x2.dis,x3⟩
  ·cases h
 ·skip
  rename_i t ho;obtain⟨l,hl,he⟩:=qba h;cases he;obtain⟨i,z,hi,hz,hone,rfl⟩:=qbF hl;obtain⟨z1,z2,z3⟩:=qbD (w:=w) (β:=β) (Rd:=Rd) (N:=H.length) _ hone;refine qh2 hS (z.cells.toList.map cval0) z.cells t (by simp) (fun j x u hx hu=>?_) (by simp[execOp,ho,Instr.alloc,zeroValue,typeInfo,hi,hz,newVar,newRow]) (qcA fun x hx=>(z1 x hx).1);exact⟨z2 j x u hx (by simpa using hu),(z1 x (qak hx)).2,z3 x (qak hx),fun g hg=>by rw[qaw (z1 x (qak hx)).1]at hg;cases hg⟩
 ·skip
  rename_i t x ho;obtain⟨l,hl,he⟩:=qba h;cases he;obtain⟨r1,r2,r3⟩:=hS.eval rfl x;obtain⟨Ow',hT,hO⟩:=hS.take rfl x (some (.cell H.length 0));obtain⟨e1,e2,e3⟩:=qeq hl r1 r2 r3;refine qh2 hT l (a.eval x).cells t e1 (fun j y u hy hu=>?_) (by simp[execOp,ho,Instr.box,newVar,newRow]) (qgz hl r1 r3);obtain⟨q1,q2,q3,q4⟩:=e3 j y u hy (by simpa using hu);refine⟨q1,q2,q3,fun g hg=>?_⟩;obtain⟨q5,rfl⟩:=q4 g hg;exact hO g q5
 ·skip
  rename_i t parts ho;obtain⟨l,hl,he⟩:=qba h;cases he;obtain⟨c,hr,hg⟩:=qnN hS hl;exact qaK hS (by simp only[execOp,ho,Sem.run_bind];rw[hr];rfl) hg
 ·skip
  rename_i t n parts ho;obtain⟨l,hl,he⟩:=qba h;cases he;exact qrl hS ho hl
 ·rename_i t x ho;exact qpx hS ho h
 ·rename_i t x y ho;exact qnH hS ho h
 ·skip
  rename_i x ho;obtain⟨l,hl,he⟩:=qba h;cases he;obtain⟨r1,r2,r3⟩:=hS.eval rfl x;unfold anil at hl;split at hl<;>cases hl
  ·rename_i p heq;rw[heq]at r1 r2;obtain⟨i,q⟩:=p;exact qaK hS (c:= .pointer (some ⟨β i,q,none⟩)) (by simp[execOp,ho,qb4 r1]) ⟨.ptr i q,r2,rfl⟩
  ·rename_i l heq;rw[heq]at r1 r2;obtain⟨g,q,us,hxe,hl,hc,hf,hr⟩:=qiT r1;exact qaK hS (c:= .pointer (some ⟨g,q,none⟩)) (by simp[execOp,ho,hxe]) ⟨.elt l g q us hl hc hf hr,r2,rfl⟩
  ·rename_i f l heq;rw[heq]at r1 r2;obtain⟨va,vb,hxe⟩:=qqB r1;exact qaK hS (c:= .func (.func f) va vb) (by simp[execOp,ho,hxe]) ⟨by rw[hxe]at r1;exact r1,r2,rfl⟩
 ·skip
  rename_i op t x y t' ho;obtain⟨l,hl,he⟩:=qba h;cases he;obtain⟨x1,_,_⟩:=hS.eval rfl x;obtain⟨y1,_,_⟩:=hS.eval rfl y;obtain⟨c,h1,h2⟩:=qrq (P:=P) hl x1 y1 x y;refine qaK hS (c:=c) ?_ h2;simp only[execOp,ho];rw[Sem.run_bind,h1];rfl
 ·skip
  rename_i op t x ho;obtain⟨l,hl,he⟩:=qba h;cases he;obtain⟨x1,_,_⟩:=hS.eval rfl x;obtain⟨c,h1,h2⟩:=aun_ok (P:=P) (N:=H.length) hl x1;exact qaK hS (by simp only[execOp,ho,Sem.run_bind];rw[h1];rfl) h2
 ·skip
  rename_i s d x ho;obtain⟨l,hl,he⟩:=qba h;cases he;cases hb:qgQ P s d (aeval fr x)with
  |some v'=>
   rw[hb]at hl;cases hl;exact qnM hS ho hb
  |none=>
   rw[hb]at hl;obtain⟨x1,_,_⟩:=hS.eval rfl x;obtain⟨c,h1,h2⟩:=qpy (P:=P) (N:=H.length) hl x1;exact qaK hS (by simp only[execOp,ho,Sem.run_bind];rw[h1];rfl) h2
 ·skip
  rename_i t l c ho;obtain⟨l',hl,he⟩:=qba h;cases he;exact qpw hS ho hl
 ·skip
  rename_i t x lo hi mx ho;obtain⟨l,hl,he⟩:=qba h;cases he;obtain⟨x1,x2,_⟩:=hS.eval rfl x;obtain⟨c,h1,h2⟩:=qnI (P:=P) hl x1 x2 (qfg hS rfl lo) (qfg hS rfl hi) (qfg hS rfl mx);exact qaK hS (by simp only[execOp,ho,Sem.run_bind];rw[h1];rfl) h2
 ·skip
  rename_i t x f ho;obtain⟨l,hl,he⟩:=qba h;cases he;obtain⟨x1,x2,_⟩:=hS.eval rfl x;obtain⟨c,h1,h2⟩:=qnL (P:=P) hl x1 x2;exact qaK hS (by simp only[execOp,ho,Sem.run_bind];rw[h1];rfl) h2
 ·skip
  rename_i t x f ho;obtain⟨l,hl,he⟩:=qba h;cases he;obtain⟨x1,x2,_⟩:=hS.eval rfl x;obtain⟨c,h1,h2⟩:=qnK (P:=P) hl x1 x2;exact qaK hS (by simp only[execOp,ho,Sem.run_bind];rw[h1];rfl) h2
 ·skip
  rename_i t x i ho;obtain⟨l,hl,he⟩:=qba h;cases he;obtain⟨x1,x2,_⟩:=hS.eval rfl x;obtain⟨i1,_,_⟩:=hS.eval rfl i;obtain⟨c,h1,h2⟩:=qlk (P:=P) hl x1 x2 i1;exact qaK hS (by simp only[execOp,ho,Sem.run_bind];rw[h1];rfl) h2
 ·skip
  rename_i t x i ho;obtain⟨l,hl,he⟩:=qba h;cases he;obtain⟨x1,x2,_⟩:=hS.eval rfl x;obtain⟨i1,_,_⟩:=hS.eval rfl i;obtain⟨c,h1,h2⟩:=aix_ok (P:=P) (N:=H.length) hl x1 x2 i1;exact qaK hS (by simp only[execOp,ho,Sem.run_bind];rw[h1];rfl) h2
 ·skip
  rename_i x i ho;obtain⟨l,hl,he⟩:=qba h;cases he;obtain⟨x1,x2,_⟩:=hS.eval rfl x;obtain⟨c,h1,h2⟩:=qju (P:=P) hl x1 x2;exact qaK hS (by simp only[execOp,ho,Sem.run_bind];rw[h1];rfl) h2
 ·skip
  rename_i fn first caps ho
  obtain⟨l,hl,he⟩:=qba h;cases he;obtain⟨c,h1,h2⟩:=qrj (P:=P) hS hl;exact qaK hS (by simp only[execOp,ho,Sem.run_bind];rw[h1];rfl) h2
 ·skip
  rename_i c ho;split at h
  ·rename_i b hb;unfold abuiltin at h;obtain⟨callee,args,argTypes⟩:=c;simp only at hb h;subst hb;split at h
   ·rename_i b' xs' ts' x t hxs hts;have hxs:args= #[x]:=by simpa using congrArg List.toArray hxs
    have hts:argTypes= #[t]:=by simpa using congrArg List.toArray hts
    subst hxs;subst hts;obtain⟨l,hl,he⟩:=qba h;cases he;obtain⟨x1,_,_⟩:=hS.eval rfl x;obtain⟨c,h1,h2⟩:=qrm (P:=P) (ty:=o.type) (N:=H.length) hl x1;exact qaK hS (by simp[execOp,ho,resolve,invoke,builtin,h1]) h2
   ·rename_i b' xs' ts' x y t t' hxs hts;have hxs:args= #[x,y]:=by simpa using congrArg List.toArray hxs
    have hts:argTypes= #[t,t']:=by simpa using congrArg List.toArray hts
    subst hxs;subst hts;exact qlm hS ho h
   ·rename_i b' xs' ts' x y hxs;have hxs:args= #[x,y]:=by simpa using congrArg List.toArray hxs
    subst hxs;split at h
    ·rename_i k i k' j hx hy;cases h;obtain⟨x1,_,_⟩:=hS.eval rfl x;obtain⟨y1,_,_⟩:=hS.eval rfl y;rw[hx]at x1;rw[hy]at y1;exact qaK hS (by simp[execOp,ho,resolve,invoke,builtin,qas x1,qas y1,run_min_int2]) Got.int
    ·cases h
   ·rename_i b' xs' ts' x y hxs;have hxs:args= #[x,y]:=by simpa using congrArg List.toArray hxs
    subst hxs;split at h
    ·rename_i k i k' j hx hy;cases h;obtain⟨x1,_,_⟩:=hS.eval rfl x;obtain⟨y1,_,_⟩:=hS.eval rfl y;rw[hx]at x1;rw[hy]at y1;exact qaK hS (by simp[execOp,ho,resolve,invoke,builtin,qas x1,qas y1,run_max_int2]) Got.int
    ·cases h
   ·cases h
  ·cases h
 ·cases h
end
structure Post (E:Env) (w:World) (β:Nat->Nat) (Rd:Nat->Nat->Prop) (Ow:Nat->Option Hold) (H:Hp) (w':World) (β':Nat->Nat) (Rd':Nat->Nat->Prop) (Ow':Nat->Option Hold) (H':Hp) (v:AV) (c:Value):Prop where
 rel:Rel w' β' Rd' v c
 bnd:Bnd H'.length v
 own:∀g,own0 v c=some g->Ow' g=some (.slot 0)
 ne:v.dis.free=true
 hr:HR E w' β' Rd' Ow' H'
 old:∀i,i<H.length->β' i=β i
 len:H.length<=H'.length
 keep:∀g o,Rd g o->Rd' g o/\w'.cell? ⟨g,o,none⟩=w.cell? ⟨g,o,none⟩
 frame:∀b,b<w.heap.size->(∀i,i<H.length->β i≠b)->Ow b=none->w'.heap[b]? =w.heap[b]? /\Ow' b=none/\(∀i,i<H'.length->β' i≠b)/\∀o,Rd' b o->Rd b o
 os:w'.os=w.os
 tape:w'.tape=w.tape
 output:w'.output=w.output
 size:w.heap.size<=w'.heap.size
def hasB(P:Program)(f:FuncId):Bool:=match P.funcs[f]? with
 | some fn => fn.body.isSome && !(fn.name == "runtime.NumGoroutine")
 |none=>false
def PC(P:Program)(E:Env)(f:FuncId)(args:List AV)(H:Hp)(Q:AV->Hp->Prop):Prop:=
 hasB P f=true/\∀(w:World) (β:Nat->Nat) (Rd:Nat->Nat->Prop) (Ow:Nat->Option Hold) (cargs:Array Value),HR E w β Rd Ow H->(∀g h,Ow g=some h->∃i j,h= .cell i j)->cargs.size=args.length->
  (∀(t:Nat) x u,args[t]? =some x->cargs[t]? =some u->Rel w β Rd x u/\Bnd H.length x/\x.free=true)->
  Calls P f cargs w fun e w'=>∃c v H' β' Rd' Ow',e= .returned c/\Q v H'/\Post E w β Rd Ow H w' β' Rd' Ow' H' v c
theorem PC.mono{P:Program}{E:Env}{f:FuncId}{args:List AV}{H:Hp}{Q Q':AV->Hp->Prop}(h:PC P E f args H Q)(hq:∀v H',Q v H'->Q' v H'):PC P E f args H Q':=
 ⟨h.1,fun w β Rd Ow cargs h1 h2 h3 h4=>(h.2 w β Rd Ow cargs h1 h2 h3 h4).mono fun e w' ⟨c,v,H',β',Rd',Ow',he,hQ,hP⟩=>⟨c,v,H',β',Rd',Ow',he,hq v H' hQ,hP⟩⟩
def PX(P:Program)(E:Env)(f:FuncId)(args:List AV)(H:Hp)(Q:AV->Hp->Prop)(R:Value->Hp->Prop):Prop:=
 hasB P f=true/\∀(w:World) (β:Nat->Nat) (Rd:Nat->Nat->Prop) (Ow:Nat->Option Hold) (cargs:Array Value),HR E w β Rd Ow H->(∀g h,Ow g=some h->∃i j,h= .cell i j)->cargs.size=args.length->
  (∀(t:Nat) x u,args[t]? =some x->cargs[t]? =some u->Rel w β Rd x u/\Bnd H.length x/\x.free=true)->
  Calls P f cargs w fun e w'=>(∃c v H' β' Rd' Ow',e= .returned c/\Q v H'/\Post E w β Rd Ow H w' β' Rd' Ow' H' v c)\/∃c H' β' Rd' Ow',e= .panicked [{v:=c,recovered:=false}]/\R c H'/\Post E w β Rd Ow H w' β' Rd' Ow' H' (.raw undef) undef
theorem PX.mono{P:Program}{E:Env}{f:FuncId}{args:List AV}{H:Hp}{Q Q':AV->Hp->Prop}{R R':Value->Hp->Prop}(h:PX P E f args H Q R)(hq:∀v H',Q v H'->Q' v H')(hr:∀v H',R v H'->R' v H'):PX P E f args H Q' R':=
 ⟨h.1,fun w β Rd Ow cargs h1 h2 h3 h4=>(h.2 w β Rd Ow cargs h1 h2 h3 h4).mono fun e w' hh=>hh.imp (fun⟨c,v,H',β',Rd',Ow',he,hQ,hP⟩=>⟨c,v,H',β',Rd',Ow',he,hq v H' hQ,hP⟩) fun⟨c,H',β',Rd',Ow',he,hQ,hP⟩=>⟨c,H',β',Rd',Ow',he,hr c H' hQ,hP⟩⟩
def cells(o:Option Hold):Option Hold:=match o with
 |some (.cell i j)=>some (.cell i j)
 |_=>none
def merge(d:Option Tmp)(a b:Option Hold):Option Hold:=match a with
 |some (.slot t)=>some (.slot t)
 |_=>match b with
  |some (.slot _)=>d.map .slot
  |x=>x
def St(ds:List Deferred)(E:Env)(W:World)(F:Nat->Prop)(Rd0:Nat->Nat->Prop)(β0:Nat->Nat)(n:Nat)(fr:List AV)(H:Hp)(a:Act)(w:World):Prop:=
 a.defers=ds/\n<=H.length/\∃β Rd Ow,S3 E W F Rd0 w β Rd Ow fr H a.tmps/\∀i,i<n->β i=β0 i
section
variable {P:Program}{E:Env}{W:World}{F:Nat->Prop}{Rd0:Nat->Nat->Prop}{w w':World}{β β0 β':Nat->Nat}{Rd Rd':Nat->Nat->Prop}{Ow Ow':Nat->Option Hold}{fr fr':List AV}{H H':Hp}{tmps:Array Value}{N n:Nat}{ds:List Deferred}
theorem qj5(h:HR E w β Rd Ow H):HR E w β Rd (fun g=>cells (Ow g)) H:=
 ⟨fun i l hl=>let ⟨T,cs,h1,h2,h3⟩:=h.box i l hl;⟨T,cs,h1,h2,fun j x u hx hu=>let ⟨r1,r2,r3⟩:=h3 j x u hx hu;⟨r1,r2,fun g hg=>by show cells (Ow g)=_;rw[r3 g hg];rfl⟩⟩,h.inj,
  fun i hi=>⟨by show cells (Ow (β i))=_;rw[(h.sep i hi).1];rfl,(h.sep i hi).2⟩,fun g k hg=>by
   cases hk:Ow g with
   |none=>simp[hk,cells]at hg
   |some k'=>exact h.ows g k' hk,h.rds,h.bnd,fun b hb=>let ⟨f1,f2,f3,f4⟩:=h.fix b hb;⟨f1,by show cells (Ow b)=_;rw[f2];rfl,f3,f4⟩,h.bld⟩
theorem qgN:∀g h,cells (Ow g)=some h->∃i j,h= .cell i j:=fun g h hg=>by
 unfold cells at hg;split at hg
 ·cases hg;exact⟨_,_,rfl⟩
 ·cases hg
theorem qgb{a:Act}(hS:S3 E W F Rd0 w β Rd Ow fr H a.tmps){v:AV}{c:Value}(hp:Post E w β Rd (fun g=>cells (Ow g)) H w' β' Rd' Ow' H' v c)(d:Option Tmp):
  S3 E W F Rd0 w' β' Rd' (fun g=>merge d (Ow g) (Ow' g)) (aput fr d v) H' (a.put d c).tmps:=by
 have hslot:∀g t,Ow g=some (.slot t)->w'.heap[g]? =w.heap[g]? /\Ow' g=none/\(∀i,i<H'.length->β' i≠g)/\∀o,Rd' g o->Rd g o:=fun g t hg=>by
  refine hp.frame g (hS.hr.ows g _ hg) (fun i hi e=>?_) (by show cells (Ow g)=none;rw[hg];rfl);have:=(hS.hr.sep i hi).1;rw[e,hg]at this;cases this
 have hnone:∀g,Ow g=none->merge d (Ow g) (Ow' g)=match Ow' g with|some (.slot _)=>d.map .slot|x=>x:=fun g hg=>by rw[hg];rfl
 have hF:∀b,F b->w'.heap[b]? =w.heap[b]? /\Ow' b=none/\(∀i,i<H'.length->β' i≠b)/\∀o,Rd' b o->Rd b o:=fun b hb=>
  hp.frame b (Nat.lt_of_lt_of_le (hS.fo.lt b hb) hS.fo.size) (fun i hi=>hS.fo.box b i hb hi) (by show cells (Ow b)=none;rw[hS.fo.own b hb];rfl)
 have h1:S3 E W F Rd0 w' β' Rd' (fun g=>merge d (Ow g) (Ow' g)) fr H' a.tmps:=by
  refine⟨⟨fun i l hl=>?_,hp.hr.inj,fun i hi=>⟨?_,(hp.hr.sep i hi).2⟩,fun g k hg=>?_,hp.hr.rds,hp.hr.bnd,fun b hb=>?_,hp.hr.bld⟩,⟨hS.ff.len,fun t x u hx hu=>?_⟩,
   ⟨hS.fo.lt,fun b hb=>(hF b hb).1.trans (hS.fo.same b hb),fun b hb=>?_,fun b i hb hi=>(hF b hb).2.2.1 i hi,fun b o hb ho=>hS.fo.rd b o hb ((hF b hb).2.2.2 o ho),hp.os.trans hS.fo.os,hp.tape.trans hS.fo.tape,hp.output.trans hS.fo.output,Nat.le_trans hS.fo.size hp.size,fun g o ho=>?_⟩,hS.ne⟩
  ·obtain⟨T,cs,e1,e2,e3⟩:=hp.hr.box i l hl;refine⟨T,cs,e1,e2,fun j x u hx hu=>?_⟩;obtain⟨r1,r2,r3⟩:=e3 j x u hx hu;refine⟨r1,r2,fun g hg=>?_⟩;have hg':=r3 g hg;show merge d (Ow g) (Ow' g)=_;cases hk:Ow g with
   |none=>rw[hg'];rfl
   |some k=>cases k with
    |slot t=>have:=(hslot g t hk).2.1;rw[this]at hg';cases hg'
    |cell i' j'=>rw[hg'];rfl
  ·show merge d (Ow (β' i)) (Ow' (β' i))=none;have h0:=(hp.hr.sep i hi).1;cases hk:Ow (β' i)with
   |none=>rw[h0];rfl
   |some k=>cases k with
    |slot t=>exact absurd rfl ((hslot _ t hk).2.2.1 i hi)
    |cell i' j'=>rw[h0];rfl
  ·cases hk:Ow g with
   |some k'=>exact Nat.lt_of_lt_of_le (hS.hr.ows g _ hk) hp.size
   |none=>
    cases hk':Ow' g with
    |some k'=>exact hp.hr.ows g _ hk'
    |none=>simp only[hk,hk',merge]at hg;cases hg
  ·obtain⟨f1,f2,f3,f4⟩:=hp.hr.fix b hb;refine⟨f1,?_,f3,f4⟩;show merge d (Ow b) (Ow' b)=none;rw[f2,(hS.hr.fix b hb).2.1];rfl
  ·obtain⟨r1,r2,r3⟩:=hS.ff.rel t x u hx hu;refine⟨r1.move r2 hp.keep (fun g hg=>⟨(hslot g t (r3 g hg)).1,(hslot g t (r3 g hg)).2.2.2⟩) hp.size hp.old,r2.mono hp.len,fun g hg=>?_⟩;show merge d (Ow g) (Ow' g)=_;rw[r3 g hg];rfl
  ·show merge d (Ow b) (Ow' b)=none;rw[hS.fo.own b hb,(hF b hb).2.1];rfl
  ·obtain⟨k1,k2⟩:=hS.fo.keep g o ho;exact⟨(hp.keep g o k1).1,(hp.keep g o k1).2.trans k2⟩
 refine h1.aput d rfl hp.rel hp.bnd hp.ne (fun g hg t ht=>?_);have hg':=hp.own g hg;show merge d (Ow g) (Ow' g)=_;cases hk:Ow g with
 |none=>rw[hg',ht];rfl
 |some k=>cases k with
  |slot t'=>have:=(hslot g t' hk).2.1;rw[this]at hg';cases hg'
  |cell i' j'=>rw[hg',ht];rfl
end
inductive XR where
 |one (v:AV) (fr:List AV) (H:Hp)
 |grow (n:Nat) (f:Nat->AV×Hp)
def axconv(P:Program)(s d:TypeId)(fr:List AV)(H:Hp):AV->Option XR
 | .bx i q n _ k=>match H[i]? with
  |some l=>if(tbytes P s&&tstr P d)=true/\k=1/\q+n<=l.length/\n<=maxLen then(ubytes (((l.drop q).take n).map fun x=>[x])).map fun b=> .one (.str b) fr H else none
  |none=>none
 |_=>none
def qqU:AV->Bool
 | .sl _ _ _=>true
 | .bx _ _ _ _ _=>true
 |_=>false
def axcopy(P:Program)(t t':TypeId)(y:AV)(fr:List AV)(H:Hp):AV->Option XR
 | .bx i q n _ k=>match(asrc P t' k y).or (qgm P t' k H y),H[i]? with
  |some rows,some l=>if tel P t=some k/\rows.length<=n/\q+rows.length*k<=l.length then some (.one (.int .i64 rows.length) fr (H.set i (setR l q rows.flatten)))
   else if(tel P t=some k/\qqU y=true)/\n<rows.length/\q+n*k<=l.length then some (.one (.int .i64 n) fr (H.set i (setR l q (rows.take n).flatten)))else none
  |_,_=>none
 |_=>none
def axapp(k b:Nat)(z:List AV)(rows:List (List AV))(fr:List AV)(H:Hp):AV->Option XR
 | .nil=>if rows.length=0 then some (.one .nil fr H)else
   if rows.length<=maxLen/\rows.length*b<=140737488355328 then some (.grow rows.length fun c=>(.bx H.length 0 rows.length c k,H++[rows.flatten++(List.replicate (c-rows.length) z).flatten]))else none
 | .bx i q n c k'=>match H[i]? with
  |some l=>if k'=k/\q+n*k<=l.length/\((l.drop q).take (n*k)).all (·.free)=true then
    if n+rows.length<=c then(if q+(n+rows.length)*k<=l.length then some (.one (.bx i q (n+rows.length) c k) fr (H.set i (setR l (q+n*k) rows.flatten)))else none)else
    if n+rows.length<=maxLen/\(n+rows.length)*b<=140737488355328 then
     some (.grow (n+rows.length) fun c=>(.bx H.length 0 (n+rows.length) c k,H++[(l.drop q).take (n*k)++rows.flatten++(List.replicate (c-(n+rows.length)) z).flatten]))else none else none
  |none=>none
 |_=>none
def qpu(P:Program)(t':TypeId)(b:Nat)(z:List AV):AV->Option (List (List AV))
 | .int _ m=>if(tint P t').isSome/\0<=m/\m.toNat*b<=140737488355328/\m.toNat<=maxLen then some (List.replicate m.toNat z)else none
 |_=>none
def axappend(P:Program)(t t':TypeId)(x y:AV)(fr:List AV)(H:Hp):Option XR:=match tsl P t with
 |some e=>match tsz P e,tby P e,tzc P e with
  |some k,some b,some z=>match((asrc P t' k y).or (qpu P t' b z y)).or (qgm P t' k H y)with
   |some rows=>if z.length=k/\0<k then axapp k b z rows fr H x else none
   |none=>none
  |_,_,_=>none
 |none=>none
def axlit(P:Program)(t:TypeId)(n:Nat)(parts:List (Nat×AV))(fr:List AV)(H:Hp):Option XR:=match tsl P t with
 |some e=>match tzc P e,tsz P e with
  |some z,some k=>if z.length=k/\0<k/\n*k<=16777216/\parts.map (·.1)=List.range n then(arows k (parts.map (·.2))).map fun rows=> .one (.bx H.length 0 n n k) fr (H++[rows.flatten])else none
  |_,_=>none
 |none=>none
def axmake(P:Program)(t:TypeId)(l c:AV)(fr:List AV)(H:Hp):Option XR:=match tsl P t,l,c with
 |some e,.int _ l,.int _ c=>match tzc P e,tsz P e,tby P e with
  |some z,some k,some b=>if z.length=k/\0<k/\0<=l/\l<=c/\(b:Int)*c<=140737488355328/\c<=140737488355328 then some (.one (.bx H.length 0 l.toNat c.toNat k) fr (H++[(List.replicate c.toNat z).flatten]))else none
  |_,_,_=>none
 |_,_,_=>none
def tblf(P:Program)(t:TypeId):Option TypeId:=match P.underlying t with
 |some (.struct fs)=>(match fs[1]? with
  |some f=>tsl P f.type
  |none=>none)
 |_=>none
def axalloc(P:Program)(t:TypeId)(fr:List AV)(H:Hp):Option XR:=match tzc P t,tblf P t with
 |some [.ptr none,.nil],some e=>some (.one (.ptr (some (H.length,0))) fr (H++[[.bl t,.bf e []]]))
 |_,_=>none
def axsub(P:Program)(t:TypeId)(fr:List AV)(H:Hp)(x:Operand)(lo:Option AV):Option XR:=match aeval fr x with
 | .sl true k rows=>if tel P t=some k then(match abound lo 0 with
  |some a=>if a<=rows.length then some (.one (.sl true k (rows.drop a)) (fdis fr x) H)else none
  |none=>none)else none
 |_=>none
def axm(H:Hp)(i p g:Nat):Option (Program×TypeId×List (Int×Nat)):=match H[i]? with
 |some l=>match l[p]? with
  |some (.ob X)=>match X.mp with
   |some (P,k,g',kv)=>if g'=g then some (P,k,kv)else none
   |none=>none
  |_=>none
 |none=>none
def ptrA:Option Nat->AV
 |some i=> .ptr (some (i,0))
 |none=> .ptr none
def qkx(P:Program)(t:TypeId):Option TypeId:=match P.underlying t with
 |some (.map k e)=>match P.underlying k,P.info? e with
  |some (.int .i64),some i=>match i.zero with
   |some (.pointer none)=>some k
   |_=>none
  |_,_=>none
 |_=>none
def qme(n:Int):Prop:= -9223372036854775808<=n/\n<=9223372036854775807
instance (n:Int):Decidable (qme n):=by unfold qme;exact inferInstance
open Classical in
noncomputable def axmload (P:Program) (t:TypeId) (fr:List AV) (H:Hp):AV->Option XR
 | .ptr (some (i,p))=>match H[i]? with
  |some l=>match l[p]? with
   |some (.ob X)=>match X.mp with
    |some (_,_,g,_)=>if trow P t=some false then some (.one (.mh i p g) fr H)else none
    |none=>none
   |_=>none
  |none=>none
 |_=>none
open Classical in
noncomputable def axlook (P:Program) (t:TypeId) (ok:Bool) (fr:List AV) (H:Hp):AV->AV->Option XR
 | .mh i p g,.int .i64 n=>match axm H i p g with
  |some (P',k,kv)=>if P'=P/\qkx P t=some k/\qme n/\ok=true then some (.one (.tup [ptrA (kvAt kv n),.bool (kvAt kv n).isSome]) fr H)else none
  |none=>none
 |_,_=>none
open Classical in
noncomputable def axmput (P:Program) (t:TypeId) (fr:List AV) (H:Hp):AV->AV->AV->Option XR
 | .mh i p g,.int .i64 n,.ptr (some (j,0))=>match axm H i p g with
  |some (P',k,kv)=>if P'=P/\qkx P t=some k/\qme n/\kv.length<maxLen then some (.one (.raw undef) fr (H.set i ((H.getD i []).set p (.ob (qoS P k g (qh8 kv n j))))))else none
  |none=>none
 |_,_,_=>none
open Classical in
noncomputable def axmdel (P:Program) (t k':TypeId) (fr:List AV) (H:Hp):AV->AV->Option XR
 | .mh i p g,.int .i64 n=>match axm H i p g with
  |some (P',k,kv)=>if P'=P/\qkx P t=some k/\k'=k/\qme n then some (.one (.tup []) fr (H.set i ((H.getD i []).set p (.ob (qoS P k g (qec kv n))))))else none
  |none=>none
 |_,_=>none
open Classical in
noncomputable def axmlen (P:Program) (t:TypeId) (fr:List AV) (H:Hp):AV->Option XR
 | .mh i p g=>match axm H i p g with
  |some (P',k,kv)=>if P'=P/\qkx P t=some k then some (.one (.int .i64 kv.length) fr H)else none
  |none=>none
 |_=>none
noncomputable def abx (P:Program) (fr:List AV) (H:Hp) (o:Oper):Option XR:=match o.op with
 | .slice t x lo hi mx=>if hi.isNone&&mx.isNone then axsub P t fr H x (lo.map (aeval fr))else none
 | .convert s d x=>axconv P s d fr H (aeval fr x)
 | .alloc t=>axalloc P t fr H
 | .makeSlice t l c=>axmake P t (aeval fr l) (aeval fr c) fr H
 | .buildSlice t n parts=>axlit P t n (parts.toList.map fun p=>(p.1,aeval fr p.2)) fr H
 | .load t x=>axmload P t fr H (aeval fr x)
 | .lookup t x y ok=>axlook P t ok fr H (aeval fr x) (aeval fr y)
 | .mapUpdate t x y z=>axmput P t fr H (aeval fr x) (aeval fr y) (aeval fr z)
 | .call c=>match c.callee,c.args.toList,c.argTypes.toList with
  | .builtin .delete,[x,y],[t,k]=>axmdel P t k fr H (aeval fr x) (aeval fr y)
  | .builtin .len,[x],[t]=>axmlen P t fr H (aeval fr x)
  | .builtin .copy,[x,y],[t,t']=>axcopy P t t' (aeval fr y) fr H (aeval fr x)
  | .builtin .append,[x,y],[t,t']=>axappend P t t' (aeval fr x) (aeval fr y) fr H
  |_,_,_=>none
 |_=>none
def XOk(P:Program)(E:Env)(W:World)(F:Nat->Prop)(Rd0:Nat->Nat->Prop)(β:Nat->Nat)(n:Nat)(a:Act)(o:Oper)(w:World)(fr:List AV):XR->Prop
 | .one v fr' H'=>qcK P E W F Rd0 β n a o w v fr' H'
 | .grow m f=>∃c,m<=c/\c<=maxLen/\qcK P E W F Rd0 β n a o w (f c).1 fr (f c).2
section
variable {P:Program}{E:Env}{W:World}{F:Nat->Prop}{Rd0:Nat->Nat->Prop}{w w':World}{β β':Nat->Nat}{Rd Rd':Nat->Nat->Prop}{Ow Ow':Nat->Option Hold}{fr fr':List AV}{H H':Hp}{tmps:Array Value}{N:Nat}
theorem qnF{a:Act}{o:Oper}(hS:S3 E W F Rd0 w β Rd Ow fr H a.tmps){s d:TypeId}{x:Operand}(ho:o.op= .convert s d x){r:XR}(h:axconv P s d fr H (aeval fr x)=some r):XOk P E W F Rd0 β H.length a o w fr r:=by
 obtain⟨h1,h2,h3⟩:=hS.eval rfl x;unfold axconv at h;split at h
 ·rename_i i q n c k heq;rw[heq]at h1;obtain⟨hv,hnc,hcm⟩:=qhQ h1;split at h
  ·rename_i l hl;split at h
   ·rename_i hc;obtain⟨hty,rfl,hle,hn⟩:=hc;simp only[Bool.and_eq_true]at hty;obtain⟨e,he,he8⟩:=qcM hty.1;obtain⟨b,hb,hr⟩:=qba h;subst hr;have hrow:=qfn hb
    have hbl:b.length=n:=by
     have:=congrArg List.length hrow;rw[List.length_map,zqJ,zqI,qc2]at this;omega
    obtain⟨T,cs,c1,c2,c3⟩:=hS.hr.box i l hl
    have hat:∀j,j<n->l[q+j]? =some (.int .u8 ((b[j]?.getD 0).toNat:Int))/\∃y,b[j]? =some y:=fun j hj=>by
     obtain⟨y,hy⟩:∃y,b[j]? =some y:=⟨_,zqD (by omega)⟩
     have hx:(((l.drop q).take n).map fun x=>[x])[j]? =some [.int .u8 (y.toNat:Int)]:=by rw[hrow];simp[bts,hy]
     rw[List.getElem?_map,zqG hj,zqN]at hx;obtain⟨z,hz,hz2⟩:=Option.map_eq_some_iff.1 hx;simp at hz2;rw[hz,hz2,hy];exact⟨rfl,_,rfl⟩
    have hR:RSl w 1 (.slice (some ⟨β i,q,none⟩) n c) n (u8s b):=by
     refine⟨by rw[qb0,hbl,Nat.mul_one],_,c,rfl,hnc,hcm,fun _=>⟨β i,q,rfl,fun j hj=>?_⟩⟩;obtain⟨e1,y,hy⟩:=hat j (by omega);have hlt:=(zqC.1 e1).1;have hcj:cs[q+j]? =some cs[q+j]:=zqM (by omega);rw[hy]at e1;have:=(c3 (q+j) _ _ e1 hcj).1;have:=qas this;rw[qaX c1,hcj,this,qdU,hy];rfl
    have hrun:=qbL (P:=P) w s d e (some ⟨β i,q,none⟩) n c b he he8 (qbs hty.2) hR;refine qaK hS (c:= .string (tx b)) ?_ (qdL (by simp[tx]) ?_)
    ·simp only[execOp,ho,Sem.run_bind];rw[hv,hrun];rfl
    ·show(tx b).size<=maxLen;have:(tx b).size=b.length:=by simp[tx,ByteArray.size]
     omega
   ·cases h
  ·cases h
 ·cases h
theorem qlV{k n m:Nat}{v:Value}{xs:List Value}(h:RSl w k v n xs)(hm:m<=n):(Builtin.firstCells k m v).run P w= .ok (xs.take (m*k)).toArray w:=by
 obtain⟨hl,ao,cap,rfl,_,_,hc⟩:=h;have hmk:m*k<=n*k:=Nat.mul_le_mul_right k hm;rcases Nat.eq_zero_or_pos m with rfl|hp
 ·rw[Nat.zero_mul,List.take_zero];cases ao with
  |none=>exact run_firstCells_none w k 0 n cap
  |some a=>exact run_firstCells_some w k 0 a n cap [] (by simp) (fun j u hj=>by simp at hj)
 ·obtain⟨g,o,rfl,hc2⟩:=hc (by omega);refine run_firstCells_some w k m ⟨g,o,none⟩ n cap _ (by rw[zqJ];omega) (fun j u hj=>?_);have hj':j<m*k:=by have:=(zqC.1 hj).1;rw[zqJ]at this;omega
  rw[zqG hj']at hj;rw[Addr.add_mid,hc2 j (by omega),hj]
theorem qqt{fr:List AV}{tm:Array Value}(hS:S3 E W F Rd0 w β Rd Ow fr H tm){t:TypeId}{k:Nat}{x:AV}{c:Value}{rows:List (List AV)}(h:(asrc P t k x).or (qgm P t k H x)=some rows)(hs:qqU x=true)(hx:Rel w β Rd x c)(hB:Bnd H.length x):∃news,(Src P k t c rows.length news w/\RSl w k c rows.length news)/\(∀r∈rows,r.length=k)/\(∀r∈rows,∀x∈r,x.free=true/\x.one=true)/\
  (∀r∈rows,∀x∈r,Bnd H.length x)/\∀(j:Nat) (x:AV) (u:Value),rows.flatten[j]? =some x->news[j]? =some u->Rel w β Rd x u:=by
 cases x with
 |sl own k' rows'=>
  have h':asrc P t k (.sl own k' rows')=some rows:=by
   cases h1:asrc P t k (.sl own k' rows')with
   |some r=>rw[h1]at h;simpa using h
   |none=>rw[h1]at h;simp[qgm]at h
  unfold asrc at h';simp only[]at h';split at h'
  ·rename_i hc;obtain⟨rfl,ht⟩:=hc;cases h';obtain⟨e,he⟩:=Option.isSome_iff_exists.1 ht;obtain⟨xs,h1,h2,h3,h4,h5⟩:=qeS hx;refine⟨xs,⟨qfw h2 (Rel.slOne (own:=true) h1 h2.1 h4 h5) (qa0 he),h2⟩,h1,h4,?_,h5⟩;cases hB with
   |sl _ _ _ hB=>exact hB
  ·cases h'
 |bx i q n c k'=>exact qfh hS (by simpa[asrc]using h) hx
 |int|bool|str|ptr|elt|nil|bl|bf|ob|mh|ex|agg|tup|fn|raw=>cases hs
theorem qjW{α:Type}{a b:Option α}{x:α}(h:a.or b=some x):a=some x\/b=some x:=by
 cases a with
 |none=>exact .inr h
 |some y=>cases h;exact .inl rfl
theorem qdi{x:AV}(h:x.free=true){v:Value}{g:Nat}(hg:own0 x v=some g){C:Prop}:C:=by rw[qaw h]at hg;cases hg
theorem qnE{a:Act}{o:Oper}(hS:S3 E W F Rd0 w β Rd Ow fr H a.tmps){t t':TypeId}{x y:Operand}{cs:Array Operand}{ts:Array TypeId}(hcs:cs.toList=[x,y])(hts:ts.toList=[t,t'])(ho:o.op= .call {callee:= .builtin .copy,args:=cs,argTypes:=ts}){r:XR}(h:axcopy P t t' (aeval fr y) fr H (aeval fr x)=some r):XOk P E W F Rd0 β H.length a o w fr r:=by
 obtain⟨x1,x2,x3⟩:=hS.eval rfl x;obtain⟨y1,y2,y3⟩:=hS.eval rfl y;unfold axcopy at h;split at h
 ·rename_i i q n c k heq;rw[heq]at x1;obtain⟨hv,hnc,hcm⟩:=qhQ x1;split at h
  ·rename_i rows l hsrc hl;split at h
   ·rename_i hc;obtain⟨hte,hrn,hle⟩:=hc;cases h;obtain⟨e,inf,hu,hi2,his⟩:=qce hte
    obtain⟨news,hs,hk,hf,hB,hrr⟩:=(qjW hsrc).elim (fun hsrc=>qjt (P:=P) hsrc y1 y2) (fun hsrc=>by
     obtain⟨news,h1,h2⟩:=qfh (P:=P) hS hsrc y1
     exact⟨news,h1.1,h2⟩)
    obtain⟨T,bs,c1,c2,c3⟩:=hS.hr.box i l hl;have hnl:=hs.newsLen
    have hfl:rows.flatten.length=rows.length*k:=by
     clear hsrc hs hrr hrn hle hnl
     induction rows with
     |nil=>simp
     |cons r rows ih=>
      rw[List.flatten_cons,zqK,ih (fun r hr=>hk r (by simp[hr])) (fun r hr=>hf r (by simp[hr])) (fun r hr=>hB r (by simp[hr])),hk r (by simp),zqL,Nat.add_mul];omega
    have hst:=hS.store i l hl q rows.flatten news (by omega) (by omega) (fun j x u hx hu=>by
     obtain⟨r,hr1,hr2⟩:=qcj hx
     exact⟨hrr j x u hx hu,(hf r hr1 x hr2).2,hB r hr1 x hr2,fun g hg=>qdi (hf r hr1 x hr2).1 hg⟩) (qcA fun x hx=>by obtain⟨r,h1,h2⟩:=List.mem_flatten.1 hx;exact(hf r h1 x h2).1)
    obtain rfl:cs= #[x,y]:=by rw[<-Array.toList_inj,hcs]
    obtain rfl:ts= #[t,t']:=by rw[<-Array.toList_inj,hts]
    have hsz:(sizeOf e).run P w= .ok k w:=by simp[sizeOf,typeInfo,hi2,his]
    have hmin:Nat.min rows.length n=rows.length:=Nat.min_eq_left hrn;have hstore:=run_storeCells_cells (P:=P) (β i) q news 0 w (fun j hj=>by rw[Nat.add_zero,qaX c1,zqM (by omega)];rfl) (fun j hj=>qfe c1 _) hs.one;rw[Nat.add_zero]at hstore;refine⟨_,_,_,β,Rd,Ow,?_,.inl rfl,hst.aput o.dst rfl (.int _ _) (.int _ _) rfl (fun g hg=>by cases hg),fun _ _=>rfl,by simp⟩;simp only[execOp,ho,resolve,invoke,builtin,Sem.run_bind];simp[Builtin.copy_,run_underlying hu,hv,hs.len,hmin,hsz,hs.cells,hstore,goInt,Result.andThen]
   ·split at h
    ·rename_i hc;obtain⟨⟨hte,hsb⟩,hrn,hle⟩:=hc;cases h;obtain⟨e,inf,hu,hi2,his⟩:=qce hte;obtain⟨news,⟨hs,hR⟩,hk,hf,hB,hrr⟩:=qqt (P:=P) hS hsrc hsb y1 y2;obtain⟨T,bs,c1,c2,c3⟩:=hS.hr.box i l hl;have hk':∀r∈rows.take n,r.length=k:=fun r hr=>hk r (List.mem_of_mem_take hr)
     have hfl:(rows.take n).flatten.length=n*k:=by
      rw[qei hk',zqJ];congr 1;omega
     have hnk:n*k<=rows.length*k:=Nat.mul_le_mul_right k (by omega);have hnl:(news.take (n*k)).length=n*k:=by rw[zqJ,hs.newsLen];omega
     have hft:(rows.take n).flatten=rows.flatten.take (n*k):=by rw[qik hk]
     have hst:=hS.store i l hl q (rows.take n).flatten (news.take (n*k)) (by omega) (by omega) (fun j x u hx hu=>by
      obtain⟨r,hr1,hr2⟩:=qcj hx;have hrm:=List.mem_of_mem_take hr1;have hj:j<n*k:=by have:=(zqC.1 hx).1;omega
      rw[hft,zqG hj]at hx;rw[zqG hj]at hu
      exact⟨hrr j x u hx hu,(hf r hrm x hr2).2,hB r hrm x hr2,fun g hg=>qdi (hf r hrm x hr2).1 hg⟩) (qcA fun x hx=>by obtain⟨r,h1,h2⟩:=List.mem_flatten.1 hx;exact(hf r (List.mem_of_mem_take h1) x h2).1)
     obtain rfl:cs= #[x,y]:=by rw[<-Array.toList_inj,hcs]
     obtain rfl:ts= #[t,t']:=by rw[<-Array.toList_inj,hts]
     have hsz:(sizeOf e).run P w= .ok k w:=by simp[sizeOf,typeInfo,hi2,his]
     have hmin:Nat.min rows.length n=n:=Nat.min_eq_right (by omega);have hcells:=qlV (P:=P) hR (m:=n) (by omega);have hstore:=run_storeCells_cells (P:=P) (β i) q (news.take (n*k)) 0 w (fun j hj=>by rw[Nat.add_zero,qaX c1,zqM (by omega)];rfl) (fun j hj=>qfe c1 _) (fun u hu=>hs.one u (List.mem_of_mem_take hu));rw[Nat.add_zero]at hstore;refine⟨_,_,_,β,Rd,Ow,?_,.inl rfl,hst.aput o.dst rfl (.int _ _) (.int _ _) rfl (fun g hg=>by cases hg),fun _ _=>rfl,by simp⟩;simp only[execOp,ho,resolve,invoke,builtin,Sem.run_bind];simp[Builtin.copy_,run_underlying hu,hv,hs.len,hmin,hsz,hcells,hstore,goInt,Result.andThen]
    ·cases h
  ·cases h
 ·cases h
def Pw(R:AV->Value->Prop)(l:List AV)(v:List Value):Prop:=v.length=l.length/\∀(j:Nat) x u,l[j]? =some x->v[j]? =some u->R x u
theorem Pw.app{R:AV->Value->Prop}{l m:List AV}{v u:List Value}(h1:Pw R l v)(h2:Pw R m u):Pw R (l++m) (v++u):=by
 refine⟨by rw[zqK,zqK,h1.1,h2.1],fun j x y hx hy=>?_⟩;by_cases hj:j<l.length
 ·rw[zqA hj]at hx;rw[zqA (by rw[h1.1];exact hj)]at hy;exact h1.2 j x y hx hy
 ·rw[zqB (by omega)]at hx;rw[zqB (by rw[h1.1];omega),h1.1]at hy;exact h2.2 _ x y hx hy
theorem qjP{α:Type}(zl:List α){k:Nat}(hk:zl.length=k)(h0:0<k):∀(s j:Nat),j<s*k->(List.replicate s zl).flatten[j]? =zl[j%k]?
 |0,j,h=>by simp at h
 |s+1,j,h=>by
  rw[List.replicate_succ,List.flatten_cons];by_cases hj:j<k
  ·rw[zqA (by omega),Nat.mod_eq_of_lt hj]
  ·rw[zqB (by omega),hk,qjP zl hk h0 s (j-k) (by rw[Nat.add_mul]at h;omega)];rw[Nat.mod_eq_sub_mod (show j>=k by omega)]
theorem qlX{α:Type}(zl:List α)(s:Nat):(List.replicate s zl).flatten.length=s*zl.length:=by
 induction s with
 |zero=>simp
 |succ s ih=>rw[List.replicate_succ,List.flatten_cons,zqK,ih,Nat.add_mul];omega
theorem qlx(zv:Array Value){k:Nat}(hk:zv.size=k)(h0:0<k)(s j:Nat)(hj:j<s*k):(Builtin.zeroCells zv s).toList[j]? =zv[j%k]? :=by
 have hj2:j%k<zv.size:=by rw[hk];exact Nat.mod_lt _ h0
 rw[Array.getElem?_toList,Builtin.zeroCells,Array.getElem?_map,zqM (by rw[hk];simpa using hj)];simp[hk,zqM hj2,hj2];exact getElem!_pos zv (j%k) hj2
def Cell(w:World)(β:Nat->Nat)(Rd:Nat->Nat->Prop)(N:Nat)(x:AV)(u:Value):Prop:=Rel w β Rd x u/\x.one=true/\Bnd N x/\x.free=true
theorem qi2{t:TypeId}{k:Nat}{z:List AV}(hz:tzc P t=some z)(hk:z.length=k)(h0:0<k)(s:Nat):∃i zv,P.info? t=some i/\i.zero=some zv/\zv.cells.size=k/\Pw (Cell w β Rd N) (List.replicate s z).flatten (Builtin.zeroCells zv.cells s).toList:=by
 obtain⟨i,zv,hi,hzv,hone,rfl⟩:=qbF hz;obtain⟨z1,z2,z3⟩:=qbD (w:=w) (β:=β) (Rd:=Rd) (N:=N) _ hone;have hzc:zv.cells.size=k:=by simpa using hk
 refine⟨i,zv,hi,hzv,hzc,?_,fun j x u hx hu=>?_⟩
 ·rw[qlX,hk,Array.length_toList,size_zeroCells,hzc]
 ·have hj:j<s*k:=by have:=(zqC.1 hx).1;rw[qlX,hk]at this;exact this
  rw[qjP _ hk h0 s j hj]at hx;rw[qlx _ hzc h0 s j hj]at hu;exact⟨z2 _ x u hx (by rw[Array.getElem?_toList];exact hu),(z1 x (qak hx)).2,z3 x (qak hx),(z1 x (qak hx)).1⟩
theorem S3.newSl{a:Act}(h:S3 E W F Rd0 w β Rd Ow fr H a.tmps){l:List AV}{cs:List Value}(T:TypeId)(hp:Pw (Cell w β Rd H.length) l cs)(d:Option Tmp)(m c k:Nat)(hm:m<=c)(hcm:c<=maxLen):
  S3 E W F Rd0 (w.alloc (.cells cs.toArray T)) (bup β H.length w.heap.size) Rd Ow (Go.Proofs.YtnnhdehmlkkfjaaGreatDoor.aput fr d (.bx H.length 0 m c k)) (H++[l]) (a.put d (.slice (some ⟨w.heap.size,0,none⟩) m c)).tmps:=by
 have h1:=h.newBox l cs.toArray T (by simpa using hp.1) (fun j x u hx hu=>by
  obtain⟨c1,c2,c3,c4⟩:=hp.2 j x u hx (by simpa using hu)
  exact⟨c1,c2,c3,fun g hg=>qdi c4 hg⟩) (qmf h) (nobl0 (qcA fun x hx=>by
   obtain⟨j,hj⟩:=List.getElem?_of_mem hx
   exact(hp.2 j x _ hj (zqD (by have:=(zqC.1 hj).1;rw[hp.1];exact this))).2.2.2))
 refine h1.aput d rfl ?_ (.bx _ _ _ _ _ (by simp)) rfl (fun g hg=>by cases hg);have:=Rel.bx (w:=w.alloc (.cells cs.toArray T)) (β:=bup β H.length w.heap.size) (Rd:=Rd) H.length 0 m c k hm hcm;rw[qbP]at this;exact this
theorem qin{rows:List (List AV)}{k:Nat}(hk:∀r∈rows,r.length=k):rows.flatten.length=rows.length*k:=by
 induction rows with
 |nil=>simp
 |cons r rows ih=>rw[List.flatten_cons,zqK,ih (fun r hr=>hk r (by simp[hr])),hk r (by simp),zqL,Nat.add_mul];omega
theorem Cell.drew{w:World}{N:Nat}{x:AV}{u:Value}(h:Cell w β Rd N x u)(hR:∀g o,Rd g o->g<w.heap.size):Cell w.drew β Rd N x u:=
 ⟨h.1.move h.2.2.1 (fun g o hg=>⟨hg,rfl⟩) (fun g hg=>qdi h.2.2.2 hg) (Nat.le_refl _) (fun _ _=>rfl),h.2⟩
structure App (P:Program) (t t' ty e:TypeId) (i:TypeInfo) (x:Value) (m:Nat) (news:List Value) (w:World):Prop where
 len:news.length=m*i.size
 nothing:m=0->(Builtin.append_ #[t,t'] ty #[.slice none 0 0,x]).run P w= .ok (.slice none 0 0) w
 room:∀b off sLen sCap,sLen+m<=sCap->(∀j,j<news.length->(w.cell? ⟨b,off+sLen*i.size+j,none⟩).isSome=true)->(∀j,j<news.length->w.frozen? ⟨b,off+sLen*i.size+j,none⟩=false)->
  (Builtin.append_ #[t,t'] ty #[.slice (some ⟨b,off,none⟩) sLen sCap,x]).run P w= .ok (.slice (some ⟨b,off,none⟩) (sLen+m) sCap) (w.setCells b (off+sLen*i.size) news)
 grow:∀z base sLen sCap (olds:List Value),i.zero=some z->(Builtin.firstCells i.size sLen (.slice base sLen sCap)).run P w.drew= .ok olds.toArray w.drew->sCap<sLen+m->((sLen+m:Nat):Int)<=9223372036854775807->Builtin.nextslicecap (sLen+m) sCap*i.bytes<=281474976710656->
  (Builtin.append_ #[t,t'] ty #[.slice base sLen sCap,x]).run P w= .ok (.slice (some ⟨w.heap.size,0,none⟩) (sLen+m) (grownCap w (sLen+m) sCap e)) (w.drew.alloc (.cells ((olds++news).toArray++Builtin.zeroCells z.cells (grownCap w (sLen+m) sCap e-(sLen+m))) e))
theorem App.ofSrc{t t' ty e:TypeId}{i:TypeInfo}{x:Value}{m:Nat}{news:List Value}(ht:P.underlying t=some (.slice e))(hi:P.info? e=some i)(hs:Src P i.size t' x m news w):App P t t' ty e i x m news w:=
 ⟨hs.newsLen,fun h0=>by
   subst h0;obtain rfl:news=[]:=List.eq_nil_of_length_eq_zero (by rw[hs.newsLen,Nat.zero_mul]);exact run_append_nothing (P:=P) w t t' ty e i ht hi none 0 0 (Nat.le_refl _) x hs,
  fun b off sLen sCap h1 h2 h3=>run_append_room_src (P:=P) w t t' ty e i ht hi b off sLen sCap x m news hs h1 h2 h3,
  fun z base sLen sCap olds hz h1 h2 h3 h4=>run_append_grow_src (P:=P) w t t' ty e i z ht hi hz base sLen sCap olds h1 x m news hs h2 h3 h4⟩
theorem App.zero{t t' ty e:TypeId}{i:TypeInfo}{zv:Value}{ki kx:IntKind}{m:Nat}(ht:P.underlying t=some (.slice e))(hx:P.underlying t'=some (.int kx))(hi:P.info? e=some i)(hz:i.zero=some zv)(hzs:zv.cells.size=i.size)(hk0:0<i.size)(hone:zv.cells.toList.all (·.oneCell')=true)
  (hm:m*i.bytes<=140737488355328) (hmm:m<=maxLen):App P t t' ty e i (.int ki m) m (Builtin.zeroCells zv.cells m).toList w:=by
 have hone':=List.all_eq_true.1 hone;have hw:IntKind.i64.wrap (m:Int)=m:=IntWalk.i64_in _ (by simp only[maxLen]at hmm;constructor<;>omega)
 have hb:¬((281474976710656:Int)<(m:Int)*(i.bytes:Int)):=by
  have:((m*i.bytes:Nat):Int)=(m:Int)*(i.bytes:Int):=by simp
  omega
 have hlen:(Builtin.zeroCells zv.cells m).toList.length=m*i.size:=by rw[Array.length_toList,size_zeroCells,hzs]
 have hmz:m*i.size=0->m=0:=fun h=>by
  rcases Nat.mul_eq_zero.1 h with h|h
  ·exact h
  ·omega
 have hz0:∀n,n=0->Builtin.zeroCells zv.cells n= #[]:=fun n hn=>by subst hn;simp[Builtin.zeroCells]
 have hnn:∀w':World,(if m*i.size=0 then(pure #[]:Sem (Array Value))else(do let v<-zeroValue e;pure (Builtin.zeroCells v.cells m))).run P w'= .ok (Builtin.zeroCells zv.cells m) w':=fun w'=>by
  split
  ·rename_i h;rw[hz0 m (hmz h)];rfl
  ·simp[zeroValue,typeInfo,hi,hz]
 have hneg:¬((m:Int)<0):=by omega
 have honez:∀u∈(Builtin.zeroCells zv.cells m).toList,u.oneCell'=true:=fun u hu=>by
  obtain⟨j,hj⟩:=List.getElem?_of_mem hu;have hjl:j<m*i.size:=by have:=(zqC.1 hj).1;omega
  rw[qlx _ hzs hk0 m j hjl]at hj;exact hone' u (zqH (by rw[<-Array.getElem?_toList]at hj;exact hj))
 refine⟨hlen,fun h0=>?_,fun b off sLen sCap h1 h2 h3=>?_,fun z base sLen sCap olds hz' h1 h2 h3 h4=>?_⟩
 ·subst h0;have hw0:IntKind.i64.wrap 0=0:=rfl;by_cases hz1:i.size=0
  ·omega
  ·simp[Builtin.append_,run_underlying ht,run_underlying hx,sizeOf,typeInfo,hi,asInt,asIntOf,hw0]
 ·have hst:=run_storeCells_cells (P:=P) b (off+sLen*i.size) (Builtin.zeroCells zv.cells m).toList 0 w (by simpa using h2) (by simpa using h3) honez;simp only[Nat.add_zero]at hst;by_cases h0:m*i.size=0
  ·rw[hz0 m (hmz h0)]at hst⊢;simp at hst;simp[Builtin.append_,run_underlying ht,run_underlying hx,sizeOf,typeInfo,hi,asInt,asIntOf,hw,hb,h1,hneg,h0,Addr.add_lit,hst]
  ·simp[Builtin.append_,run_underlying ht,run_underlying hx,sizeOf,typeInfo,zeroValue,hi,hz,asInt,asIntOf,hw,hb,h1,hneg,h0,Addr.add_lit,hst]
 ·have hn:¬(sLen+m<=sCap):=by omega
  have h63':¬(9223372036854775807<((sLen:Int)+(m:Int))):=by omega
  have h48':¬(281474976710656<Builtin.nextslicecap (sLen+m) sCap*i.bytes):=by omega
  rw[hz]at hz';cases hz';by_cases h0:m*i.size=0
  ·rw[hz0 m (hmz h0)];simp[Builtin.append_,run_underlying ht,run_underlying hx,sizeOf,typeInfo,zeroValue,hi,hz,asInt,asIntOf,hw,hb,hn,hneg,h0,h63',h48',Question.forced,h1,newRow,grownCap]
  ·simp[Builtin.append_,run_underlying ht,run_underlying hx,sizeOf,typeInfo,zeroValue,hi,hz,asInt,asIntOf,hw,hb,hn,hneg,h0,h63',h48',Question.forced,h1,newRow,grownCap]
   try (congr 2;apply Array.ext';simp[List.append_assoc])
theorem qqs{t t' ty e:TypeId}{k b:Nat}{z:List AV}{inf:TypeInfo}{y:AV}{c:Value}{rows:List (List AV)}(hu:P.underlying t=some (.slice e))(hinf:P.info? e=some inf)(hisz:inf.size=k)(hbb:inf.bytes=b)(hz:tzc P e=some z)
  (h:((asrc P t' k y).or (qpu P t' b z y))=some rows) (hzk:z.length=k) (hk0:0<k) (hx:Rel w β Rd y c) (hB:Bnd N y):∃news,App P t t' ty e inf c rows.length news w/\(∀r∈rows,r.length=k)/\(∀r∈rows,∀x∈r,x.free=true/\x.one=true)/\
  (∀r∈rows,∀x∈r,Bnd N x)/\∀(j:Nat) (x:AV) (u:Value),rows.flatten[j]? =some x->news[j]? =some u->Rel w β Rd x u:=by
 cases hs:asrc P t' k y with
 |some rows'=>
  rw[hs]at h;cases h;obtain⟨news,h1,h2⟩:=qjt hs hx hB;subst hisz;exact⟨news,App.ofSrc hu hinf h1,h2⟩
 |none=>
  rw[hs]at h;simp only[Option.none_or]at h;unfold qpu at h;split at h
  ·rename_i ki m;split at h
   ·rename_i hc;obtain⟨c1,c2,c3,c4⟩:=hc;cases h;obtain rfl:=qas hx;obtain⟨kx,hkx⟩:=Option.isSome_iff_exists.1 c1;have hkx:=qfs hkx;obtain⟨i,zv,hi,hzv,hzs,hp1,hp2⟩:=qi2 (w:=w) (β:=β) (Rd:=Rd) (N:=N) hz hzk hk0 m.toNat;obtain⟨i',zv',hi',hzv',hone,hzl⟩:=qbF hz;rw[hi]at hi';cases hi';rw[hinf]at hi;cases hi;rw[hzv]at hzv';cases hzv';obtain⟨m',rfl⟩:∃m':Nat,m=m':=⟨m.toNat,by omega⟩
    simp only[Int.toNat_natCast,List.length_replicate]at*;have hmem:∀r∈List.replicate m' z,r=z:=fun r hr=>(List.mem_replicate.1 hr).2;obtain⟨z1,z2,z3⟩:=qbD (w:=w) (β:=β) (Rd:=Rd) (N:=N) _ hone;rw[<-hzl]at z1 z3;refine⟨_,App.zero (ki:=ki) hu hkx hinf hzv (by rw[hzs,hisz]) (by rw[hisz];exact hk0) hone (by rw[hbb];exact c3) c4,fun r hr=>by rw[hmem r hr];exact hzk,fun r hr x hx=>by rw[hmem r hr]at hx;exact z1 x hx,fun r hr x hx=>by rw[hmem r hr]at hx;exact z3 x hx,fun j x u hx hu=>(hp2 j x u hx hu).1⟩
   ·cases h
  ·cases h
theorem qjr{a:Act}{o:Oper}(hS:S3 E W F Rd0 w β Rd Ow fr H a.tmps){t t':TypeId}{x y:Operand}{cs:Array Operand}{ts:Array TypeId}(hcs:cs.toList=[x,y])(hts:ts.toList=[t,t'])(ho:o.op= .call {callee:= .builtin .append,args:=cs,argTypes:=ts}){r:XR}(h:axappend P t t' (aeval fr x) (aeval fr y) fr H=some r):XOk P E W F Rd0 β H.length a o w fr r:=by
 obtain⟨x1,x2,x3⟩:=hS.eval rfl x;obtain⟨y1,y2,y3⟩:=hS.eval rfl y;obtain rfl:cs= #[x,y]:=by rw[<-Array.toList_inj,hcs]
 obtain rfl:ts= #[t,t']:=by rw[<-Array.toList_inj,hts]
 have hexec:∀{v:Value} {w':World},(Builtin.append_ #[t,t'] o.type #[a.eval x,a.eval y]).run P w= .ok v w'->(execOp a.eval o).run P w= .ok (.value v) w':=fun{v w'} hr=>by
  simp only[execOp,ho,resolve,invoke,builtin,Sem.run_bind];simp[hr,Result.andThen]
 unfold axappend at h;split at h
 ·rename_i e hte;have hu:=qa0 hte;split at h
  ·rename_i k b z hk hb hz;obtain⟨inf,hinf,hisz⟩:=qbV hk;have hbb:inf.bytes=b:=by simpa[tby,hinf]using hb
   split at h
   ·rename_i rows hsrc;split at h
    ·rename_i hzk;obtain⟨hzk,hk0⟩:=hzk
     obtain⟨news,hs,hrk,hf,hB,hrr⟩:=(qjW hsrc).elim (fun hsrc=>qqs (P:=P) (t:=t) (ty:=o.type) hu hinf hisz hbb hz hsrc hzk hk0 y1 y2) (fun hsrc=>by
      obtain⟨news,h1,h2⟩:=qfh (P:=P) hS hsrc y1
      exact⟨news,App.ofSrc (ty:=o.type) hu hinf (hisz▸h1.1),h2⟩)
     have hfl:=qin hrk;have hnl:news.length=rows.length*k:=by rw[hs.len,hisz]
     have hnews:Pw (Cell w β Rd H.length) rows.flatten news:=⟨by omega,fun j x u hx hu=>by
      obtain⟨r,hr1,hr2⟩:=qcj hx
      exact⟨hrr j x u hx hu,(hf r hr1 x hr2).2,hB r hr1 x hr2,(hf r hr1 x hr2).1⟩⟩
     have grow:∀(base:Option Addr) (n sc:Nat) (L:List AV) (olds:List Value),a.eval x= .slice base n sc->sc<n+rows.length->n+rows.length<=maxLen->(n+rows.length)*b<=140737488355328->Pw (Cell w β Rd H.length) L olds->(Builtin.firstCells k n (.slice base n sc)).run P w.drew= .ok olds.toArray w.drew->
       ∃c,n+rows.length<=c/\c<=maxLen/\qcK P E W F Rd0 β H.length a o w (.bx H.length 0 (n+rows.length) c k) fr (H++[L++rows.flatten++(List.replicate (c-(n+rows.length)) z).flatten]):=by
      intro base n sc L olds hx hg h63 hby hL hold;subst hisz;obtain⟨i2,zv,hi2,hzv,hzs,hzp⟩:=qi2 (w:=w) (β:=β) (Rd:=Rd) (N:=H.length) hz hzk hk0 (grownCap w (n+rows.length) sc e-(n+rows.length));rw[hinf]at hi2;cases hi2;have hrun:=hs.grow zv base n sc olds hzv hold hg (by simp only[maxLen]at h63;omega) (growslice_fits hg (by rw[hbb];exact hby));have hge:=grownCap_ge w (n+rows.length) sc e;have hcm:=grownCap_le_maxLen w (n+rows.length) sc e h63;refine⟨_,hge,hcm,_,_,_,bup β H.length w.heap.size,Rd,Ow,hexec (by rw[hx];exact hrun),.inl rfl,?_,fun i hi=>qc0 hi,by simp⟩;have hP:=(hL.app hnews).app hzp;have hPd:Pw (Cell w.drew β Rd H.length) (L++rows.flatten++(List.replicate (grownCap w (n+rows.length) sc e-(n+rows.length)) z).flatten) (olds++news++(Builtin.zeroCells zv.cells (grownCap w (n+rows.length) sc e-(n+rows.length))).toList):=⟨hP.1,fun j x u hx hu=>(hP.2 j x u hx hu).drew hS.hr.rds⟩
      have hfin:=hS.drew.newSl e hPd o.dst (n+rows.length) (grownCap w (n+rows.length) sc e) inf.size hge hcm
      have harr:(olds++news++(Builtin.zeroCells zv.cells (grownCap w (n+rows.length) sc e-(n+rows.length))).toList).toArray=(olds++news).toArray++Builtin.zeroCells zv.cells (grownCap w (n+rows.length) sc e-(n+rows.length)):=by
       apply Array.ext';simp
      rw[harr]at hfin;exact hfin
     unfold axapp at h;split at h
     ·rename_i heq;rw[heq]at x1;have hx:=qgX x1;split at h
      ·rename_i h0;cases h;refine⟨_,_,w,β,Rd,Ow,hexec (by rw[hx];exact hs.nothing h0),.inl rfl,hS.aput o.dst rfl .nil .nil rfl (fun g hg=>by cases hg),fun _ _=>rfl,Nat.le_refl _⟩
      ·rename_i h0;split at h
       ·rename_i hc;cases h;have:=grow none 0 0 [] [] hx (by omega) (by omega) (by rw[Nat.zero_add];exact hc.2) ⟨rfl,fun j x u hx=>by simp at hx⟩ (run_firstCells_none w.drew k 0 0 0);rw[Nat.zero_add]at this;obtain⟨c,e1,e2,e3⟩:=this;exact⟨c,e1,e2,e3⟩
       ·cases h
     ·rename_i i q n c k' heq;rw[heq]at x1;obtain⟨hx,hnc,hcm⟩:=qhQ x1;split at h
      ·rename_i l hl;split at h
       ·rename_i hc;obtain⟨rfl,hle,hfree⟩:=hc;have hfree':=List.all_eq_true.1 hfree;obtain⟨T,bs,c1,c2,c3⟩:=hS.hr.box i l hl;split at h
        ·rename_i hroom;split at h
         ·rename_i hle2;cases h;have hmul:(n+rows.length)*k'=n*k'+rows.length*k':=Nat.add_mul _ _ _
          have hst:=hS.store i l hl (q+n*k') rows.flatten news (by omega) (by omega) (fun j x u hx hu=>by
           obtain⟨r,hr1,hr2⟩:=qcj hx
           exact⟨hrr j x u hx hu,(hf r hr1 x hr2).2,hB r hr1 x hr2,fun g hg=>qdi (hf r hr1 x hr2).1 hg⟩) (qcA fun x hx=>by obtain⟨r,h1,h2⟩:=List.mem_flatten.1 hx;exact(hf r h1 x h2).1)
          subst hisz;have hrun:=hs.room (β i) q n c hroom (fun j hj=>by rw[qaX c1,zqM (by omega)];rfl) (fun j hj=>qfe c1 _);have hiN:i<H.length:=(zqC.1 hl).1;refine⟨_,_,_,β,Rd,Ow,hexec (by rw[hx];exact hrun),.inl rfl,hst.aput o.dst rfl (.bx i q _ c _ hroom hcm) (.bx _ _ _ _ _ (by simpa using hiN)) rfl (fun g hg=>by cases hg),fun _ _=>rfl,by simp⟩
         ·cases h
        ·rename_i hroom;split at h
         ·rename_i hc2;cases h
          have holds:Pw (Cell w β Rd H.length) ((l.drop q).take (n*k')) ((bs.toList.drop q).take (n*k')):=by
           refine⟨by rw[zqJ,zqJ,zqI,zqI,Array.length_toList,c2],fun j x u hx hu=>?_⟩;have hj:j<n*k':=by have:=(zqC.1 hx).1;rw[zqJ]at this;omega
           have hxm:=qak hx;rw[zqG hj,zqN]at hx hu;obtain⟨d1,d2,d3⟩:=c3 (q+j) x u hx (by rw[<-Array.getElem?_toList];exact hu);exact⟨d1,d2,hS.hr.bnd l (qak hl) x (qak hx),hfree' x hxm⟩
          have:=grow (some ⟨β i,q,none⟩) n c _ _ hx (by omega) hc2.1 hc2.2 holds (by
           refine run_firstCells_some w.drew k' n ⟨β i,q,none⟩ n c _ (by rw[zqJ,zqI,Array.length_toList,c2];omega) (fun j u hu=>?_);have hj:j<n*k':=by have:=(zqC.1 hu).1;rw[zqJ]at this;omega
           rw[zqG hj,zqN,Array.getElem?_toList]at hu;rw[Addr.add_mid];show w.cell? _=_
           rw[qaX c1,hu])
          obtain⟨c,e1,e2,e3⟩:=this;exact⟨c,e1,e2,e3⟩
         ·cases h
       ·cases h
      ·cases h
     ·cases h
    ·cases h
   ·cases h
  ·cases h
 ·cases h
theorem qpr{a:Act}{o:Oper}(hS:S3 E W F Rd0 w β Rd Ow fr H a.tmps){t:TypeId}{n:Nat}{parts:Array (Nat×Operand)}{r:XR}(ho:o.op= .buildSlice t n parts)(h:axlit P t n (parts.toList.map fun p=>(p.1,aeval fr p.2)) fr H=some r):XOk P E W F Rd0 β H.length a o w fr r:=by
 unfold axlit at h;split at h
 ·rename_i e he;have hu:=qa0 he;split at h
  ·rename_i z k hz hk;split at h
   ·rename_i hcond;obtain⟨hzk,hk0,hsm,hparts⟩:=hcond;rw[List.map_map]at hparts;cases hrw:arows k ((parts.toList.map fun p=>(p.1,aeval fr p.2)).map (·.2))with
    |none=>rw[hrw]at h;cases h
    |some rows=>
     simp only[hrw,Option.map_some,Option.some.injEq]at h;subst h;rw[List.map_map]at hrw;obtain⟨i1,i2,i3,i4,i5,i6⟩:=qhv hS parts.toList rows hrw;obtain⟨ie,zv,hie,hzv,hone,rfl⟩:=qbF hz;obtain⟨ie',hie',hsz⟩:=qbV hk;rw[hie]at hie';cases hie'
     have hlen:parts.toList.length=n:=by
      have:=congrArg List.length hparts;simpa using this
     have hzc:zv.cells.size=k:=by simpa using hzk
     have hrun:(Instr.buildSlice t n (parts.map fun(i,x)=>(i,a.eval x))).run P w= .ok (.slice (some ⟨w.heap.size,0,none⟩) n n) (w.alloc (.cells ((parts.toList.map fun p=>a.eval p.2).flatMap fun v=>v.cells.toList).toArray e)):=by
      rcases Nat.eq_zero_or_pos n with hn|hn
      ·subst hn
       have:parts= #[]:=by
        have:=List.eq_nil_of_length_eq_zero hlen;simpa using this
       subst this;have e1:((#[]:Array (Nat×Operand)).map fun(x:Nat×Operand)=>(x.1,a.eval x.2))= #[]:=by simp
       refine(congrArg (fun y=>(Instr.buildSlice t 0 y).run P w) e1).trans ?_;exact qjN hu hk w
      ·refine run_buildSlice w t e n _ _ ie zv hu hie hzv (by rw[hsz];omega) (by rw[hsz];exact Nat.ne_of_gt (Nat.mul_pos hn hk0)) ?_;rw[hsz];have hpz:=qfH parts.toList a.eval 0 (by rw[hlen,<-List.range_eq_range'];exact hparts)
       have hpl:(parts.map fun(i,x)=>(i,a.eval x)).toList=(((parts.toList.map fun p=>a.eval p.2).zipIdx 0).map fun x=>(x.2,x.1)):=by
        rw[<-hpz];simp
       rw[hpl];exact Great.fill_whole hk0 _ _ i5 (by simp[hlen])
     have hlr:rows.length=n:=by rw[i1,hlen]
     have hfl:((parts.toList.map fun p=>a.eval p.2).flatMap fun v=>v.cells.toList).length=n*k:=by
      have:∀l:List Value,(∀v∈l,v.cells.size=k)->(l.flatMap fun v=>v.cells.toList).length=l.length*k:=by
       intro l
       induction l with
       |nil=>simp
       |cons v l ih=>
        intro hh;rw[List.flatMap_cons,zqK,ih (fun v hv=>hh v (by simp[hv])),zqL,Nat.add_mul];have:=hh v (by simp);simp;omega
      rw[this _ i5];simp[hlen]
     have hpw:Pw (Cell w β Rd H.length) rows.flatten ((parts.toList.map fun p=>a.eval p.2).flatMap fun v=>v.cells.toList):=⟨by rw[hfl,qin i2,hlr],fun j x u hx hu=>by
      obtain⟨r,hr1,hr2⟩:=qcj hx
      exact⟨i6 j x u hx hu,(i3 r hr1 x hr2).2,i4 r hr1 x hr2,(i3 r hr1 x hr2).1⟩⟩
     have hnm:n<=maxLen:=by
      have:n<=n*k:=Nat.le_mul_of_pos_right _ hk0;unfold maxLen;omega
     have hfin:=hS.newSl e hpw o.dst n n k (Nat.le_refl _) hnm;exact⟨_,_,_,bup β H.length w.heap.size,Rd,Ow,by simp only[execOp,ho,Sem.run_bind];rw[hrun];rfl,.inl rfl,hfin,fun i hi=>qc0 hi,by simp⟩
   ·cases h
  ·cases h
 ·cases h
theorem qnC{a:Act}{o:Oper}(hS:S3 E W F Rd0 w β Rd Ow fr H a.tmps){t:TypeId}{l c:Operand}(ho:o.op= .makeSlice t l c){r:XR}(h:axmake P t (aeval fr l) (aeval fr c) fr H=some r):XOk P E W F Rd0 β H.length a o w fr r:=by
 obtain⟨hl1,_,_⟩:=hS.eval rfl l;obtain⟨hc1,_,_⟩:=hS.eval rfl c;unfold axmake at h;split at h
 ·rename_i e kl li kc ci he hle hce;rw[hle]at hl1;rw[hce]at hc1;have e1:=qas hl1;have e2:=qas hc1;split at h
  ·rename_i z k b hz hk hb;split at h
   ·rename_i hcond;obtain⟨hzk,hk0,h0,hlc,hby,h63⟩:=hcond;cases h;obtain⟨i,zv,hi,hzv,hone,rfl⟩:=qbF hz;obtain⟨i2,hi2,hsz⟩:=qbV hk;rw[hi]at hi2;cases hi2;have hbb:i.bytes=b:=by simpa[tby,hi]using hb
    have hzc:zv.cells.size=k:=by simpa using hzk
    obtain⟨z1,z2,z3⟩:=qbD (w:=w) (β:=β) (Rd:=Rd) (N:=H.length) _ hone;have hrun:=run_make (P:=P) w t e i zv (qa0 he) hi hzv kl kc li ci h0 hlc (by rw[hbb];omega) (by omega);rw[hsz]at hrun;obtain⟨i3,zv2,hi3,hzv2,hzs,hzp⟩:=qi2 (w:=w) (β:=β) (Rd:=Rd) (N:=H.length) hz hzk hk0 ci.toNat;rw[hi]at hi3;cases hi3;rw[hzv]at hzv2;cases hzv2
    have hcells:(madeCells zv.cells (ci.toNat*k))=(Builtin.zeroCells zv.cells ci.toNat).toList.toArray:=by
     apply Array.ext
     ·rw[size_madeCells];simp[Builtin.zeroCells,hzs]
     ·intro j h1 h2;simp[madeCells,Builtin.zeroCells]
    have hfin:=hS.newSl e hzp o.dst li.toNat ci.toNat k (by omega) (by simp only[maxLen];omega);rw[<-hcells]at hfin;exact⟨_,_,_,bup β H.length w.heap.size,Rd,Ow,by simp only[execOp,ho,Sem.run_bind];rw[e1,e2,hrun];rfl,.inl rfl,hfin,fun i hi=>qc0 hi,by simp⟩
   ·cases h
  ·cases h
 ·cases h
theorem qnk{v:Value}(h:cval0 v= .ptr none):v= .pointer none:=by
 unfold cval0 at h;split at h<;>first|rfl|cases h|(split at h<;>cases h)
theorem qnm{v:Value}(h:cval0 v= .nil):v= .slice none 0 0:=by
 unfold cval0 at h;split at h<;>first|rfl|cases h|(split at h<;>cases h)
theorem qli{a:Act}{o:Oper}(hS:S3 E W F Rd0 w β Rd Ow fr H a.tmps){t:TypeId}(ho:o.op= .alloc t){r:XR}(h:axalloc P t fr H=some r):XOk P E W F Rd0 β H.length a o w fr r:=by
 unfold axalloc at h;split at h
 ·rename_i e hz he;cases h;obtain⟨i,z,hi,hzv,hone,hzl⟩:=qbF hz
  obtain⟨x,y,hxy⟩:∃x y,z.cells= #[x,y]:=by
   have hl:z.cells.toList.length=2:=by have:=congrArg List.length hzl;simpa using this.symm
   generalize z.cells=c at hl
   cases c with
   |mk l=>
    match l,hl with
    |[x,y],_=>exact⟨x,y,rfl⟩
  rw[hxy]at hzl;simp at hzl;obtain rfl:=qnk hzl.1.symm;obtain rfl:=qnm hzl.2.symm
  have h1:=hS.newBox [.bl t,.bf e []] #[.pointer none,.slice none 0 0] t rfl (fun j x u hx hu=>by
   match j with
   |0=>simp at hx hu;subst hx;subst hu;exact⟨.bl t _ rfl,rfl,.bl t,fun g hg=>by cases hg⟩
   |1=>simp at hx hu;subst hx;subst hu;exact⟨.bf e [] _ ⟨rfl,.inl ⟨rfl,rfl⟩⟩ (fun g hg=>by cases hg),rfl,.bf e [],fun g hg=>by cases hg⟩
   |j+2=>simp at hx) (qmf hS) (fun t' ht'=>by simp at ht';subst ht';exact⟨_,rfl,rfl⟩)
  refine⟨.value (.pointer (some ⟨w.heap.size,0,none⟩)),.pointer (some ⟨w.heap.size,0,none⟩),w.alloc (.cells #[.pointer none,.slice none 0 0] t),bup β H.length w.heap.size,Rd,Ow,by simp[execOp,ho,Instr.alloc,zeroValue,typeInfo,hi,hzv,newVar,newRow,hxy],.inl rfl,h1.aput o.dst rfl ?_ (.ptr _ _ (by simp)) rfl (fun g hg=>by cases hg),fun i hi=>qc0 hi,by simp⟩;have:=Rel.ptr (w:=w.alloc (.cells #[.pointer none,.slice none 0 0] t)) (β:=bup β H.length w.heap.size) (Rd:=Rd) H.length 0;rw[qbP]at this;exact this
 ·cases h
theorem OSl.subFrom{w:World}{k n cap:Nat}{ao:Option Addr}{xs:List Value}(h:OSl w k (.slice ao n cap) n xs)(a:Nat)(ha:a<=n):
  OSl w k (.slice (if cap=a then ao else ao.map (·.add (a*k))) (n-a) (cap-a)) (n-a) (xs.drop (a*k)):=by
 obtain⟨h1,⟨he,rfl⟩|⟨g,q,cap',he,h2,h3,h4,h5,h6⟩⟩:=h
 ·cases he;obtain rfl:a=0:=by omega
  exact⟨by simpa using h1,.inl ⟨rfl,rfl⟩⟩
 ·cases he;refine⟨by rw[zqI,h1,Nat.sub_mul],.inr ?_⟩;by_cases hc:cap=a
  ·rw[if_pos hc];refine⟨g,q,cap-a,rfl,by omega,by omega,h4,fun j hj=>?_,fun j hj=>?_⟩
   ·rw[show n-a=0 by omega,Nat.zero_mul]at hj;omega
   ·rw[show cap-a=0 by omega,Nat.zero_mul]at hj;omega
  ·rw[if_neg hc];have hle:a*k<=n*k:=Nat.mul_le_mul_right _ ha;have hle2:n*k<=cap*k:=Nat.mul_le_mul_right _ h2;refine⟨g,q+a*k,cap-a,by simp[Addr.add_mid],by omega,by omega,h4,fun j hj=>?_,fun j hj=>?_⟩
   ·rw[Nat.sub_mul]at hj;rw[Nat.add_assoc,h5 (a*k+j) (by omega),zqN]
   ·rw[Nat.sub_mul]at hj;rw[Nat.add_assoc];exact h6 (a*k+j) (by omega)
theorem qpp{a:Act}{o:Oper}(hS:S3 E W F Rd0 w β Rd Ow fr H a.tmps){t:TypeId}{x:Operand}{lo:Option Operand}(ho:o.op= .slice t x lo none none){r:XR}(h:axsub P t fr H x (lo.map (aeval fr))=some r):XOk P E W F Rd0 β H.length a o w fr r:=by
 obtain⟨x1,x2,_⟩:=hS.eval rfl x;unfold axsub at h;split at h
 ·rename_i k rows heq;split at h
  ·rename_i hte;split at h
   ·rename_i b hb;split at h
    ·rename_i hbl;cases h;rw[heq]at x1 x2;obtain⟨Ow',hT,hO⟩:=hS.take rfl x (o.dst.map Hold.slot);rw[heq]at hO;obtain⟨c,hc⟩:=exz (a.eval x);rw[hc]at x1 hO;cases x1 with
     |sl _ _ _ _ xs hk hx hd hown hf hr=>
      obtain⟨hos,hsp⟩:=hown rfl;obtain⟨ao,cap,rfl,hle,hm⟩:=hos.shape;have hsub:=hos.subFrom b hbl;have hln:(rows.drop b).length=rows.length-b:=zqI;have hflat:(rows.drop b).flatten=rows.flatten.drop (b*k):=qfU hk b
      have hao:ao=none\/∃g q,ao=some ⟨g,q,none⟩:=by
       obtain⟨_,⟨he,_⟩|⟨g0,q0,cap0,he,_⟩⟩:=id hos
       ·simp only[Value.slice.injEq]at he;exact .inl he.1
       ·simp only[Value.slice.injEq]at he;exact .inr ⟨_,_,he.1⟩
      obtain⟨e,i,hu,hi2,his⟩:=qce hte;have hsz:(sizeOf e).run P w= .ok k w:=by simp[sizeOf,typeInfo,hi2,his]
      have hmul:b*k<=rows.length*k:=Nat.mul_le_mul_right _ hbl;have hmul2:rows.length*k<=cap*k:=Nat.mul_le_mul_right _ hle;have hbn:=qcI (P:=P) (hi:=none) (hi':=none) (qfg hS rfl lo) trivial hb (show abound none rows.length=some rows.length from rfl) hbl hle true
      have hrun:(Instr.sliceAt t (.slice ao rows.length cap) (lo.map a.eval) none none).run P w= .ok (.slice (if cap=b then ao else ao.map (·.add (b*k))) (rows.length-b) (cap-b)) w:=by
       simp only[Instr.sliceAt,Sem.run_bind,run_underlying hu,Result.andThen_ok,Instr.slice];simp[hbn,hsz]
      refine⟨_,_,w,β,Rd,Ow',?_,.inl rfl,hT.aput o.dst rfl (c:= .slice (if cap=b then ao else ao.map (·.add (b*k))) (rows.length-b) (cap-b)) ?_ ?_ rfl (fun g hg s hs=>?_),fun _ _=>rfl,by simp⟩
      ·simp only[execOp,ho,Sem.run_bind,hc,Option.map_none];rw[hrun];rfl
      ·refine .sl true k _ _ (xs.drop (b*k)) (fun r hr=>hk r (List.mem_of_mem_drop hr)) (by rw[hln];exact hsub.toR) (fun g q n' c' hv j hj=>?_) (fun _=>⟨by rw[hln];exact hsub,fun g q n' c' hv j h1 h2=>?_⟩) (fun r hr=>hf r (List.mem_of_mem_drop hr)) (fun j y u hy hu=>?_)
       ·rw[hln]at hj;have hne:cap≠b:=fun e=>by rw[show rows.length-b=0 by omega,Nat.zero_mul]at hj;omega
        rw[if_neg hne]at hv;rcases hao with rfl|⟨blk,off,rfl⟩
        ·simp at hv
        ·simp only[Option.map_some,Value.slice.injEq,Option.some.injEq]at hv;obtain⟨hv,rfl,rfl⟩:=hv
         ·simp[Addr.add_mid]at hv;obtain⟨rfl,rfl⟩:=hv;rw[Nat.sub_mul]at hj;rw[Nat.add_assoc];exact hd _ _ _ _ rfl _ (by omega)
       ·rw[hln]at h1
        have hne:cap≠b:=fun e=>by
         simp only[Value.slice.injEq]at hv;rw[<-hv.2.2,show cap-b=0 by omega,Nat.zero_mul]at h2;omega
        rw[if_neg hne]at hv;rcases hao with rfl|⟨blk,off,rfl⟩
        ·simp at hv
        ·simp only[Option.map_some,Value.slice.injEq,Option.some.injEq]at hv;obtain⟨hv,rfl,rfl⟩:=hv
         ·simp[Addr.add_mid]at hv;obtain⟨rfl,rfl⟩:=hv;rw[Nat.sub_mul]at h1 h2;rw[Nat.add_assoc];exact hsp _ _ _ _ rfl _ (by omega) (by omega)
       ·rw[hflat,zqN]at hy;rw[zqN]at hu;exact hr _ y u hy hu
      ·cases x2 with
       |sl _ _ _ hB=>exact .sl _ _ _ (fun r hr=>hB r (List.mem_of_mem_drop hr))
      ·rw[hs]at hO;refine hO g ?_;have hg:(Value.slice (if cap=b then ao else ao.map (·.add (b*k))) (rows.length-b) (cap-b)).ownBlock=some g:=hg;show(Value.slice ao rows.length cap).ownBlock=some g;rcases hao with rfl|⟨blk,off,rfl⟩
       ·split at hg<;>simp[Value.ownBlock]at hg
       ·split at hg
        ·exact hg
        ·simpa[Value.ownBlock,Addr.add_mid]using hg
    ·cases h
   ·cases h
  ·cases h
 ·cases h
theorem qgO{α:Type}{l:List α}{i:Nat}{x:α}(h:l[i]? =some x):i<l.length:=(zqC.1 h).1
section
variable {i p g:Nat}{l:List AV}{X X':Ob}{T:TypeId}{cs:Array Value}{v:Value}
theorem HR.ob(h:HR E w β Rd Ow H)(hi:H[i]? =some l)(hp:l[p]? =some (.ob X)):∃T cs v,w.heap[β i]? =some (.cells cs T (0,0))/\cs.size=l.length/\cs[p]? =some v/\X.M w β v/\(∀g,X.own v=some g->Ow g=some (.cell i p)/\(∀o,¬Rd g o)/\g<w.heap.size/\g≠β i):=by
 obtain⟨T,cs,hb,hs,hc⟩:=h.box i l hi;have hpl:=qgO hp;have hv:cs[p]? =some (cs[p]'(by omega)):=zqM _;obtain⟨r1,r2,r3⟩:=hc p _ _ hp hv;refine⟨T,cs,_,hb,hs,hv,?_⟩;cases r1 with
 |ob _ _ hM hd=>
  refine⟨hM,fun g hg=>⟨r3 g hg,hd g hg,h.ows g _ (r3 g hg),fun e=>?_⟩⟩;have h1:=r3 g hg;rw[e,(h.sep i (qgO hi)).1]at h1;cases h1
theorem HR.putOb(h:HR E w β Rd Ow H)(hi:H[i]? =some l)(hp:l[p]? =some (.ob X))(hb:w.heap[β i]? =some (.cells cs T (0,0)))(hv:cs[p]? =some v)(hg:X.own v=some g)(hw:qn1 g w w')(hX:X'.M w' β v)(hX2:X'.own v=some g)(hN:X'.N<=H.length):
  HR E w' β Rd Ow (H.set i (l.set p (.ob X'))):=by
 have hil:=qgO hi;have hpl:=qgO hp;obtain⟨T',cs',hb',hs',hc'⟩:=h.box i l hi;rw[hb]at hb';cases hb';have hOg:Ow g=some (.cell i p):=(hc' p _ v hp hv).2.2 g hg
 have hRg:∀o,¬Rd g o:=by
  have:=(hc' p _ v hp hv).1;cases this with
  |ob _ _ hM hd=>exact hd g hg
 have hne:∀b,Ow b=none->b≠g:=fun b hb e=>by rw[e,hOg]at hb;cases hb
 have hβ:∀j,j<H.length->w'.heap[β j]? =w.heap[β j]? :=fun j hj=>hw.heap _ (hne _ (h.sep j hj).1);have hR:∀g' o,Rd g' o->Rd g' o/\w'.cell? ⟨g',o,none⟩=w.cell? ⟨g',o,none⟩:=fun g' o hg'=>⟨hg',World.cell?_of_block (a:=⟨g',o,none⟩) (hw.heap g' (fun e=>hRg o (e▸hg')))⟩
 have hlen:(H.set i (l.set p (.ob X'))).length=H.length:=List.length_set ..
 have mv:∀(j q:Nat) (m:List AV) (x:AV) (u:Value),H[j]? =some m->m[q]? =some x->(j≠i\/q≠p)->(∀g',own0 x u=some g'->Ow g'=some (.cell j q))->Rel w β Rd x u->Rel w' β Rd x u:=fun j q m x u hj hq hjq ho hr=>
  hr.move (h.bnd m (qak hj) x (qak hq)) hR (fun g' hg'=>⟨hw.heap g' (fun e=>by
   have:=ho g' hg';rw[e,hOg]at this;cases this
   rcases hjq with h1|h1<;>exact h1 rfl),fun _ h=>h⟩) (Nat.le_of_eq hw.size.symm) (fun _ _=>rfl)
 refine⟨fun j l' hj=>?_,by rw[hlen];exact h.inj,by rw[hlen];exact h.sep,fun g' k hk=>by rw[hw.size];exact h.ows g' k hk,fun g' o hg'=>by rw[hw.size];exact h.rds g' o hg',fun m hm x hx=>?_,fun b hb2=>?_,fun j l' t hj h0=>?_⟩
 ·by_cases hji:j=i
  ·subst hji;rw[zqO hil]at hj;cases hj;refine⟨T,cs,(hβ j hil).trans hb,by simpa using hs',fun q x u hx hu=>?_⟩;by_cases hqp:q=p
   ·subst hqp;rw[zqO hpl]at hx;cases hx;rw[hv]at hu;cases hu
    exact⟨.ob X' v hX (fun g' hg'=>by rw[hX2]at hg';cases hg';exact hRg),rfl,fun g' hg'=>by
     have e:X'.own v=some g':=hg'
     rw[hX2]at e;cases e;exact hOg⟩
   ·rw[zqF (Ne.symm hqp)]at hx;obtain⟨r1,r2,r3⟩:=hc' q x u hx hu;exact⟨mv j q l x u hi hx (.inr hqp) r3 r1,r2,r3⟩
  ·rw[zqF (Ne.symm hji)]at hj;obtain⟨Tj,csj,d1,d2,d3⟩:=h.box j l' hj;refine⟨Tj,csj,(hβ j (qgO hj)).trans d1,d2,fun q x u hx hu=>?_⟩;obtain⟨r1,r2,r3⟩:=d3 q x u hx hu;exact⟨mv j q l' x u hj hx (.inl hji) r3 r1,r2,r3⟩
 ·rw[hlen];rcases List.mem_or_eq_of_mem_set hm with h1|rfl
  ·exact h.bnd m h1 x hx
  ·rcases List.mem_or_eq_of_mem_set hx with h2|rfl
   ·exact h.bnd l (qak hi) x h2
   ·exact .ob X' hN
 ·obtain⟨f1,f2,f3,f4⟩:=h.fix b hb2;exact⟨(hw.heap b (hne b f2)).trans f1,f2,by rw[hlen];exact f3,by rw[hw.size];exact f4⟩
 ·by_cases hji:j=i
  ·subst hji;rw[zqO hil]at hj;cases hj;by_cases hp0:p=0
   ·subst hp0;rw[zqO hpl]at h0;cases h0
   ·rw[zqF hp0]at h0;obtain⟨u',v',g1,g2⟩:=h.bld j l t hi h0;exact⟨u',v',(hβ j hil).trans g1,g2⟩
  ·rw[zqF (Ne.symm hji)]at hj;obtain⟨u',v',g1,g2⟩:=h.bld j l' t hj h0;exact⟨u',v',(hβ j (qgO hj)).trans g1,g2⟩
theorem S3.putOb(hS:S3 E W F Rd0 w β Rd Ow fr H tmps)(hi:H[i]? =some l)(hp:l[p]? =some (.ob X))(hb:w.heap[β i]? =some (.cells cs T (0,0)))(hv:cs[p]? =some v)(hg:X.own v=some g)(hw:qn1 g w w')(hX:X'.M w' β v)(hX2:X'.own v=some g)(hN:X'.N<=H.length):
  S3 E W F Rd0 w' β Rd Ow fr (H.set i (l.set p (.ob X'))) tmps:=by
 have h2:=hS.hr.putOb hi hp hb hv hg hw hX hX2 hN;obtain⟨T',cs',hb',hs',hc'⟩:=hS.hr.box i l hi;rw[hb]at hb';cases hb';have hOg:Ow g=some (.cell i p):=(hc' p _ v hp hv).2.2 g hg
 have hRg:∀o,¬Rd g o:=by
  have:=(hc' p _ v hp hv).1;cases this with
  |ob _ _ hM hd=>exact hd g hg
 have hlen:(H.set i (l.set p (.ob X'))).length=H.length:=List.length_set ..;have hR:∀g' o,Rd g' o->Rd g' o/\w'.cell? ⟨g',o,none⟩=w.cell? ⟨g',o,none⟩:=fun g' o hg'=>⟨hg',World.cell?_of_block (a:=⟨g',o,none⟩) (hw.heap g' (fun e=>hRg o (e▸hg')))⟩
 refine⟨h2,⟨hS.ff.len,fun t x u hx hu=>?_⟩,⟨hS.fo.lt,fun b hb=>?_,hS.fo.own,fun b j hb hj=>hS.fo.box b j hb (by rwa[hlen]at hj),hS.fo.rd,hw.os.trans hS.fo.os,hw.tape.trans hS.fo.tape,hw.output.trans hS.fo.output,by rw[hw.size];exact hS.fo.size,fun g' o hg'=>?_⟩,hS.ne⟩
 ·obtain⟨r1,r2,r3⟩:=hS.ff.rel t x u hx hu;rw[hlen];exact⟨r1.move r2 hR (fun g' hg'=>⟨hw.heap g' (fun e=>by have:=r3 g' hg';rw[e,hOg]at this;cases this),fun _ h=>h⟩) (Nat.le_of_eq hw.size.symm) (fun _ _=>rfl),r2,r3⟩
 ·exact(hw.heap b (fun e=>by have:=hS.fo.own b hb;rw[e,hOg]at this;cases this)).trans (hS.fo.same b hb)
 ·obtain⟨k1,k2⟩:=hS.fo.keep g' o hg';exact⟨k1,(hR g' o k1).2.trans k2⟩
end
theorem qpq{i p g:Nat}{P':Program}{k:TypeId}{kv:List (Int×Nat)}(h:axm H i p g=some (P',k,kv)):∃l X,H[i]? =some l/\l[p]? =some (.ob X)/\X.mp=some (P',k,g,kv):=by
 unfold axm at h;split at h
 ·rename_i l hl;split at h
  ·rename_i X hX;split at h
   ·rename_i P2 k2 g2 kv2 hmp;split at h
    ·rename_i hgg;cases h;subst hgg;exact⟨l,X,hl,hX,hmp⟩
    ·cases h
   ·cases h
  ·cases h
 ·cases h
theorem qdo{t k:TypeId}(h:qkx P t=some k):∃e,P.underlying t=some (.map k e)/\P.underlying k=some (.int .i64)/\∀w:World,(zeroValue e).run P w= .ok (.pointer none) w:=by
 unfold qkx at h;split at h
 ·rename_i k' e hu;split at h
  ·rename_i i hk hi;split at h
   ·rename_i hz;cases h;exact⟨e,hu,hk,fun w=>by simp[zeroValue,typeInfo,hi,hz]⟩
   ·cases h
  ·cases h
 ·cases h
theorem qko(hS:S3 E W F Rd0 w β Rd Ow fr H tmps){i p g:Nat}{P':Program}{k:TypeId}{kv:List (Int×Nat)}(h:axm H i p g=some (P',k,kv)):
  ∃l X T cs,H[i]? =some l/\l[p]? =some (.ob X)/\w.heap[β i]? =some (.cells cs T (0,0))/\cs[p]? =some (.map (some g))/\X.own (.map (some g))=some g/\kvOk kv/\mapM P' k kv w β (.map (some g))/\∀q∈kv,q.2<H.length:=by
 obtain⟨l,X,hl,hX,hmp⟩:=qpq h;obtain⟨T,cs,v,hb,hs,hv,hM,ho⟩:=hS.hr.ob hl hX;obtain⟨rfl,h2,h3,h4,h5⟩:=X.mpk _ _ _ _ hmp _ _ _ hM;have hB:=hS.hr.bnd l (qak hl) _ (qak hX);cases hB with
 |ob _ hN=>exact⟨l,X,T,cs,hl,hX,hb,hv,h2,h3,h4,fun q hq=>by have:=qmB hq;omega⟩
theorem qoD{kv:List (Int×Nat)}{n:Int}(h:∀q∈kv,q.2<N):Got w β Rd N (ptrA (kvAt kv n)) (ptrV β (kvAt kv n)):=by
 cases hc:kvAt kv n with
 |none=>exact⟨.ptr0,.ptr0,rfl⟩
 |some i=>exact⟨.ptr i 0,.ptr i 0 (h _ (qj2 hc)),rfl⟩
theorem qjS{i p g:Nat}{v:Value}(h:Rel w β Rd (.mh i p g) v):v= .map (some g):=by cases h;rfl
theorem qlh{a:Act}{o:Oper}(hS:S3 E W F Rd0 w β Rd Ow fr H a.tmps){t:TypeId}{x:Operand}(ho:o.op= .load t x){r:XR}(h:axmload P t fr H (aeval fr x)=some r):XOk P E W F Rd0 β H.length a o w fr r:=by
 obtain⟨x1,x2,x3⟩:=hS.eval rfl x;unfold axmload at h;split at h
 ·rename_i i p heq;rw[heq]at x1;have he:a.eval x= .pointer (some ⟨β i,p,none⟩):=qb4 x1;split at h
  ·rename_i l hl;split at h
   ·rename_i X hX;split at h
    ·rename_i P' k g kv hmp;split at h
     ·rename_i hrow;cases h;obtain⟨T,cs,v,hb,hs,hv,hM,ho2⟩:=hS.hr.ob hl hX;obtain⟨rfl,_⟩:=X.mpk _ _ _ _ hmp _ _ _ hM;have hc:w.cell? ⟨β i,p,none⟩=some (.map (some g)):=(qaX hb p).trans hv;refine qaK hS (c:= .map (some g)) ?_ ⟨.mh i p g,.mh i p g,rfl⟩;simp only[execOp,ho];rw[he];simp[Instr.loadAt,Instr.sureAddr,loadVar,qdb hrow,hc]
     ·cases h
    ·cases h
   ·cases h
  ·cases h
 ·cases h
theorem qnD{a:Act}{o:Oper}(hS:S3 E W F Rd0 w β Rd Ow fr H a.tmps){t:TypeId}{x y:Operand}{ok:Bool}(ho:o.op= .lookup t x y ok){r:XR}(h:axlook P t ok fr H (aeval fr x) (aeval fr y)=some r):XOk P E W F Rd0 β H.length a o w fr r:=by
 obtain⟨x1,x2,x3⟩:=hS.eval rfl x;obtain⟨y1,y2,y3⟩:=hS.eval rfl y;unfold axlook at h;split at h
 ·rename_i i p g n hx hy;rw[hx]at x1;rw[hy]at y1;have ex:=qjS x1;have ey:=qas y1;split at h
  ·rename_i P' k kv hm;split at h
   ·rename_i hc;obtain⟨rfl,ht,hn,rfl⟩:=hc;cases h;obtain⟨l,X,T,cs,hl,hX,hb,hv,hO,hk,hM,hN⟩:=qko hS hm;obtain⟨e,hu,hki,hz⟩:=qdo ht;have hrun:=qoR hM hki hu (hz w) n hn;have hg:=qoD (w:=w) (β:=β) (Rd:=Rd) (N:=H.length) (n:=n) hN;refine qaK hS (c:= .tuple #[ptrV β (kvAt kv n),.bool (kvAt kv n).isSome]) (by simp only[execOp,ho,ex,ey,Sem.run_bind];rw[hrun];rfl) ⟨.tup _ _ rfl (fun z hz=>?_) (fun j z u hz hu=>?_),.tup _ (fun z hz=>?_),rfl⟩
    ·simp at hz;rcases hz with rfl|rfl
     ·exact hg.free
     ·rfl
    ·match j with
     |0=>simp at hz hu;subst hz;subst hu;exact hg.rel
     |1=>simp at hz hu;subst hz;subst hu;exact .bool _
     |j+2=>simp at hz
    ·simp at hz;rcases hz with rfl|rfl
     ·exact hg.bnd
     ·exact .bool _
   ·cases h
  ·cases h
 ·cases h
theorem qnz{a:Act}{o:Oper}(hS:S3 E W F Rd0 w β Rd Ow fr H a.tmps){t:TypeId}{x y z:Operand}(ho:o.op= .mapUpdate t x y z){r:XR}(h:axmput P t fr H (aeval fr x) (aeval fr y) (aeval fr z)=some r):XOk P E W F Rd0 β H.length a o w fr r:=by
 obtain⟨x1,x2,x3⟩:=hS.eval rfl x;obtain⟨y1,y2,y3⟩:=hS.eval rfl y;obtain⟨z1,z2,z3⟩:=hS.eval rfl z;unfold axmput at h;split at h
 ·rename_i i p g n j hx hy hz;rw[hx]at x1;rw[hy]at y1;rw[hz]at z1 z2;have ex:=qjS x1;have ey:=qas y1;have ez:=qb4 z1;have hj:j<H.length:=by cases z2;assumption
  split at h
  ·rename_i P' k kv hm;split at h
   ·rename_i hc;obtain⟨rfl,ht,hn,hlen⟩:=hc;cases h;obtain⟨l,X,T,cs,hl,hX,hb,hv,hO,hk,hM,hN⟩:=qko hS hm;obtain⟨e,hu,hki,hz0⟩:=qdo ht;obtain⟨w',hrun,hw,hM'⟩:=qml hM hk hki hu hlen n hn j;have hgd:H.getD i []=l:=by simp[List.getD,hl]
    rw[hgd]
    have hS':=hS.putOb hl hX hb hv hO hw (X':=qoS P' k g (qh8 kv n j)) ⟨rfl,qoZ hk n j,hM'⟩ rfl (qpU fun q hq=>by
     rcases List.mem_append.1 hq with h1|h1
     ·exact hN q (List.mem_filter.1 h1).1
     ·simp at h1;subst h1;exact hj)
    exact⟨_,undef,w',β,Rd,Ow,by simp only[execOp,ho,ex,ey,ez,Sem.run_bind];rw[hrun];rfl,.inr ⟨rfl,rfl⟩,hS'.aput o.dst rfl (.raw _) (.raw _) rfl (fun g hg=>by cases hg),fun _ _=>rfl,by simp⟩
   ·cases h
  ·cases h
 ·cases h
theorem qnB{a:Act}{o:Oper}(hS:S3 E W F Rd0 w β Rd Ow fr H a.tmps){t k':TypeId}{x y:Operand}{cs:Array Operand}{ts:Array TypeId}(hcs:cs.toList=[x,y])(hts:ts.toList=[t,k'])(ho:o.op= .call {callee:= .builtin .delete,args:=cs,argTypes:=ts}){r:XR}(h:axmdel P t k' fr H (aeval fr x) (aeval fr y)=some r):XOk P E W F Rd0 β H.length a o w fr r:=by
 obtain⟨x1,x2,x3⟩:=hS.eval rfl x;obtain⟨y1,y2,y3⟩:=hS.eval rfl y;obtain rfl:cs= #[x,y]:=by rw[<-Array.toList_inj,hcs]
 obtain rfl:ts= #[t,k']:=by rw[<-Array.toList_inj,hts]
 unfold axmdel at h;split at h
 ·rename_i i p g n hx hy;rw[hx]at x1;rw[hy]at y1;have ex:=qjS x1;have ey:=qas y1;split at h
  ·rename_i P' k kv hm;split at h
   ·rename_i hc;obtain⟨rfl,ht,rfl,hn⟩:=hc;cases h;obtain⟨l,X,T,cs,hl,hX,hb,hv,hO,hk,hM,hN⟩:=qko hS hm;obtain⟨e,hu,hki,hz0⟩:=qdo ht;obtain⟨w',hrun,hw,hM'⟩:=map_drop hM hk hki hu n hn o.type;have hgd:H.getD i []=l:=by simp[List.getD,hl]
    rw[hgd];have hS':=hS.putOb hl hX hb hv hO hw (X':=qoS P' k' g (qec kv n)) ⟨rfl,qj0 hk n,hM'⟩ rfl (qpU fun q hq=>hN q (List.mem_filter.1 hq).1);exact⟨_,.tuple #[],w',β,Rd,Ow,by simp only[execOp,ho,resolve,invoke,builtin,Sem.run_bind];simp[ex,ey,hrun,Result.andThen],.inl rfl,hS'.aput o.dst rfl (.tup [] #[] rfl (by simp) (by simp)) (.tup _ (by simp)) rfl (fun g hg=>by cases hg),fun _ _=>rfl,by simp⟩
   ·cases h
  ·cases h
 ·cases h
theorem qnA{a:Act}{o:Oper}(hS:S3 E W F Rd0 w β Rd Ow fr H a.tmps){t:TypeId}{x:Operand}{cs:Array Operand}{ts:Array TypeId}(hcs:cs.toList=[x])(hts:ts.toList=[t])(ho:o.op= .call {callee:= .builtin .len,args:=cs,argTypes:=ts}){r:XR}(h:axmlen P t fr H (aeval fr x)=some r):XOk P E W F Rd0 β H.length a o w fr r:=by
 obtain⟨x1,x2,x3⟩:=hS.eval rfl x;obtain rfl:cs= #[x]:=by rw[<-Array.toList_inj,hcs]
 obtain rfl:ts= #[t]:=by rw[<-Array.toList_inj,hts]
 unfold axmlen at h;split at h
 ·rename_i i p g hx;rw[hx]at x1;have ex:=qjS x1;split at h
  ·rename_i P' k kv hm;split at h
   ·rename_i hc;obtain⟨rfl,ht⟩:=hc;cases h;obtain⟨l,X,T,cs,hl,hX,hb,hv,hO,hk,hM,hN⟩:=qko hS hm;obtain⟨e,hu,hki,hz0⟩:=qdo ht;have hrun:=qqO hM hu o.type;exact qaK hS (c:= .int .i64 kv.length) (by simp only[execOp,ho,resolve,invoke,builtin,Sem.run_bind];simp[ex,hrun,Result.andThen]) Got.int
   ·cases h
  ·cases h
 ·cases h
theorem qp4{a:Act}{o:Oper}(hS:S3 E W F Rd0 w β Rd Ow fr H a.tmps){r:XR}(h:abx P fr H o=some r):XOk P E W F Rd0 β H.length a o w fr r:=by
 unfold abx at h;split at h
 ·rename_i t x lo hi mx ho;split at h
  ·rename_i hn;simp only[Bool.and_eq_true,Option.isNone_iff_eq_none]at hn;obtain⟨rfl,rfl⟩:=hn;exact qpp hS ho h
  ·cases h
 ·rename_i s d x ho;exact qnF hS ho h
 ·rename_i t ho;exact qli hS ho h
 ·rename_i t l c ho;exact qnC hS ho h
 ·rename_i t n parts ho;exact qpr hS ho h
 ·rename_i t x ho;exact qlh hS ho h
 ·rename_i t x y ok ho;exact qnD hS ho h
 ·rename_i t x y z ho;exact qnz hS ho h
 ·rename_i c ho;obtain⟨cal,cs,ts⟩:=c;simp only at h;split at h
  ·rename_i e2 e3;exact qnB hS e2 e3 ho h
  ·rename_i e2 e3;exact qnA hS e2 e3 ho h
  ·rename_i e2 e3;exact qnE hS e2 e3 ho h
  ·rename_i e2 e3;exact qjr hS e2 e3 ho h
  ·cases h
 ·cases h
end
def qeN(all:Array Oper)(fr:List AV)(j:Nat):Option (Option Bool):=match(all[j]?).bind (·.dst)with
 |none=>some none
 |some d=>match fr[d]? with
  |none=>some none
  |some (.bool b)=>some (some b)
  |some (.raw (.tuple _))=>some none
  |_=>none
def qbb (all : Array Oper) (fr : List AV) (o : Oper) : Option Bool := match o.guard with
  | none => some true
  | some (j, want) => (qeN all fr j).map (· == some want)
def bargs(args:List AV):List AV->List AV
 |[.tup [x]]=>x::args
 |caps=>args++caps
theorem qix(args:List AV)(x:AV):bargs args [.tup [x]]=x::args:=rfl
theorem qny(args:List AV):bargs args []=args:=by simp[bargs]
theorem qnx(args:List AV)(p:Option (Nat×Nat))(l:List AV):bargs args (.ptr p::l)=args++ .ptr p::l:=by
 cases l<;>rfl
def acall(fr:List AV)(o:Oper):Option (FuncId×List AV):=match o.op with
 | .call c=>match c.callee with
  | .value x=>match aeval fr x with
   | .fn f caps=>some (f,bargs (c.args.toList.map fun y=>(aeval fr y).dis) caps)
   |_=>none
  |_=>none
 |_=>none
def qgl(x:Option (AV×List AV×Hp))(k:AV->List AV->Hp->Prop):Prop:=match x with
 |some (v,fr,H)=>k v fr H
 |none=>False
def qdA(b:Option Bool)(p q:Prop):Prop:=match b with
 |some true=>p
 |some false=>q
 |none=>False
def qdP(x:Option (FuncId×List AV))(k:FuncId->List AV->Prop)(q:Prop):Prop:=match x with
 |some (f,args)=>k f args
 |none=>q
@[congr] theorem qri {x y:Option (AV×List AV×Hp)} {k:AV->List AV->Hp->Prop} (h:x=y):qgl x k=qgl y k:=by rw[h]
@[congr] theorem qrs {x y:Option Bool} {p q:Prop} (h:x=y):qdA x p q=qdA y p q:=by rw[h]
@[congr] theorem qrv {x y:Option (FuncId×List AV)} {k:FuncId->List AV->Prop} {q:Prop} (h:x=y):qdP x k q=qdP y k q:=by rw[h]
theorem qgR(p q:Prop):qdA (some true) p q=p:=rfl
theorem qjv(p q:Prop):qdA (some false) p q=q:=rfl
theorem qdz(k:FuncId->List AV->Prop)(q:Prop):qdP none k q=q:=rfl
@[congr] theorem PX_congr {P:Program} {E:Env} {f:FuncId} {args args':List AV} {H H':Hp} {Q:AV->Hp->Prop} {R:Value->Hp->Prop} (h1:args=args') (h2:H=H'):PX P E f args H Q R=PX P E f args' H' Q R:=by rw[h1,h2]
@[congr] theorem PC_congr {P:Program} {E:Env} {f:FuncId} {args args':List AV} {H H':Hp} {Q:AV->Hp->Prop} (h1:args=args') (h2:H=H'):PC P E f args H Q=PC P E f args' H' Q:=by rw[h1,h2]
def preH(H H':Hp):Prop:=∃J,H'=H++J
def KP(p:Nat)(S:Nat->Prop)(H H':Hp):Prop:=match p with
 |0=>True
 |1=>preH H H'
 |_=>H.length<=H'.length/\∀i,S i->i<H.length->H'[i]? =H[i]?
def LA(S:Nat->Prop)(ρ:Operand->AV)(o:Oper):Prop:=match o.op with
 | .load _ y=>(match ρ y with
  | .ptr (some (i,_))=>S i
  |_=>True)
 |_=>True
def SA(S:Nat->Prop)(ρ:Operand->AV)(o:Oper):Prop:=match o.op with
 | .store _ y _=>(match ρ y with
  | .ptr (some (i,_))=>¬S i
  |_=>True)
 |_=>True
def LP(p:Nat)(S:Nat->Prop)(fr:List AV)(o:Oper):Prop:=match p with
 |2=>LA S (aeval fr) o/\SA S (aeval fr) o
 |_=>True
def VPC(P:Program)(E:Env)(p:Nat)(f:FuncId)(args:List AV)(H:Hp)(K:AV->Hp->Prop):Prop:=match p with
 |4=>∀J,PC P E f args (H++J) fun v H'=>H'=H++J/\K v H
 |_=>PC P E f args H fun v H'=>KP p E.S H H'/\K v H'
theorem VPC.pc{P:Program}{E:Env}{p:Nat}{f:FuncId}{args:List AV}{H:Hp}{K:AV->Hp->Prop}(h:VPC P E p f args H K):PC P E f args H K:=by
 unfold VPC at h;split at h
 ·have h:=h [];rw[List.append_nil]at h;exact h.mono fun v H' hq=>hq.1▸hq.2
 ·exact h.mono fun v H' hq=>hq.2
theorem VPC.mono{P:Program}{E:Env}{p:Nat}{f:FuncId}{args:List AV}{H:Hp}{K K':AV->Hp->Prop}(h:VPC P E p f args H K)(hk:∀v H',(p=4->H'=H)->(p≠4->KP p E.S H H')->K v H'->K' v H'):VPC P E p f args H K':=by
 unfold VPC at*;split at h
 ·exact fun J=>(h J).mono fun v H' hq=>⟨hq.1,hk v H (fun _=>rfl) (fun h=>absurd rfl h) hq.2⟩
 ·rename_i hp;exact h.mono fun v H' hq=>⟨hq.1,hk v H' (fun h=>absurd h hp) (fun _=>hq.1) hq.2⟩
def vop(P:Program)(E:Env)(B:List Tmp)(all:Array Oper)(p:Nat)(o:Oper)(K:List AV->Hp->Prop)(fr:List AV)(H:Hp):Prop:=
 qdA (qbb all fr o)
   (qdP (acall fr o) (fun f args=>VPC P E p f args H fun v H'=>K (aput fr o.dst v) H')
    (LP p E.S fr o/\qgl (aop P B fr H o) fun v fr' H'=>K (aput fr' o.dst v) H'))
   (K (aput fr o.dst (.raw undef)) H)
def qnw(x:Option XR)(fr:List AV)(d:Option Tmp)(K:List AV->Hp->Prop):Prop:=match x with
 |some (.one v fr' H')=>K (aput fr' d v) H'
 |some (.grow n f)=>∀c,n<=c->c<=maxLen->K (aput fr d (f c).1) (f c).2
 |none=>False
def vx(P:Program)(E:Env)(all:Array Oper)(o:Oper)(K:List AV->Hp->Prop)(fr:List AV)(H:Hp):Prop:=
 qdA (qbb all fr o) (qdP (acall fr o) (fun f args=>PX P E f args H (fun v H'=>KP 2 E.S H H'/\K (aput fr o.dst v) H') (E.pan (fr.take 8))) (qnw (abx P fr H o) fr o.dst K)) (K (aput fr o.dst (.raw undef)) H)
def qbT(o:Oper):Bool:=match o.op with
 | .call c=>(match c.callee with
  | .value _=>true
  |_=>false)
 |_=>false
def nopL:List Nat->List Oper->Bool
 |_,[]=>true
 |pu,o::r=>!(pu.headD 0==3&&qbT o)&&nopL pu.tail r
theorem qiD{fr:List AV}{o:Oper}{f:FuncId}{az:List AV}(h:acall fr o=some (f,az)):qbT o=true:=by
 unfold acall at h;unfold qbT;split at h
 ·rename_i c ho;split at h
  ·rename_i y hc;simp[hc]
  ·cases h
 ·cases h
def vcl(P:Program)(E:Env)(B:List Tmp)(all:Array Oper)(K:List AV->Hp->Prop):List Nat->List Oper->List AV->Hp->Prop
 |_,[],fr,H=>K fr H
 |pu,o::rest,fr,H=>if pu.headD 0=3 then vx P E all o (vcl P E B all K pu.tail rest) fr H else vop P E B all (pu.headD 0) o (vcl P E B all K pu.tail rest) fr H
@[congr] theorem vcl_congr {P:Program} {E:Env} {B:List Tmp} {all:Array Oper} {K:List AV->Hp->Prop} {pu:List Nat} {l:List Oper} {fr fr':List AV} {H H':Hp} (h1:fr=fr') (h2:H=H'):vcl P E B all K pu l fr H=vcl P E B all K pu l fr' H':=by rw[h1,h2]
section
variable {P:Program}{E:Env}{W:World}{F:Nat->Prop}{Rd0:Nat->Nat->Prop}{w w':World}{β β0 β':Nat->Nat}{Rd Rd':Nat->Nat->Prop}{Ow Ow':Nat->Option Hold}{fr fr':List AV}{H H':Hp}{tmps:Array Value}{N n:Nat}{ds:List Deferred}
theorem qdQ{all:Array Oper}{o:Oper}{b:Bool}(hS:S3 E W F Rd0 w β Rd Ow fr H tmps)(h:qbb all fr o=some b):Region.wanted o (yielded all tmps)=b:=by
 unfold qbb at h;unfold Region.wanted;split at h
 ·rename_i hg;cases h;simp[hg]
 ·rename_i j want hg;simp only[hg];cases hy:qeN all fr j with
  |none=>rw[hy]at h;cases h
  |some y=>
   rw[hy]at h
   have hyy:yielded all tmps j=y:=by
    unfold qeN at hy;unfold yielded;split at hy
    ·rename_i hd;cases hy;rw[hd];rfl
    ·rename_i d hd;rw[hd];show(match tmps[d]? with|some (.bool b)=>some b|_=>none)=y;split at hy
     ·rename_i hn;cases hy
      have:tmps[d]? =none:=by
       rw[List.getElem?_eq_none_iff]at hn;rw[Array.getElem?_eq_none_iff,<-hS.ff.len];exact hn
      rw[this]
     ·rename_i b' hb;cases hy;have hlt:d<tmps.size:=by rw[<-hS.ff.len];exact(zqC.1 hb).1
      have hu:tmps[d]? =some tmps[d]:=zqM hlt;have:=qbX (hS.ff.rel d _ _ hb hu).1;rw[hu,this]
     ·rename_i vs hb;cases hy;have hlt:d<tmps.size:=by rw[<-hS.ff.len];exact(zqC.1 hb).1
      have hu:tmps[d]? =some tmps[d]:=zqM hlt;have h1:=(hS.ff.rel d _ _ hb hu).1;have:tmps[d]= .tuple vs:=by generalize tmps[d]=z at h1;cases h1;rfl
      rw[hu,this]
     ·cases hy
   rw[hyy];simpa using h
theorem qkl{o:Oper}{f:FuncId}{args:List AV}{a:Act}(hS:S3 E W F Rd0 w β Rd Ow fr H a.tmps)(hc:acall fr o=some (f,args))(hB:hasB P f=true):∃cargs:Array Value,(execOp a.eval o).run P w= .ok (.enter f cargs) w/\cargs.size=args.length/\
  ∀(t:Nat) x u,args[t]? =some x->cargs[t]? =some u->Rel w β Rd x u/\Bnd H.length x/\x.free=true:=by
 unfold acall at hc;split at hc
 ·rename_i cc ho;obtain⟨callee,cargs,ats⟩:=cc;simp only at hc;split at hc
  ·rename_i x;split at hc
   ·rename_i f' caps hf;cases hc;have hfe:=(hS.eval rfl x).1;rw[hf]at hfe;have hbd:=(hS.eval rfl x).2.1;rw[hf]at hbd
    have run:∀(u v:Array Value),a.eval x= .func (.func f) u v->(execOp a.eval o).run P w= .ok (.enter f (u++(cargs.map a.eval)++v)) w:=fun u v hxe=>by
     unfold hasB at hB;split at hB
     ·rename_i fn hfn;simp only[Bool.and_eq_true,Bool.not_eq_true']at hB;obtain⟨hb1,hb2⟩:=hB;have hb3:fn.body.isNone=false:=by cases hq:fn.body<;>simp_all
      simp[execOp,ho,resolve,Deferred.ofValue,invoke,hxe,callFunc,hfn,hb2,hb3];split
      ·rename_i he;rw[he]at hb2;simp at hb2
      ·split
       ·rename_i he;rw[he]at hb3;simp at hb3
       ·rfl
     ·cases hB
    have arg:∀(t:Nat) x u,(cargs.toList.map fun y=>(aeval fr y).dis)[t]? =some x->(cargs.map a.eval)[t]? =some u->Rel w β Rd x u/\Bnd H.length x/\x.free=true:=fun t x u hx hu=>by
     rw[List.getElem?_map,Array.getElem?_toList]at hx;rw[Array.getElem?_map]at hu;cases hy:cargs[t]? with
     |none=>rw[hy]at hx;cases hx
     |some y=>
      rw[hy]at hx hu;cases hx;cases hu;obtain⟨r1,r2,r3⟩:=hS.eval rfl y;exact⟨r1.dis,r2.dis,r3⟩
    rcases rel_fn hfe with⟨vs,hxe,hl,hff,hnt,hrr⟩|⟨y,u,rfl,hxe,hyf,hyr⟩
    ·have hrun:=run _ _ hxe;rw[Array.empty_append]at hrun;refine⟨_,hrun,?_⟩
     have hbr:bargs (cargs.toList.map fun y=>(aeval fr y).dis) caps=(cargs.toList.map fun y=>(aeval fr y).dis)++caps\/∃z,caps=[.tup [z]]:=by
      unfold bargs;split
      ·exact .inr ⟨_,rfl⟩
      ·exact .inl rfl
     rcases hbr with hbr|⟨z,rfl⟩
     ·rw[hbr];refine⟨by simp[hl],fun t x u hx hu=>?_⟩;by_cases ht:t<cargs.size
      ·rw[zqA (by simpa using ht)]at hx;rw[Array.getElem?_append_left (by simpa using ht)]at hu;exact arg t x u hx hu
      ·rw[zqB (by simpa using Nat.le_of_not_lt ht)]at hx;rw[Array.getElem?_append_right (by simpa using Nat.le_of_not_lt ht)]at hu;simp only[List.length_map,Array.length_toList,Array.size_map]at hx hu;cases hbd with
       |fn _ _ hbd=>exact⟨hrr _ x u hx hu,hbd x (qak hx),hff x (qak hx)⟩
     ·exact absurd rfl (hnt z)
    ·have hrun:=run _ _ hxe;rw[Array.append_empty]at hrun;refine⟨_,hrun,by simp[bargs,Nat.add_comm],fun t x v hx hv=>?_⟩;rw[qix]at hx;cases t with
     |zero=>
      rw[Array.getElem?_append_left (by simp)]at hv;simp at hx hv;subst hx;subst hv;cases hbd with
      |fn _ _ hbd=>
       have:=hbd (.tup [y]) (by simp);cases this with
       |tup _ h2=>exact⟨hyr,h2 y (by simp),hyf⟩
     |succ t=>
      refine arg t x v (by simpa using hx) ?_;rw[Array.getElem?_append_right (by simp)]at hv;simpa using hv
   ·cases hc
  ·cases hc
 ·cases hc
theorem qpN{B:List Tmp}{all:Array Oper}{p:Nat}{o:Oper}{K:List AV->Hp->Prop}{KC:Act->World->Prop}{Q:Exit->Act->World->Prop}{a:Act}(hs:St ds E W F Rd0 β0 n fr H a w)(hv:vop P E B all p o K fr H)
  (hKK:∀fr H a w,St ds E W F Rd0 β0 n fr H a w->K fr H->KC a w):if Region.wanted o (yielded all a.tmps)then o.wp P a w KC Q else KC (a.put o.dst undef) w:=by
 obtain⟨hd,hn,β,Rd,Ow,hS,hβ⟩:=hs;unfold vop at hv;unfold qdA at hv;split at hv
 ·rename_i hw;rw[if_pos (qdQ hS hw)];unfold qdP at hv;split at hv
  ·rename_i f args hc;obtain⟨hB,hpc⟩:=hv.pc;obtain⟨cargs,hrun,hl,hargs⟩:=qkl hS hc hB;unfold Oper.wp;rw[hrun];simp only[Oper.upon];refine(hpc w β Rd (fun g=>cells (Ow g)) _ (qj5 hS.hr) qgN hl hargs).mono ?_;rintro e w' ⟨c,v,H',β',Rd',Ow',rfl,hQ,hp⟩;refine hKK _ _ _ _ ⟨?_,Nat.le_trans hn hp.len,β',Rd',_,qgb hS hp o.dst,fun i hi=>(hp.old i (by omega)).trans (hβ i hi)⟩ hQ;cases o.dst<;>exact hd
  ·replace hv:=hv.2;unfold qgl at hv;split at hv
   ·rename_i v fr' H' ha;obtain⟨r,c,w',β',Rd',Ow',hrun,hr,hS',hβ',hlen⟩:=aop_ok hS ha;have hfin:St ds E W F Rd0 β0 n (aput fr' o.dst v) H' (a.put o.dst c) w':=⟨by cases o.dst<;>exact hd,Nat.le_trans hn hlen,β',Rd',Ow',hS',fun i hi=>(hβ' i (by omega)).trans (hβ i hi)⟩
    unfold Oper.wp;rw[hrun];rcases hr with rfl|⟨rfl,rfl⟩
    ·exact hKK _ _ _ _ hfin hv
    ·exact hKK _ _ _ _ hfin hv
   ·exact hv.elim
 ·rename_i hw;rw[if_neg (by rw[qdQ hS hw];simp)];refine hKK _ _ _ _ ⟨by cases o.dst<;>exact hd,hn,β,Rd,Ow,hS.aput o.dst rfl (.raw _) (.raw _) rfl (fun g hg=>by cases hg),hβ⟩ hv
 ·exact hv.elim
theorem vx_ok{all:Array Oper}{o:Oper}{K:List AV->Hp->Prop}{KC:Act->World->Prop}{Q:Exit->Act->World->Prop}{a:Act}(hs:St ds E W F Rd0 β0 n fr H a w)(hv:vx P E all o K fr H)
  (hKK:∀fr H a w,St ds E W F Rd0 β0 n fr H a w->K fr H->KC a w) (hP:qbT o=false\/∀c H' w',St ds E W F Rd0 β0 n fr H' a w'->E.pan (fr.take 8) c H'->Q (.panic [{v:=c,recovered:=false}]) a w'):if Region.wanted o (yielded all a.tmps)then o.wp P a w KC Q else KC (a.put o.dst undef) w:=by
 obtain⟨hd,hn,β,Rd,Ow,hS,hβ⟩:=hs;unfold vx at hv;unfold qdA at hv;split at hv
 ·rename_i hw;rw[if_pos (qdQ hS hw)]
  have key:∀(v:AV) (fr':List AV) (H':Hp),qcK P E W F Rd0 β H.length a o w v fr' H'->K (aput fr' o.dst v) H'->o.wp P a w KC Q:=fun v fr' H' hst hk=>by
   obtain⟨r,c,w',β',Rd',Ow',hrun,hr,hS',hβ',hlen⟩:=hst;have hfin:St ds E W F Rd0 β0 n (aput fr' o.dst v) H' (a.put o.dst c) w':=⟨by cases o.dst<;>exact hd,Nat.le_trans hn hlen,β',Rd',Ow',hS',fun i hi=>(hβ' i (by omega)).trans (hβ i hi)⟩
   unfold Oper.wp;rw[hrun];rcases hr with rfl|⟨rfl,rfl⟩
   ·exact hKK _ _ _ _ hfin hk
   ·exact hKK _ _ _ _ hfin hk
  unfold qdP at hv;split at hv
  ·rename_i f args hc;obtain⟨hB,hpc⟩:=hv;obtain⟨cargs,hrun,hl,hargs⟩:=qkl hS hc hB;unfold Oper.wp;rw[hrun];simp only[Oper.upon];refine(hpc w β Rd (fun g=>cells (Ow g)) _ (qj5 hS.hr) qgN hl hargs).mono ?_;rintro e w' (⟨c,v,H',β',Rd',Ow',rfl,hQ,hp⟩|⟨c,H',β',Rd',Ow',rfl,hQ,hp⟩)
   ·refine hKK _ _ _ _ ⟨?_,Nat.le_trans hn hp.len,β',Rd',_,qgb hS hp o.dst,fun i hi=>(hp.old i (by omega)).trans (hβ i hi)⟩ hQ.2;cases o.dst<;>exact hd
   ·rcases hP with hP|hP
    ·rw[qiD hc]at hP;cases hP
    ·have h3:=qgb hS hp none;exact hP c H' w' ⟨hd,Nat.le_trans hn hp.len,β',Rd',_,h3,fun i hi=>(hp.old i (by omega)).trans (hβ i hi)⟩ hQ
  unfold qnw at hv;split at hv
  ·rename_i v fr' H' ha;exact key v fr' H' (qp4 hS ha) hv
  ·rename_i m f ha;obtain⟨c,h1,h2,h3⟩:=qp4 hS ha;exact key _ _ _ h3 (hv c h1 h2)
  ·exact hv.elim
 ·rename_i hw;rw[if_neg (by rw[qdQ hS hw];simp)];refine hKK _ _ _ _ ⟨by cases o.dst<;>exact hd,hn,β,Rd,Ow,hS.aput o.dst rfl (.raw _) (.raw _) rfl (fun g hg=>by cases hg),hβ⟩ hv
 ·exact hv.elim
theorem qet{B:List Tmp}{all:Array Oper}{K:List AV->Hp->Prop}{KC:Exit->Act->World->Prop}(hK:∀fr H a w,St ds E W F Rd0 β0 n fr H a w->K fr H->KC .normal a w):
  ∀(l:List Oper) (pu:List Nat) (fr:List AV) (H:Hp) (a:Act) (w:World),(nopL pu l=true\/∀fr H a w c,St ds E W F Rd0 β0 n fr H a w->E.pan (fr.take 8) c H->KC (.panic [{v:=c,recovered:=false}]) a w)->St ds E W F Rd0 β0 n fr H a w->vcl P E B all K pu l fr H->wpList P all KC l a w
 |[],pu,fr,H,a,w,_,hs,hv=>hK fr H a w hs (by rw[vcl]at hv;exact hv)
 |o::rest,pu,fr,H,a,w,hp,hs,hv=>by
  have hp2:nopL pu.tail rest=true\/∀fr H a w c,St ds E W F Rd0 β0 n fr H a w->E.pan (fr.take 8) c H->KC (.panic [{v:=c,recovered:=false}]) a w:=hp.imp (fun h=>by unfold nopL at h;rw[Bool.and_eq_true]at h;exact h.2) id;rw[vcl]at hv;split at hv
  ·rename_i h3
   exact wpList_step fun KK hKK=>vx_ok hs hv (fun fr H a w hs' hk=>hKK _ _ (qet hK rest _ fr H a w hp2 hs' hk)) (hp.imp (fun h=>by
    unfold nopL at h;rw[Bool.and_eq_true,h3]at h
    simpa using h.1) fun h c H' w' hs'=>h _ _ _ _ c hs')
  ·exact wpList_step fun KK hKK=>qpN hs hv fun fr H a w hs' hk=>hKK _ _ (qet hK rest _ fr H a w hp2 hs' hk)
end
end Go.Proofs.YtnnhdehmlkkfjaaGreatDoor
