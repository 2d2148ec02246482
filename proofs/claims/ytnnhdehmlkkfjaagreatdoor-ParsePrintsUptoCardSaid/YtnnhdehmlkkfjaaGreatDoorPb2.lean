/- Part 2 of the texts below the law. -/
import Derived.Test.YtnnhdehmlkkfjaaGreatDoorPb1
import Derived.Great.BuildSlice
import Derived.Laws.StructEq
import Derived.Great.FillDense
import Derived.Laws.Small
import Derived.Lib.FrozenHead
set_option maxRecDepth 100000
set_option maxHeartbeats 16000000
set_option linter.unusedVariables false
set_option linter.unusedSimpArgs false
namespace Go.Proofs.YtnnhdehmlkkfjaaGreatDoor
open Go Go.RowKit
structure Ob where
 N:Nat
 M:World->(Nat->Nat)->Value->Prop
 own:Value->Option Nat
 keep:∀(w w':World) (β β':Nat->Nat) (v:Value),M w β v->(∀g,own v=some g->w'.heap[g]? =w.heap[g]?)->(∀i,i<N->β' i=β i)->M w' β' v
 one:∀(w:World) (β:Nat->Nat) (v:Value),M w β v->v.oneCell'=true
 mp:Option (Program×TypeId×Nat×List (Int×Nat)):=none
 mpk:∀(P:Program) (k:TypeId) (g:Nat) (kv:List (Int×Nat)),mp=some (P,k,g,kv)->∀(w:World) (β:Nat->Nat) (v:Value),M w β v->v= .map (some g)/\own v=some g/\kvOk kv/\mapM P k kv w β v/\kvN kv<=N:=by intro _ _ _ _ h;cases h
def ownM:Value->Option Nat
 | .map o=>o
 |_=>none
def qoS(P:Program)(k:TypeId)(g:Nat)(kv:List (Int×Nat)):Ob where
 N:=kvN kv
 M:=fun w β v=>v= .map (some g)/\kvOk kv/\mapM P k kv w β v
 own:=ownM
 keep:=fun w w' β β' v ⟨hv,hk,hm⟩ hg hβ=>by
  subst hv;exact⟨rfl,hk,qmm hm (hg g rfl) hβ⟩
 one:=fun w β v ⟨hv,_⟩=>by subst hv;rfl
 mp:=some (P,k,g,kv)
 mpk:=fun P' k' g' kv' h w β v ⟨hv,hk,hm⟩=>by
  cases h;exact⟨hv,by rw[hv];rfl,hk,hm,Nat.le_refl _⟩
inductive AV where
 |int (k:IntKind) (n:Int)
 |bool (b:Bool)
 |str (s:List UInt8)
 |ptr (p:Option (Nat×Nat))
 |elt (cells:List AV)
 |sl (own:Bool) (k:Nat) (rows:List (List AV))
 |ex (k:Nat) (cells:List Value)
 |nil
 |bx (i o n c k:Nat)
 |bl (t:TypeId)
 |bf (e:TypeId) (l:List UInt8)
 |ob (X:Ob)
 |mh (i p g:Nat)
 |agg (cells:List AV)
 |tup (vs:List AV)
 |fn (f:FuncId) (caps:List AV)
 |raw (v:Value)
instance:Inhabited AV:=⟨.nil⟩
def AV.free:AV->Bool
 | .sl own _ _=>!own
 | .ex _ _=>false
 | .bl _=>false
 | .bf _ _=>false
 | .ob _=>false
 |_=>true
def AV.one:AV->Bool
 | .agg _| .tup _=>false
 | .raw v=>v.oneCell'
 |_=>true
def AV.dis:AV->AV
 | .sl _ k r=> .sl false k r
 |x=>x
def own0:AV->Value->Option Nat
 | .sl true _ _,v=>v.ownBlock
 | .ex _ _,v=>v.ownBlock
 | .bf _ _,v=>v.ownBlock
 | .ob X,v=>X.own v
 |_,_=>none
inductive Bnd (N:Nat):AV->Prop
 |int (k n):Bnd N (.int k n)
 |bool (b):Bnd N (.bool b)
 |str (s):Bnd N (.str s)
 |ptr0:Bnd N (.ptr none)
 |ptr (i o) (h:i<N):Bnd N (.ptr (some (i,o)))
 |elt (l) (h:∀x∈l,Bnd N x):Bnd N (.elt l)
 |sl (b k r) (h:∀l∈r,∀x∈l,Bnd N x):Bnd N (.sl b k r)
 |ex (k l):Bnd N (.ex k l)
 |nil:Bnd N .nil
 |bx (i o n c k) (h:i<N):Bnd N (.bx i o n c k)
 |bl (t):Bnd N (.bl t)
 |bf (e l):Bnd N (.bf e l)
 |ob (X) (h:X.N<=N):Bnd N (.ob X)
 |mh (i p g):Bnd N (.mh i p g)
 |agg (l) (h:∀x∈l,Bnd N x):Bnd N (.agg l)
 |tup (l) (h:∀x∈l,Bnd N x):Bnd N (.tup l)
 |fn (f l) (h:∀x∈l,Bnd N x):Bnd N (.fn f l)
 |raw (v):Bnd N (.raw v)
theorem Bnd.mono{N M:Nat}(hNM:N<=M){x:AV}(h:Bnd N x):Bnd M x:=by
 induction h with
 |int|bool|str|ptr0|ex|nil|raw|bl|bf|mh=>constructor
 |ob X h=>exact .ob X (by omega)
 |ptr i o h=>exact .ptr i o (by omega)
 |bx i o n c k h=>exact .bx i o n c k (by omega)
 |elt l _ ih=>exact .elt l ih
 |sl b k r _ ih=>exact .sl b k r ih
 |agg l _ ih=>exact .agg l ih
 |tup l _ ih=>exact .tup l ih
 |fn f l _ ih=>exact .fn f l ih
theorem Bnd.dis{N:Nat}{x:AV}(h:Bnd N x):Bnd N x.dis:=by
 cases h with
 |sl b k r h=>exact .sl _ k r h
 |_=>first|assumption|(constructor<;>assumption)
def qc3(l:List UInt8):List Value:=l.map fun b=> .int .u8 (b.toNat:Int)
theorem qd5{w w':World}{e:TypeId}{v:Value}{n:Nat}{xs:List Value}(h:w.ownsRowF 0 e 1 v n xs)(hb:∀g,v.ownBlock=some g->w'.heap[g]? =w.heap[g]?):w'.ownsRowF 0 e 1 v n xs:=by
 obtain⟨h1,h2⟩:=h;refine⟨h1,h2.imp id fun h2=>?_⟩;obtain⟨g,cap,cur,fz,rfl,a1,a2,a3⟩:=h2;exact⟨g,cap,cur,fz,rfl,a1,(hb g rfl).trans a2,a3⟩
theorem qox{w:World}{e:TypeId}{v:Value}{n:Nat}{xs:List Value}(h:w.ownsRowF 0 e 1 v n xs):v.oneCell'=true:=by
 obtain⟨h1,⟨rfl,_⟩|⟨g,cap,cur,fz,rfl,_⟩⟩:=h<;>rfl
inductive Rel (w:World) (β:Nat->Nat) (Rd:Nat->Nat->Prop):AV->Value->Prop
 |int (k n):Rel w β Rd (.int k n) (.int k n)
 |bool (b):Rel w β Rd (.bool b) (.bool b)
 |str (s:ByteArray) (l:List UInt8) (h:s.data.toList=l) (hm:s.size<=maxLen):Rel w β Rd (.str l) (.string s)
 |ptr0:Rel w β Rd (.ptr none) (.pointer none)
 |ptr (i o):Rel w β Rd (.ptr (some (i,o))) (.pointer (some ⟨β i,o,none⟩))
 |elt (cells:List AV) (g o:Nat) (us:List Value) (hl:us.length=cells.length) (hc:∀j,j<us.length->Rd g (o+j)/\w.cell? ⟨g,o+j,none⟩=us[j]?)
   (hf:∀x∈cells,x.free=true/\x.one=true) (hr:∀(j:Nat) (x:AV) (u:Value),cells[j]? =some x->us[j]? =some u->Rel w β Rd x u):Rel w β Rd (.elt cells) (.pointer (some ⟨g,o,none⟩))
 |nil:Rel w β Rd .nil (.slice none 0 0)
 |bx (i o n c k) (h:n<=c) (hm:c<=maxLen):Rel w β Rd (.bx i o n c k) (.slice (some ⟨β i,o,none⟩) n c)
 |bl (t:TypeId) (v:Value) (h:v.oneCell'=true):Rel w β Rd (.bl t) v
 |bf (e:TypeId) (l:List UInt8) (v:Value) (h:w.ownsRowF 0 e 1 v l.length (qc3 l)) (hd:∀g,v.ownBlock=some g->∀o,¬Rd g o):Rel w β Rd (.bf e l) v
 |ob (X:Ob) (v:Value) (h:X.M w β v) (hd:∀g,X.own v=some g->∀o,¬Rd g o):Rel w β Rd (.ob X) v
 |mh (i p g):Rel w β Rd (.mh i p g) (.map (some g))
 |sl (own:Bool) (k:Nat) (rows:List (List AV)) (v:Value) (xs:List Value) (hk:∀r∈rows,r.length=k) (hx:RSl w k v rows.length xs)
   (hd:∀g o n c,v= .slice (some ⟨g,o,none⟩) n c->∀j,j<rows.length*k->Rd g (o+j))
   (ho:own=true->OSl w k v rows.length xs/\∀g o n c,v= .slice (some ⟨g,o,none⟩) n c->∀j,rows.length*k<=j->j<c*k->¬Rd g (o+j))
   (hf:∀r∈rows,∀x∈r,x.free=true/\x.one=true) (hr:∀(j:Nat) (x:AV) (u:Value),rows.flatten[j]? =some x->xs[j]? =some u->Rel w β Rd x u):Rel w β Rd (.sl own k rows) v
 |ex (k:Nat) (cells:List Value) (n:Nat) (v:Value) (h:OSl w k v n cells) (hd:∀g,v.ownBlock=some g->∀o,¬Rd g o) (hs:∃g,v= .slice (some ⟨g,0,none⟩) n n):Rel w β Rd (.ex k cells) v
 |agg (cells:List AV) (vs:Array Value) (hl:vs.size=cells.length) (hf:∀x∈cells,x.free=true/\x.one=true)
   (hr:∀(j:Nat) (x:AV) (u:Value),cells[j]? =some x->vs[j]? =some u->Rel w β Rd x u):Rel w β Rd (.agg cells) (.agg vs)
 |tup (cells:List AV) (vs:Array Value) (hl:vs.size=cells.length) (hf:∀x∈cells,x.free=true)
   (hr:∀(j:Nat) (x:AV) (u:Value),cells[j]? =some x->vs[j]? =some u->Rel w β Rd x u):Rel w β Rd (.tup cells) (.tuple vs)
 |fn (f:FuncId) (caps:List AV) (vs:Array Value) (hl:vs.size=caps.length) (hf:∀x∈caps,x.free=true)
   (hr:∀(j:Nat) (x:AV) (u:Value),caps[j]? =some x->vs[j]? =some u->Rel w β Rd x u) (hn:∀x,caps≠[.tup [x]]):Rel w β Rd (.fn f caps) (.func (.func f) #[] vs)
 |bm (f:FuncId) (x:AV) (u:Value) (hf:x.free=true) (hr:Rel w β Rd x u):Rel w β Rd (.fn f [.tup [x]]) (.func (.func f) #[u] #[])
 |raw (v):Rel w β Rd (.raw v) v
theorem qaw{x:AV}(h:x.free=true)(v:Value):own0 x v=none:=by
 cases x with
 |sl own k r=>cases own<;>simp_all [AV.free,own0]
 |ex k l=>simp[AV.free]at h
 |bf e l=>simp[AV.free]at h
 |ob X=>simp[AV.free]at h
 |_=>rfl
section
variable {w w':World}{β β':Nat->Nat}{Rd Rd':Nat->Nat->Prop}
theorem qak{α:Type}{l:List α}{j:Nat}{x:α}(h:l[j]? =some x):x∈l:=zqH h
theorem qcj{l:List (List AV)}{j:Nat}{x:AV}(h:l.flatten[j]? =some x):∃r∈l,x∈r:=List.mem_flatten.1 (qak h)
theorem Rel.move{N:Nat}{x:AV}{v:Value}(h:Rel w β Rd x v)(hB:Bnd N x)
  (hR:∀g o,Rd g o->Rd' g o/\w'.cell? ⟨g,o,none⟩=w.cell? ⟨g,o,none⟩)
  (hO:∀g,own0 x v=some g->w'.heap[g]? =w.heap[g]? /\∀o,Rd' g o->Rd g o) (hs:w.heap.size<=w'.heap.size) (hβ:∀i,i<N->β' i=β i):Rel w' β' Rd' x v:=by
 induction h with
 |int|bool|ptr0|nil|raw|mh=>constructor
 |str s l h hm=>exact .str s l h hm
 |ptr i o=>
  cases hB with
  |ptr _ _ hi=>rw[<-hβ i hi];exact .ptr i o
 |bx i o n c k h hm=>
  cases hB with
  |bx _ _ _ _ _ hi=>rw[<-hβ i hi];exact .bx i o n c k h hm
 |elt cells g o us hl hc hf hr ih=>
  cases hB with
  |elt _ hB=>
   refine .elt cells g o us hl (fun j hj=>?_) hf (fun j x u hx hu=>ih j x u hx hu (hB x (qak hx)) (fun g hg=>?_))
   ·obtain⟨h1,h2⟩:=hc j hj;exact⟨(hR _ _ h1).1,(hR _ _ h1).2.trans h2⟩
   ·rw[qaw (hf x (qak hx)).1]at hg;cases hg
 |sl own k rows v xs hk hx hd ho hf hr ih=>
  cases hB with
  |sl _ _ _ hB=>
   refine .sl own k rows v xs hk ?_ (fun g o n c hv j hj=>(hR _ _ (hd g o n c hv j hj)).1) (fun hown=>?_) hf (fun j x u hx hu=>?_)
   ·obtain⟨h1,ao,c,hv,h2,h3,h4⟩:=hx;refine⟨h1,ao,c,hv,h2,h3,fun hn=>?_⟩;obtain⟨g,o,rfl,h5⟩:=h4 hn;exact⟨g,o,rfl,fun j hj=>(hR _ _ (hd g o _ c hv j hj)).2.trans (h5 j hj)⟩
   ·subst hown;obtain⟨h1,h2⟩:=ho rfl;refine⟨h1.frame fun g hg _=>(hO g hg).1,fun g o n c hv j h3 h4 h5=>h2 g o n c hv j h3 h4 ((hO g ?_).2 _ h5)⟩;rw[hv];rfl
   ·obtain⟨r,hr1,hr2⟩:=qcj hx;exact ih j x u hx hu (hB r hr1 x hr2) (fun g hg=>by rw[qaw (hf r hr1 x hr2).1]at hg;cases hg)
 |ex k cells n v h hd hs=>exact .ex k cells n v (h.frame fun g hg _=>(hO g hg).1) (fun g hg o hr=>hd g hg o ((hO g hg).2 o hr)) hs
 |bl t v h=>exact .bl t v h
 |bf e l v h hd=>exact .bf e l v (qd5 h fun g hg=>(hO g hg).1) (fun g hg o hr=>hd g hg o ((hO g hg).2 o hr))
 |ob X v h hd=>
  cases hB with
  |ob _ hX=>exact .ob X v (X.keep _ _ _ _ _ h (fun g hg=>(hO g hg).1) (fun i hi=>hβ i (by omega))) (fun g hg o hr=>hd g hg o ((hO g hg).2 o hr))
 |agg cells vs hl hf hr ih=>
  cases hB with
  |agg _ hB=>exact .agg cells vs hl hf (fun j x u hx hu=>ih j x u hx hu (hB x (qak hx)) (fun g hg=>by rw[qaw (hf x (qak hx)).1]at hg;cases hg))
 |tup cells vs hl hf hr ih=>
  cases hB with
  |tup _ hB=>exact .tup cells vs hl hf (fun j x u hx hu=>ih j x u hx hu (hB x (qak hx)) (fun g hg=>by rw[qaw (hf x (qak hx))]at hg;cases hg))
 |fn f cells vs hl hf hr hn ih=>
  cases hB with
  |fn _ _ hB=>exact .fn f cells vs hl hf (fun j x u hx hu=>ih j x u hx hu (hB x (qak hx)) (fun g hg=>by rw[qaw (hf x (qak hx))]at hg;cases hg)) hn
 |bm f x u hf hr ih=>
  cases hB with
  |fn _ _ hB=>
   have h2:=hB (.tup [x]) (by simp);cases h2 with
   |tup _ h2=>exact .bm f x u hf (ih (h2 x (by simp)) (fun g hg=>by rw[qaw hf]at hg;cases hg))
theorem Rel.dis{x:AV}{v:Value}(h:Rel w β Rd x v):Rel w β Rd x.dis v:=by
 cases h with
 |sl own k rows _ xs hk hx hd ho hf hr=>exact .sl false k rows v xs hk hx hd (fun h=>by cases h) hf hr
 |int k n=>exact .int k n
 |bool b=>exact .bool b
 |str s l h hm=>exact .str s l h hm
 |ptr0=>exact .ptr0
 |ptr i o=>exact .ptr i o
 |elt cells g o us hl hc hf hr=>exact .elt cells g o us hl hc hf hr
 |nil=>exact .nil
 |bx i o n c k h hm=>exact .bx i o n c k h hm
 |ex k cells n _ h hd hs=>exact .ex k cells n v h hd hs
 |bl t _ h=>exact .bl t v h
 |bf e l _ h hd=>exact .bf e l v h hd
 |ob X _ h hd=>exact .ob X v h hd
 |mh i p g=>exact .mh i p g
 |agg cells vs hl hf hr=>exact .agg cells vs hl hf hr
 |tup cells vs hl hf hr=>exact .tup cells vs hl hf hr
 |fn f caps vs hl hf hr hn=>exact .fn f caps vs hl hf hr hn
 |bm f x u hf hr=>exact .bm f x u hf hr
 |raw=>exact .raw v
theorem Rel.oneCell{x:AV}{v:Value}(h:Rel w β Rd x v)(h1:x.one=true):v.oneCell'=true:=by
 cases h with
 |int|bool|str|ptr0|ptr|elt|nil|fn|bm|bx|mh=>rfl
 |sl own k rows _ xs hk hx=>obtain⟨_,ao,c,rfl,_⟩:=hx;rfl
 |ex k cells n _ h=>obtain⟨ao,c,rfl,_⟩:=h.shape;rfl
 |bl t _ h=>exact h
 |bf e l _ h=>exact qox h
 |ob X _ h=>exact X.one _ _ _ h
 |agg=>simp[AV.one]at h1
 |tup=>simp[AV.one]at h1
 |raw=>simpa[AV.one]using h1
end
abbrev Hp:=List (List AV)
structure Env where
 w0:World
 Fix:Nat->Prop
 S:Nat->Prop:=fun _=>True
 pan:List AV->Value->Hp->Prop:=fun _ _ _=>False
inductive Hold where
 |slot (t:Nat)
 |cell (i j:Nat)
structure HR (E:Env) (w:World) (β:Nat->Nat) (Rd:Nat->Nat->Prop) (Ow:Nat->Option Hold) (H:Hp):Prop where
 box:∀(i:Nat) l,H[i]? =some l->∃T cs,w.heap[β i]? =some (.cells cs T (0,0))/\cs.size=l.length/\
  ∀(j:Nat) x u,l[j]? =some x->cs[j]? =some u->Rel w β Rd x u/\x.one=true/\∀g,own0 x u=some g->Ow g=some (.cell i j)
 inj:∀i j,i<H.length->j<H.length->β i=β j->i=j
 sep:∀i,i<H.length->Ow (β i)=none/\∀o,¬Rd (β i) o
 ows:∀g h,Ow g=some h->g<w.heap.size
 rds:∀g o,Rd g o->g<w.heap.size
 bnd:∀l∈H,∀x∈l,Bnd H.length x
 fix:∀b,E.Fix b->w.heap[b]? =E.w0.heap[b]? /\Ow b=none/\(∀i,i<H.length->β i≠b)/\b<w.heap.size
 bld:∀(i:Nat) l t,H[i]? =some l->l[0]? =some (.bl t)->∃u v,w.heap[β i]? =some (.cells #[u,v] t (0,0))/\(u= .pointer none\/u= .pointer (some ⟨β i,0,none⟩))
structure FR (w:World) (β:Nat->Nat) (Rd:Nat->Nat->Prop) (Ow:Nat->Option Hold) (N:Nat) (fr:List AV) (tmps:Array Value):Prop where
 len:fr.length=tmps.size
 rel:∀(t:Nat) x u,fr[t]? =some x->tmps[t]? =some u->Rel w β Rd x u/\Bnd N x/\∀g,own0 x u=some g->Ow g=some (.slot t)
structure FO (W:World) (F:Nat->Prop) (Rd0:Nat->Nat->Prop) (w:World) (β:Nat->Nat) (Rd:Nat->Nat->Prop) (Ow:Nat->Option Hold) (N:Nat):Prop where
 lt:∀b,F b->b<W.heap.size
 same:∀b,F b->w.heap[b]? =W.heap[b]?
 own:∀b,F b->Ow b=none
 box:∀b i,F b->i<N->β i≠b
 rd:∀b o,F b->Rd b o->Rd0 b o
 os:w.os=W.os
 tape:w.tape=W.tape
 output:w.output=W.output
 size:W.heap.size<=w.heap.size
 keep:∀g o,Rd0 g o->Rd g o/\w.cell? ⟨g,o,none⟩=W.cell? ⟨g,o,none⟩
structure S3 (E:Env) (W:World) (F:Nat->Prop) (Rd0:Nat->Nat->Prop) (w:World) (β:Nat->Nat) (Rd:Nat->Nat->Prop) (Ow:Nat->Option Hold) (fr:List AV) (H:Hp) (tmps:Array Value):Prop where
 hr:HR E w β Rd Ow H
 ff:FR w β Rd Ow H.length fr tmps
 fo:FO W F Rd0 w β Rd Ow H.length
 ne:∀x∈fr,x.dis.free=true
def upd(Ow:Nat->Option Hold)(g:Nat)(h:Option Hold):Nat->Option Hold:=fun b=>if b=g then h else Ow b
theorem qdR(Ow:Nat->Option Hold)(g:Nat)(h:Option Hold):upd Ow g h g=h:=by simp[upd]
theorem qa7{Ow:Nat->Option Hold}{g b:Nat}{h:Option Hold}(hb:b≠g):upd Ow g h b=Ow b:=by simp[upd,hb]
def aput(fr:List AV)(d:Option Tmp)(v:AV):List AV:=match d with
 |some t=>fr.set t v
 |none=>fr
section
variable {E:Env}{W:World}{F:Nat->Prop}{Rd0:Nat->Nat->Prop}{w w':World}{β β':Nat->Nat}{Rd Rd':Nat->Nat->Prop}{Ow Ow':Nat->Option Hold}{fr:List AV}{H:Hp}{tmps:Array Value}
theorem S3.put(h:S3 E W F Rd0 w β Rd Ow fr H tmps)(d:Nat){v:AV}{c:Value}(hv:Rel w β Rd v c)(hb:Bnd H.length v)(hn:v.dis.free=true)(ho:∀g,own0 v c=some g->Ow g=some (.slot d)):
  S3 E W F Rd0 w β Rd Ow (fr.set d v) H (tmps.setIfInBounds d c):=by
 refine⟨h.hr,⟨by simp[h.ff.len],fun t x u hx hu=>?_⟩,h.fo,fun x hx=>?_⟩
 ·by_cases ht:d=t
  ·subst ht;have hl:d<fr.length:=by have:=(zqC.1 hx).1;simpa using this
   have hl2:d<tmps.size:=h.ff.len▸hl;rw[zqO hl]at hx;rw[Array.getElem?_setIfInBounds_self_of_lt hl2]at hu;cases hx;cases hu;exact⟨hv,hb,ho⟩
  ·rw[zqF ht]at hx;rw[Array.getElem?_setIfInBounds_ne ht]at hu;exact h.ff.rel t x u hx hu
 ·rcases List.mem_or_eq_of_mem_set hx with h1|h1
  ·exact h.ne x h1
  ·rw[h1];exact hn
theorem S3.aput(h:S3 E W F Rd0 w β Rd Ow fr H tmps)(d:Option Tmp){a:Act}(ha:a.tmps=tmps){v:AV}{c:Value}(hv:Rel w β Rd v c)(hb:Bnd H.length v)(hn:v.dis.free=true)(ho:∀g,own0 v c=some g->∀t,d=some t->Ow g=some (.slot t)):
  S3 E W F Rd0 w β Rd Ow (aput fr d v) H (a.put d c).tmps:=by
 subst ha;cases d with
 |none=>exact h
 |some t=>exact h.put t hv hb hn (fun g hg=>ho g hg t rfl)
theorem S3.letgo(h:S3 E W F Rd0 w β Rd Ow fr H tmps)(s:Nat){v:AV}(hv:fr[s]? =some v):S3 E W F Rd0 w β Rd Ow (fr.set s v.dis) H tmps:=by
 refine⟨h.hr,⟨by simp[h.ff.len],fun t x u hx hu=>?_⟩,h.fo,fun x hx=>?_⟩
 ·by_cases ht:s=t
  ·subst ht;have hl:s<fr.length:=(zqC.1 hv).1;rw[zqO hl]at hx;cases hx;obtain⟨h1,h2,h3⟩:=h.ff.rel s v u hv hu;refine⟨h1.dis,h2.dis,fun g hg=>?_⟩;rw[qaw (h.ne v (qak hv))]at hg;cases hg
  ·rw[zqF ht]at hx;exact h.ff.rel t x u hx hu
 ·rcases List.mem_or_eq_of_mem_set hx with h1|h1
  ·exact h.ne x h1
  ·rw[h1];have:=h.ne v (qak hv);cases v<;>simp_all [AV.dis,AV.free]
theorem S3.relabel(h:S3 E W F Rd0 w β Rd Ow fr H tmps){g:Nat}{k:Hold}(hg:Ow g=some k)(k':Option Hold)
  (hs:∀(t:Nat) x u,fr[t]? =some x->tmps[t]? =some u->own0 x u≠some g)
  (hc:∀(i j:Nat) l x u T cs,H[i]? =some l->l[j]? =some x->w.heap[β i]? =some (.cells cs T (0,0))->cs[j]? =some u->own0 x u≠some g):
  S3 E W F Rd0 w β Rd (upd Ow g k') fr H tmps:=by
 have hlt:g<w.heap.size:=h.hr.ows g k hg;refine⟨⟨fun i l hl=>?_,h.hr.inj,fun i hi=>⟨?_,(h.hr.sep i hi).2⟩,fun b k2 hb=>?_,h.hr.rds,h.hr.bnd,fun b hb=>?_,h.hr.bld⟩,⟨h.ff.len,fun t x u hx hu=>?_⟩,⟨h.fo.lt,h.fo.same,fun b hb=>?_,h.fo.box,h.fo.rd,h.fo.os,h.fo.tape,h.fo.output,h.fo.size,h.fo.keep⟩,h.ne⟩
 ·obtain⟨T,cs,h1,h2,h3⟩:=h.hr.box i l hl;refine⟨T,cs,h1,h2,fun j x u hx hu=>?_⟩;obtain⟨r1,r2,r3⟩:=h3 j x u hx hu;refine⟨r1,r2,fun b hb=>?_⟩;rw[qa7 (fun e=>hc i j l x u T cs hl hx h1 hu (by rw[hb,e]))];exact r3 b hb
 ·have:=(h.hr.sep i hi).1;rw[qa7 (fun e=>by rw[e,hg]at this;cases this)];exact this
 ·by_cases hbg:b=g
  ·rw[hbg];exact hlt
  ·rw[qa7 hbg]at hb;exact h.hr.ows b k2 hb
 ·obtain⟨f1,f2,f3,f4⟩:=h.hr.fix b hb;refine⟨f1,?_,f3,f4⟩;rw[qa7 (fun e=>by rw[e,hg]at f2;cases f2)];exact f2
 ·obtain⟨r1,r2,r3⟩:=h.ff.rel t x u hx hu;refine⟨r1,r2,fun b hb=>?_⟩;rw[qa7 (fun e=>hs t x u hx hu (by rw[hb,e]))];exact r3 b hb
 ·have:=h.fo.own b hb;rw[qa7 (fun e=>by rw[e,hg]at this;cases this)];exact this
theorem S3.claim(h:S3 E W F Rd0 w β Rd Ow fr H tmps){g:Nat}(hg:Ow g=none)(k':Hold)(hlt:g<w.heap.size)(hbox:∀i,i<H.length->β i≠g)(hF:¬F g)(hE:¬E.Fix g):
  S3 E W F Rd0 w β Rd (upd Ow g (some k')) fr H tmps:=by
 refine⟨⟨fun i l hl=>?_,h.hr.inj,fun i hi=>⟨?_,(h.hr.sep i hi).2⟩,fun b k2 hb=>?_,h.hr.rds,h.hr.bnd,fun b hb=>?_,h.hr.bld⟩,⟨h.ff.len,fun t x u hx hu=>?_⟩,⟨h.fo.lt,h.fo.same,fun b hb=>?_,h.fo.box,h.fo.rd,h.fo.os,h.fo.tape,h.fo.output,h.fo.size,h.fo.keep⟩,h.ne⟩
 ·obtain⟨T,cs,h1,h2,h3⟩:=h.hr.box i l hl;refine⟨T,cs,h1,h2,fun j x u hx hu=>?_⟩;obtain⟨r1,r2,r3⟩:=h3 j x u hx hu;refine⟨r1,r2,fun b hb=>?_⟩;have:=r3 b hb;rw[qa7 (fun e=>by rw[e,hg]at this;cases this)];exact this
 ·rw[qa7 (hbox i hi)];exact(h.hr.sep i hi).1
 ·by_cases hbg:b=g
  ·rw[hbg];exact hlt
  ·rw[qa7 hbg]at hb;exact h.hr.ows b k2 hb
 ·obtain⟨f1,f2,f3,f4⟩:=h.hr.fix b hb;have hne:b≠g:=fun e=>hE (e▸hb);exact⟨f1,by rw[qa7 hne];exact f2,f3,f4⟩
 ·obtain⟨r1,r2,r3⟩:=h.ff.rel t x u hx hu;refine⟨r1,r2,fun b hb=>?_⟩;have:=r3 b hb;rw[qa7 (fun e=>by rw[e,hg]at this;cases this)];exact this
 ·have hne:b≠g:=fun e=>hF (e▸hb);rw[qa7 hne];exact h.fo.own b hb
theorem S3.moveG(h:S3 E W F Rd0 w β Rd Ow fr H tmps)(G:Nat->Prop)(hG:∀b,G b->∃k,Ow b=some k)
  (hgs:∀(t:Nat) x u g,fr[t]? =some x->tmps[t]? =some u->own0 x u=some g->¬G g)
  (hgc:∀(i j:Nat) l x u T cs g,H[i]? =some l->l[j]? =some x->w.heap[β i]? =some (.cells cs T (0,0))->cs[j]? =some u->own0 x u=some g->¬G g)
  (hR:∀g o,Rd g o->Rd' g o/\w'.cell? ⟨g,o,none⟩=w.cell? ⟨g,o,none⟩)
  (hO:∀b,b<w.heap.size->¬G b->w'.heap[b]? =w.heap[b]? /\∀o,Rd' b o->Rd b o)
  (hr:∀g o,Rd' g o->g<w'.heap.size) (hs:w.heap.size<=w'.heap.size)
  (hos:w'.os=w.os) (htape:w'.tape=w.tape) (hout:w'.output=w.output):S3 E W F Rd0 w' β Rd' Ow fr H tmps:=by
 have hno:∀b,Ow b=none->¬G b:=fun b hb hg=>by obtain⟨k,hk⟩:=hG b hg;rw[hb]at hk;cases hk
 refine⟨⟨fun i l hl=>?_,h.hr.inj,fun i hi=>⟨(h.hr.sep i hi).1,fun o ho=>?_⟩,fun g k hg=>Nat.lt_of_lt_of_le (h.hr.ows g k hg) hs,hr,h.hr.bnd,fun b hb=>?_,fun i l t hl h0=>(by
   obtain⟨u,v,g1,g2⟩:=h.hr.bld i l t hl h0
   exact⟨u,v,(hO _ (blk_lt0 g1) (hno _ (h.hr.sep i (zqC.1 hl).1).1)).1.trans g1,g2⟩)⟩,⟨h.ff.len,fun t x u hx hu=>?_⟩,
  ⟨h.fo.lt,fun b hb=>?_,h.fo.own,h.fo.box,fun b o hb ho=>?_,hos.trans h.fo.os,htape.trans h.fo.tape,hout.trans h.fo.output,Nat.le_trans h.fo.size hs,fun g o ho=>?_⟩,h.ne⟩
 ·obtain⟨T,cs,h1,h2,h3⟩:=h.hr.box i l hl;have hi:i<H.length:=(zqC.1 hl).1;refine⟨T,cs,(hO _ (blk_lt0 h1) (hno _ (h.hr.sep i hi).1)).1.trans h1,h2,fun j x u hx hu=>?_⟩;obtain⟨r1,r2,r3⟩:=h3 j x u hx hu;exact⟨r1.move (h.hr.bnd l (qak hl) x (qak hx)) hR (fun g hg=>hO g (h.hr.ows g _ (r3 g hg)) (hgc i j l x u T cs g hl hx h1 hu hg)) hs (fun _ _=>rfl),r2,r3⟩
 ·obtain⟨l,hl⟩:∃l,H[i]? =some l:=⟨_,zqD hi⟩
  obtain⟨T,cs,h1,_⟩:=h.hr.box i l hl;exact(h.hr.sep i hi).2 o ((hO _ (blk_lt0 h1) (hno _ (h.hr.sep i hi).1)).2 o ho)
 ·obtain⟨f1,f2,f3,f4⟩:=h.hr.fix b hb;exact⟨(hO b f4 (hno b f2)).1.trans f1,f2,f3,Nat.lt_of_lt_of_le f4 hs⟩
 ·obtain⟨r1,r2,r3⟩:=h.ff.rel t x u hx hu;exact⟨r1.move r2 hR (fun g hg=>hO g (h.hr.ows g _ (r3 g hg)) (hgs t x u g hx hu hg)) hs (fun _ _=>rfl),r2,r3⟩
 ·exact(hO b (Nat.lt_of_lt_of_le (h.fo.lt b hb) h.fo.size) (hno b (h.fo.own b hb))).1.trans (h.fo.same b hb)
 ·exact h.fo.rd b o hb ((hO b (Nat.lt_of_lt_of_le (h.fo.lt b hb) h.fo.size) (hno b (h.fo.own b hb))).2 o ho)
 ·obtain⟨k1,k2⟩:=h.fo.keep g o ho;exact⟨(hR g o k1).1,(hR g o k1).2.trans k2⟩
where
 blk_lt0 {w:World} {b T:Nat} {c:Array Value} {fr:Nat×Nat} (h:w.heap[b]? =some (.cells c T fr)):b<w.heap.size:=by
  rcases Nat.lt_or_ge b w.heap.size with h'|h'
  ·exact h'
  ·rw[Array.getElem?_eq_none h']at h;cases h
theorem S3.move(h:S3 E W F Rd0 w β Rd Ow fr H tmps)
  (hR:∀g o,Rd g o->Rd' g o/\w'.cell? ⟨g,o,none⟩=w.cell? ⟨g,o,none⟩)
  (hO:∀b,b<w.heap.size->w'.heap[b]? =w.heap[b]? /\∀o,Rd' b o->Rd b o)
  (hr:∀g o,Rd' g o->g<w'.heap.size) (hs:w.heap.size<=w'.heap.size)
  (hos:w'.os=w.os) (htape:w'.tape=w.tape) (hout:w'.output=w.output):S3 E W F Rd0 w' β Rd' Ow fr H tmps:=
 h.moveG (fun _=>False) (fun _ h=>h.elim) (fun _ _ _ _ _ _ _ h=>h) (fun _ _ _ _ _ _ _ _ _ _ _ _ _ h=>h) hR (fun b hb _=>hO b hb) hr hs hos htape hout
theorem S3.drew(h:S3 E W F Rd0 w β Rd Ow fr H tmps):S3 E W F Rd0 w.drew β Rd Ow fr H tmps:=
 h.move (fun _ _ h=>⟨h,rfl⟩) (fun _ _=>⟨rfl,fun _ h=>h⟩) h.hr.rds (Nat.le_refl _) rfl rfl rfl
theorem S3.fresh (h : S3 E W F Rd0 w β Rd Ow fr H tmps) (hf : Frm (fun _ => False) w w') (n : Nat) (hn : 0 < n → w.heap.size < w'.heap.size) :
    S3 E W F Rd0 w' β (fun g o => Rd g o ∨ (g = w.heap.size ∧ o < n)) Ow fr H tmps :=
  h.move (fun g o hg => ⟨.inl hg, World.cell?_of_block (a := ⟨g, o, none⟩) (hf.block g (h.hr.rds g o hg) (fun h => h))⟩)
    (fun b hb => ⟨hf.block b hb (fun h => h), fun o ho => ho.resolve_right (fun e => by omega)⟩)
    (fun g o ho => by rcases ho with h1 | ⟨h1, h2⟩
                      · exact Nat.lt_of_lt_of_le (h.hr.rds g o h1) hf.size
                      · rw [h1]; exact hn (by omega)) hf.size hf.os hf.tape hf.output
end
theorem qd4{P:Program}{w:World}{size:Nat}{v:Value}{n:Nat}{xs:List Value}(h:OSl w size v n xs)(t tx ty e:TypeId)(i:TypeInfo)(z:Value)(bytes:Nat)
  (ht:P.underlying t=some (.slice e)) (hi:P.info? e=some i) (hz:i.zero=some z) (hsize:i.size=size) (hby:i.bytes=bytes) (hzs:z.cells.size=size)
  (x:Value) (m:Nat) (news:List Value) (hs:Src P size tx x m news w) (h63:n+m<=maxLen) (hbytes:(n+m)*bytes<=140737488355328):
  ∃v' w',(Builtin.append_ #[t,tx] ty #[v,x]).run P w= .ok v' w'/\OSl w' size v' (n+m) (xs++news)/\
   ((v'=v/\w'=w/\news=[])\/(∃g o cap,v= .slice (some ⟨g,o,none⟩) n cap/\v'= .slice (some ⟨g,o,none⟩) (n+m) cap/\n+m<=cap/\w'=w.setCells g (o+n*size) news)\/
    (∃cap,v'= .slice (some ⟨w.heap.size,0,none⟩) (n+m) cap/\Frm (fun _=>False) w w'/\w.heap.size<w'.heap.size)):=by
 subst hsize;subst hby;have hnl:=hs.newsLen;have hlen':(xs++news).length=(n+m)*i.size:=by rw[zqK,h.1,hnl,Nat.add_mul]
 have grow:∀(bs:Option Addr) (sc:Nat),v= .slice bs n sc->sc<n+m->(Builtin.firstCells i.size n (.slice bs n sc)).run P w.drew= .ok xs.toArray w.drew->
   ∃v' w',(Builtin.append_ #[t,tx] ty #[v,x]).run P w= .ok v' w'/\OSl w' i.size v' (n+m) (xs++news)/\(∃cap,v'= .slice (some ⟨w.heap.size,0,none⟩) (n+m) cap/\Frm (fun _=>False) w w'/\w.heap.size<w'.heap.size):=by
  rintro bs sc rfl hg hold;have hrun:=run_append_grow_src (P:=P) w t tx ty e i z ht hi hz bs n sc xs hold x m news hs hg (by simp only[maxLen]at h63;omega) (growslice_fits hg hbytes);have hge:=grownCap_ge w (n+m) sc e;have hcm:=grownCap_le_maxLen w (n+m) sc e h63;refine⟨_,_,hrun,?_,_,rfl,⟨rfl,rfl,rfl,by simp,fun k hk _=>heap_alloc_old w.drew _ hk⟩,by simp⟩;refine OSl.new w.drew _ e i.size (n+m) _ _ hlen' hge hcm ?_ ?_
  ·rw[Array.size_append,List.size_toArray,hlen',size_zeroCells,hzs,<-Nat.add_mul];congr 1;omega
  ·intro j hj;rw[Array.getElem?_append_left (by simp only[List.size_toArray];omega),List.getElem?_toArray]
 obtain⟨h1,⟨rfl,rfl⟩|⟨g,o,cap,rfl,h2,h3,h6,h4,h5⟩⟩:=h
 ·obtain rfl:xs=[]:=List.eq_nil_of_length_eq_zero (by simpa using h1);rcases Nat.eq_zero_or_pos m with rfl|hm
  ·obtain rfl:news=[]:=List.eq_nil_of_length_eq_zero (by simpa using hnl);exact⟨_,_,run_append_nothing (P:=P) w t tx ty e i ht hi none 0 0 (Nat.le_refl _) x hs,OSl.nil _ _,.inl ⟨rfl,rfl,rfl⟩⟩
  ·obtain⟨v',w',r1,r2,r3⟩:=grow none 0 rfl (by omega) (run_firstCells_none w.drew i.size 0 0 0);exact⟨v',w',r1,r2,.inr (.inr r3)⟩
 ·by_cases hfit:n+m<=cap
  ·have hmul:(n+m)*i.size<=cap*i.size:=Nat.mul_le_mul_right _ hfit;rw[Nat.add_mul]at hmul
   have hsome:∀j,j<news.length->(w.cell? ⟨g,o+n*i.size+j,none⟩).isSome=true:=fun j hj=>by
    have:=(h5 (n*i.size+j) (by omega)).1;rwa[<-Nat.add_assoc]at this
   have hfree:∀j,j<news.length->w.frozen? ⟨g,o+n*i.size+j,none⟩=false:=fun j hj=>by
    have:=(h5 (n*i.size+j) (by omega)).2;rwa[<-Nat.add_assoc]at this
   have hrun:=run_append_room_src (P:=P) w t tx ty e i ht hi g o n cap x m news hs hfit hsome hfree
   refine⟨_,_,hrun,⟨hlen',.inr ⟨g,o,cap,rfl,hfit,h3,by rw[qaH];exact h6,fun j hj=>?_,fun j hj=>⟨?_,(World.frozen?_setCells g _ _ _ _).trans (h5 j hj).2⟩⟩⟩,
    .inr (.inl ⟨g,o,cap,rfl,rfl,hfit,rfl⟩)⟩
   ·rw[Nat.add_mul]at hj;by_cases hjo:j<n*i.size
    ·rw[World.cell?_setCells_out g _ _ _ _ (fun _ _=>Or.inl (by show o+j<o+n*i.size;omega)),zqA (by omega)];exact h4 j hjo
    ·have hlt:j-n*i.size<news.length:=by omega
     have:=World.cell?_setCells_in g news (o+n*i.size) w hsome (j-n*i.size) hlt;rw[show o+n*i.size+(j-n*i.size)=o+j by omega]at this;rw[this,zqB (by omega),h1,zqD hlt]
   ·by_cases hin:n*i.size<=j/\j<n*i.size+news.length
    ·have:=World.cell?_setCells_in g news (o+n*i.size) w hsome (j-n*i.size) (by omega);rw[show o+n*i.size+(j-n*i.size)=o+j by omega]at this;rw[this];rfl
    ·rw[World.cell?_setCells_out g _ _ _ _ (fun _ _=>by show o+j<o+n*i.size\/o+n*i.size+news.length<=o+j;omega)];exact(h5 j hj).1
  ·obtain⟨v',w',r1,r2,r3⟩:=grow (some ⟨g,o,none⟩) cap rfl (by omega) (by
    refine run_firstCells_some w.drew i.size n ⟨g,o,none⟩ n cap xs h1 (fun j u hu=>?_);rw[Addr.add_mid]
    have hj:j<n*i.size:=by
     have:=(zqC.1 hu).1;omega
    exact(h4 j hj).trans hu)
   exact⟨v',w',r1,r2,.inr (.inr r3)⟩
def setR{α:Type}(l:List α)(o:Nat)(cs:List α):List α:=l.take o++cs++l.drop (o+cs.length)
theorem qfA{α:Type}(l:List α)(o:Nat)(cs:List α)(h:o+cs.length<=l.length):(setR l o cs).length=l.length:=by simp[setR];omega
theorem qiR{α:Type}(l:List α)(o:Nat)(cs:List α)(h:o+cs.length<=l.length)(j:Nat):(setR l o cs)[j]? =if o<=j/\j<o+cs.length then cs[j-o]? else l[j]? :=by
 unfold setR;have h1:(l.take o).length=o:=by rw[zqJ];omega
 by_cases h2:j<o
 ·rw[if_neg (by omega),List.append_assoc,zqA (by omega),zqG h2]
 ·by_cases h3:j<o+cs.length
  ·rw[if_pos ⟨by omega,h3⟩,List.append_assoc,zqB (by omega),h1,zqA (by omega)]
  ·rw[if_neg (by omega),zqB (by rw[zqK,h1];omega),zqK,h1,zqN];congr 1;omega
theorem qgW{α:Type}{l:List α}{o:Nat}{cs:List α}{x:α}(h:x∈setR l o cs):x∈l\/x∈cs:=by
 unfold setR at h;rcases List.mem_append.1 h with h|h
 ·rcases List.mem_append.1 h with h|h
  ·exact .inl (List.mem_of_mem_take h)
  ·exact .inr h
 ·exact .inl (List.mem_of_mem_drop h)
theorem qcq{w:World}{b T:Nat}{c:Array Value}{fr:Nat×Nat}(h:w.heap[b]? =some (.cells c T fr)):b<w.heap.size:=by
 rcases Nat.lt_or_ge b w.heap.size with h'|h'
 ·exact h'
 ·rw[Array.getElem?_eq_none h']at h;cases h
theorem qpo{w:World}{b T:Nat}{c:Array Value}{fr:Nat×Nat}(h:w.heap[b]? =some (.cells c T fr))(i:Nat)(x:Value):(w.setCell ⟨b,i,none⟩ x).heap[b]? =some (.cells (c.setIfInBounds i x) T fr):=by
 have hlt:=qcq h;have h':w.heap[b]= .cells c T fr:=by simpa[zqM hlt]using h
 show(w.heap.modify b _)[b]? =_;rw[zqM (by simpa using hlt),Array.getElem_modify_self,h'];rfl
theorem qe4{b T:Nat}{fr:Nat×Nat}:∀(vs:List Value) (o:Nat) (w:World) (c:Array Value),w.heap[b]? =some (.cells c T fr)->∃c',(w.setCells b o vs).heap[b]? =some (.cells c' T fr)/\c'.size=c.size
 |[],_,w,c,h=>⟨c,h,rfl⟩
 |v::r,o,w,c,h=>by
  obtain⟨c',h1,h2⟩:=qe4 r (o+1) (w.setCell ⟨b,o,none⟩ v) _ (qpo h o v);exact⟨c',h1,by simpa using h2⟩
theorem qaX{w:World}{b T:Nat}{c:Array Value}{fr:Nat×Nat}(h:w.heap[b]? =some (.cells c T fr))(j:Nat):w.cell? ⟨b,j,none⟩=c[j]? :=by simp[World.cell?,h]
theorem qfe{w:World}{b T:Nat}{c:Array Value}(h:w.heap[b]? =some (.cells c T (0,0)))(j:Nat):w.frozen? ⟨b,j,none⟩=false:=by simp[World.frozen?,h]
section
variable {E:Env}{W:World}{F:Nat->Prop}{Rd0:Nat->Nat->Prop}{w w':World}{β β':Nat->Nat}{Rd Rd':Nat->Nat->Prop}{Ow Ow':Nat->Option Hold}{fr:List AV}{H:Hp}{tmps:Array Value}
def bup(β:Nat->Nat)(n b:Nat):Nat->Nat:=fun i=>if i=n then b else β i
theorem qc0{β:Nat->Nat}{n b i:Nat}(h:i<n):bup β n b i=β i:=by simp[bup];intro h';omega
theorem qbP(β:Nat->Nat)(n b:Nat):bup β n b n=b:=by simp[bup]
theorem S3.newBox(h:S3 E W F Rd0 w β Rd Ow fr H tmps)(l:List AV)(cs:Array Value)(T:TypeId)(hl:cs.size=l.length)
  (hc:∀(j:Nat) x u,l[j]? =some x->cs[j]? =some u->Rel w β Rd x u/\x.one=true/\Bnd H.length x/\∀g,own0 x u=some g->Ow g=some (.cell H.length j)) (hn:∀k,Ow w.heap.size≠some k) (hnb:∀t,l[0]? =some (.bl t)->∃v,T=t/\cs= #[.pointer none,v]):
  S3 E W F Rd0 (w.alloc (.cells cs T)) (bup β H.length w.heap.size) Rd Ow fr (H++[l]) tmps:=by
 have hR:∀g o,Rd g o->Rd g o/\(w.alloc (.cells cs T)).cell? ⟨g,o,none⟩=w.cell? ⟨g,o,none⟩:=fun g o hg=>⟨hg,World.cell?_of_block (a:=⟨g,o,none⟩) (heap_alloc_old w _ (h.hr.rds g o hg))⟩
 have hO:∀b,b<w.heap.size->(w.alloc (.cells cs T)).heap[b]? =w.heap[b]? /\∀o,Rd b o->Rd b o:=fun b hb=>⟨heap_alloc_old w _ hb,fun _ h=>h⟩
 have hsz:(w.alloc (.cells cs T)).heap.size=w.heap.size+1:=by simp
 have hβ:∀i,i<H.length->bup β H.length w.heap.size i=β i:=fun i hi=>qc0 hi
 have hβlt:∀i,i<H.length->β i<w.heap.size:=fun i hi=>by
  obtain⟨T,cs,h1,_⟩:=h.hr.box i _ (zqD hi);exact qcq h1
 have hlen:(H++[l]).length=H.length+1:=by simp
 refine⟨⟨fun i l' hl'=>?_,fun i j hi hj he=>?_,fun i hi=>?_,fun g k hg=>by rw[hsz];exact Nat.lt_succ_of_lt (h.hr.ows g k hg),fun g o ho=>by rw[hsz];exact Nat.lt_succ_of_lt (h.hr.rds g o ho),fun l' hl' x hx=>?_,fun b hb=>?_,fun i l' t hl' h0=>(by
   by_cases hi:i<H.length
   ·rw[zqA hi]at hl';obtain⟨u,v,g1,g2⟩:=h.hr.bld i l' t hl' h0;rw[hβ i hi];exact⟨u,v,(hO _ (qcq g1)).1.trans g1,g2⟩
   ·rw[zqB (by omega)]at hl';have hi':i=H.length:=by have:=(zqC.1 hl').1;simp at this;omega
    subst hi';rw[Nat.sub_self]at hl';simp at hl';subst hl';obtain⟨v,rfl,rfl⟩:=hnb t h0;rw[qbP]
    exact⟨_,v,heap_alloc_new w _,.inl rfl⟩)⟩,
  ⟨h.ff.len,fun t x u hx hu=>?_⟩,⟨h.fo.lt,fun b hb=>?_,h.fo.own,fun b i hb hi=>?_,h.fo.rd,h.fo.os,h.fo.tape,h.fo.output,by rw[hsz];exact Nat.le_succ_of_le h.fo.size,fun g o ho=>?_⟩,h.ne⟩
 ·by_cases hi:i<H.length
  ·rw[zqA hi]at hl';obtain⟨T',cs',h1,h2,h3⟩:=h.hr.box i l' hl';refine⟨T',cs',by rw[hβ i hi];exact(hO _ (qcq h1)).1.trans h1,h2,fun j x u hx hu=>?_⟩;obtain⟨r1,r2,r3⟩:=h3 j x u hx hu;exact⟨r1.move (h.hr.bnd l' (qak hl') x (qak hx)) hR (fun g hg=>hO g (h.hr.ows g _ (r3 g hg))) (by rw[hsz];omega) hβ,r2,r3⟩
  ·rw[zqB (by omega)]at hl';have hi':i=H.length:=by have:=(zqC.1 hl').1;simp at this;omega
   subst hi';rw[Nat.sub_self]at hl';simp at hl';subst hl';refine⟨T,cs,by rw[qbP];exact heap_alloc_new w _,hl,fun j x u hx hu=>?_⟩;obtain⟨r1,r2,r3,r4⟩:=hc j x u hx hu;exact⟨r1.move r3 hR (fun g hg=>hO g (h.hr.ows g _ (r4 g hg))) (by rw[hsz];omega) hβ,r2,r4⟩
 ·rw[hlen]at hi hj;by_cases h1:i<H.length<;>by_cases h2:j<H.length
  ·rw[hβ i h1,hβ j h2]at he;exact h.hr.inj i j h1 h2 he
  ·obtain rfl:j=H.length:=by omega
   rw[hβ i h1,qbP]at he;have:=hβlt i h1;omega
  ·obtain rfl:i=H.length:=by omega
   rw[hβ j h2,qbP]at he;have:=hβlt j h2;omega
  ·omega
 ·rw[hlen]at hi;by_cases h1:i<H.length
  ·rw[hβ i h1];exact h.hr.sep i h1
  ·obtain rfl:i=H.length:=by omega
   rw[qbP];refine⟨?_,fun o ho=>by have:=h.hr.rds _ o ho;omega⟩;cases hk:Ow w.heap.size with
   |none=>rfl
   |some k=>exact absurd hk (hn k)
 ·rw[hlen];rcases List.mem_append.1 hl' with h1|h1
  ·exact(h.hr.bnd l' h1 x hx).mono (by omega)
  ·simp at h1;subst h1;obtain⟨j,hj⟩:=List.getElem?_of_mem hx;have hj':j<cs.size:=by have:=(zqC.1 hj).1;omega
   exact(hc j x _ hj (zqM hj')).2.2.1.mono (by omega)
 ·obtain⟨f1,f2,f3,f4⟩:=h.hr.fix b hb;refine⟨(hO b f4).1.trans f1,f2,fun i hi=>?_,by rw[hsz];omega⟩;rw[hlen]at hi;by_cases h1:i<H.length
  ·rw[hβ i h1];exact f3 i h1
  ·obtain rfl:i=H.length:=by omega
   rw[qbP];omega
 ·obtain⟨r1,r2,r3⟩:=h.ff.rel t x u hx hu;exact⟨r1.move r2 hR (fun g hg=>hO g (h.hr.ows g _ (r3 g hg))) (by rw[hsz];omega) hβ,r2.mono (by rw[hlen];omega),r3⟩
 ·exact(hO b (Nat.lt_of_lt_of_le (h.fo.lt b hb) h.fo.size)).1.trans (h.fo.same b hb)
 ·rw[hlen]at hi;by_cases h1:i<H.length
  ·rw[hβ i h1];exact h.fo.box b i hb h1
  ·obtain rfl:i=H.length:=by omega
   rw[qbP];have:=h.fo.lt b hb;have:=h.fo.size;omega
 ·obtain⟨k1,k2⟩:=h.fo.keep g o ho;exact⟨k1,(hR g o k1).2.trans k2⟩
theorem S3.store(h:S3 E W F Rd0 w β Rd Ow fr H tmps)(i:Nat)(l:List AV)(hl:H[i]? =some l)(o:Nat)(cs:List AV)(us:List Value)(hus:us.length=cs.length)(ho:o+cs.length<=l.length)
  (hc:∀(j:Nat) x u,cs[j]? =some x->us[j]? =some u->Rel w β Rd x u/\x.one=true/\Bnd H.length x/\∀g,own0 x u=some g->Ow g=some (.cell i (o+j))) (hnb:∀t,.bl t∉cs):
  S3 E W F Rd0 (w.setCells (β i) o us) β Rd Ow fr (H.set i (setR l o cs)) tmps:=by
 have hi:i<H.length:=(zqC.1 hl).1;obtain⟨T,c,h1,h2,h3⟩:=h.hr.box i l hl;have hsep:=h.hr.sep i hi
 have hother:∀b,b≠β i->(w.setCells (β i) o us).heap[b]? =w.heap[b]? :=fun b hb=>by
  by_cases hlt:b<w.heap.size
  ·exact World.heap_setCells_other _ _ _ _ hlt hb
  ·rw[Array.getElem?_eq_none (by rw[qaH];omega),Array.getElem?_eq_none (by omega)]
 have hsz:(w.setCells (β i) o us).heap.size=w.heap.size:=qaH _ _ _ _
 have hR:∀g o',Rd g o'->Rd g o'/\(w.setCells (β i) o us).cell? ⟨g,o',none⟩=w.cell? ⟨g,o',none⟩:=fun g o' hg=>
  ⟨hg,World.cell?_of_block (a:=⟨g,o',none⟩) (hother g (fun e=>hsep.2 o' (e▸hg)))⟩
 have hO:∀g k,Ow g=some k->(w.setCells (β i) o us).heap[g]? =w.heap[g]? /\∀o,Rd g o->Rd g o:=fun g k hg=>
  ⟨hother g (fun e=>by rw[e,hsep.1]at hg;cases hg),fun _ h=>h⟩
 have hlen:(H.set i (setR l o cs)).length=H.length:=by simp
 obtain⟨c',k1,k2⟩:=qe4 us o w c h1
 refine⟨⟨fun i' l' hl'=>?_,fun a b ha hb he=>h.hr.inj a b (by rwa[hlen]at ha) (by rwa[hlen]at hb) he,fun a ha=>h.hr.sep a (by rwa[hlen]at ha),fun g k hg=>by rw[hsz];exact h.hr.ows g k hg,fun g o' ho'=>by rw[hsz];exact h.hr.rds g o' ho',fun l' hl' x hx=>?_,fun b hb=>?_,fun i' l' t hl' h0=>(by
   by_cases hii:i=i'
   ·subst hii;rw[zqO hi]at hl';cases hl';rw[qiR _ _ _ ho]at h0;split at h0
    ·exact absurd (zqH h0) (hnb t)
    ·rename_i hj;obtain⟨u,v,g1,g2⟩:=h.hr.bld i l t hl h0;rw[h1]at g1;cases g1;have hs2:c'.size=2:=by rw[k2];rfl
     have e0:(w.setCells (β i) o us).cell? ⟨β i,0,none⟩=w.cell? ⟨β i,0,none⟩:=World.cell?_setCells_out (β i) us o w _ (fun _ _=>by show 0<o\/o+us.length<=0;omega);rw[qaX k1,qaX h1]at e0;have hc0:c'[0]? =some u:=e0
     obtain⟨x,y,hxy⟩:∃x y,c'= #[x,y]:=by
      cases c' with
      |mk l=>
       match l,hs2 with
       |[x,y],_=>exact⟨x,y,rfl⟩
     rw[hxy]at hc0 k1;simp at hc0;subst hc0;exact⟨x,y,k1,g2⟩
   ·rw[zqF hii]at hl';obtain⟨u,v,g1,g2⟩:=h.hr.bld i' l' t hl' h0;have hi':i'<H.length:=(zqC.1 hl').1
    exact⟨u,v,(hother _ (fun e=>hii (h.hr.inj i i' hi hi' e.symm))).trans g1,g2⟩)⟩,
  ⟨h.ff.len,fun t x u hx hu=>?_⟩,⟨h.fo.lt,fun b hb=>?_,h.fo.own,fun b a hb ha=>h.fo.box b a hb (by rwa[hlen]at ha),h.fo.rd,(World.os_setCells _ _ _ _).trans h.fo.os,(qbW _ _ _ _).trans h.fo.tape,(World.output_setCells _ _ _ _).trans h.fo.output,by rw[hsz];exact h.fo.size,fun g o' ho'=>?_⟩,h.ne⟩
 ·by_cases hii:i=i'
  ·subst hii;rw[zqO hi]at hl';cases hl';refine⟨T,c',k1,by rw[k2,h2,qfA _ _ _ ho],fun j x u hx hu=>?_⟩;have hcell:(w.setCells (β i) o us).cell? ⟨β i,j,none⟩=some u:=(qaX k1 j).trans hu;rw[qiR _ _ _ ho]at hx;split at hx
   ·rename_i hj
    have hsome:∀j,j<us.length->(w.cell? ⟨β i,o+j,none⟩).isSome=true:=fun j hj=>by
     rw[qaX h1,zqM (by omega)];rfl
    have:=World.cell?_setCells_in (β i) us o w hsome (j-o) (by omega);rw[show o+(j-o)=j by omega,hcell]at this;have hu':us[j-o]? =some u:=by rw[zqD (by omega)];exact this.symm
    obtain⟨r1,r2,r3,r4⟩:=hc (j-o) x u hx hu';rw[show o+(j-o)=j by omega]at r4;exact⟨r1.move r3 hR (fun g hg=>hO g _ (r4 g hg)) (by rw[hsz];omega) (fun _ _=>rfl),r2,r4⟩
   ·rename_i hj;have:(w.setCells (β i) o us).cell? ⟨β i,j,none⟩=w.cell? ⟨β i,j,none⟩:=World.cell?_setCells_out (β i) us o w _ (fun _ _=>by show j<o\/o+us.length<=j;omega);rw[hcell,qaX h1]at this;obtain⟨r1,r2,r3⟩:=h3 j x u hx this.symm;exact⟨r1.move (h.hr.bnd l (qak hl) x (qak hx)) hR (fun g hg=>hO g _ (r3 g hg)) (by rw[hsz];omega) (fun _ _=>rfl),r2,r3⟩
  ·rw[zqF hii]at hl';obtain⟨T',cs',g1,g2,g3⟩:=h.hr.box i' l' hl';have hi':i'<H.length:=(zqC.1 hl').1;refine⟨T',cs',(hother _ (fun e=>hii (h.hr.inj i i' hi hi' e.symm))).trans g1,g2,fun j x u hx hu=>?_⟩;obtain⟨r1,r2,r3⟩:=g3 j x u hx hu;exact⟨r1.move (h.hr.bnd l' (qak hl') x (qak hx)) hR (fun g hg=>hO g _ (r3 g hg)) (by rw[hsz];omega) (fun _ _=>rfl),r2,r3⟩
 ·rw[hlen];rcases List.mem_or_eq_of_mem_set hl' with h4|h4
  ·exact h.hr.bnd l' h4 x hx
  ·subst h4;rcases qgW hx with h5|h5
   ·exact h.hr.bnd l (qak hl) x h5
   ·obtain⟨j,hj⟩:=List.getElem?_of_mem h5;have hj':j<us.length:=by have:=(zqC.1 hj).1;omega
    exact(hc j x _ hj (zqD hj')).2.2.1
 ·obtain⟨f1,f2,f3,f4⟩:=h.hr.fix b hb;exact⟨(hother b (fun e=>f3 i hi e.symm)).trans f1,f2,fun a ha=>f3 a (by rwa[hlen]at ha),by rw[hsz];exact f4⟩
 ·obtain⟨r1,r2,r3⟩:=h.ff.rel t x u hx hu;exact⟨r1.move r2 hR (fun g hg=>hO g _ (r3 g hg)) (by rw[hsz];omega) (fun _ _=>rfl),by rw[hlen];exact r2,r3⟩
 ·exact(hother b (fun e=>h.fo.box b i hb hi e.symm)).trans (h.fo.same b hb)
 ·obtain⟨g1,g2⟩:=h.fo.keep g o' ho';exact⟨g1,(hR g o' g1).2.trans g2⟩
end
section
variable {P:Program}
theorem qfw{w:World}{v:Value}{k n:Nat}{xs:List Value}(h:RSl w k v n xs)(h1:∀u∈xs,u.oneCell'=true){tx e':TypeId}(hk:P.underlying tx=some (.slice e')):Src P k tx v n xs w:=by
 obtain⟨hl,ao,cap,rfl,_,_,hc⟩:=h;rcases Nat.eq_zero_or_pos n with rfl|hp
 ·obtain rfl:xs=[]:=List.eq_nil_of_length_eq_zero (by simpa using hl);cases ao with
  |none=>exact Src.ofNil w hk cap
  |some a=>exact Src.ofSlice w hk a 0 cap [] (by simp) (fun j u hj=>by simp at hj) (by simp)
 ·obtain⟨g,o,rfl,hc2⟩:=hc hp;refine Src.ofSlice w hk ⟨g,o,none⟩ n cap _ hl (fun j u hj=>?_) h1;have hj':=(zqC.1 hj).1;rw[Addr.add_mid,hc2 j (by omega),hj]
end
theorem qei{l:List (List AV)}{k:Nat}(h:∀r∈l,r.length=k):l.flatten.length=l.length*k:=by
 induction l with
 |nil=>simp
 |cons r l ih=>
  rw[List.flatten_cons,zqK,h r (by simp),ih (fun r hr=>h r (by simp[hr])),zqL,Nat.add_mul];omega
section
variable {E:Env}{W:World}{F:Nat->Prop}{Rd0:Nat->Nat->Prop}{w w':World}{β β':Nat->Nat}{Rd Rd':Nat->Nat->Prop}{Ow Ow':Nat->Option Hold}{fr:List AV}{H:Hp}{tmps:Array Value}
theorem Rel.slOne{own:Bool}{k:Nat}{rows:List (List AV)}{xs:List Value}(hk:∀r∈rows,r.length=k)(hl:xs.length=rows.length*k)(hf:∀r∈rows,∀x∈r,x.free=true/\x.one=true)
  (hr:∀(j:Nat) (x:AV) (u:Value),rows.flatten[j]? =some x->xs[j]? =some u->Rel w β Rd x u):∀u∈xs,u.oneCell'=true:=by
 intro u hu;obtain⟨j,hj⟩:=List.getElem?_of_mem hu;have hj':j<rows.flatten.length:=by have:=(zqC.1 hj).1;rw[qei hk];omega
 obtain⟨r,h1,h2⟩:=qcj (zqD hj');exact(hr j _ u (zqD hj') hj).oneCell (hf r h1 _ h2).2
theorem qfC{N k:Nat}{rows:List (List AV)}{xs:List Value}(hB:∀r∈rows,∀x∈r,Bnd N x)(hf:∀r∈rows,∀x∈r,x.free=true/\x.one=true)
  (hr:∀(j:Nat) (x:AV) (u:Value),rows.flatten[j]? =some x->xs[j]? =some u->Rel w β Rd x u)
  (hR:∀g o,Rd g o->Rd' g o/\w'.cell? ⟨g,o,none⟩=w.cell? ⟨g,o,none⟩) (hs:w.heap.size<=w'.heap.size):
  ∀(j:Nat) (x:AV) (u:Value),rows.flatten[j]? =some x->xs[j]? =some u->Rel w' β Rd' x u:=by
 intro j x u hx hu;obtain⟨r,h1,h2⟩:=qcj hx;exact(hr j x u hx hu).move (hB r h1 x h2) hR (fun g hg=>by rw[qaw (hf r h1 x h2).1]at hg;cases hg) hs (fun _ _=>rfl)
theorem S3.freshRow(h:S3 E W F Rd0 w β Rd Ow fr H tmps)(hf:Frm (fun _=>False) w w')(hlt:w.heap.size<w'.heap.size)(n:Nat)(d:Option Tmp):
  ∃Ow',S3 E W F Rd0 w' β (fun g o=>Rd g o\/(g=w.heap.size/\o<n)) Ow' fr H tmps/\∀t,d=some t->Ow' w.heap.size=some (.slot t):=by
 have h1:=h.fresh hf n (fun _=>hlt);cases d with
 |none=>exact⟨Ow,h1,fun t h=>by cases h⟩
 |some t=>
  have hnone:Ow w.heap.size=none:=by
   cases hk:Ow w.heap.size with
   |none=>rfl
   |some k=>have:=h.hr.ows _ _ hk;omega
  refine⟨_,h1.claim hnone (.slot t) hlt (fun i hi e=>?_) (fun hF=>?_) (fun hE=>?_),fun t' ht'=>by cases ht';exact qdR _ _ _⟩
  ·obtain⟨T,cs,g1,_⟩:=h.hr.box i _ (zqD hi);have:=qcq g1;omega
  ·have:=h.fo.lt _ hF;have:=h.fo.size;omega
  ·have:=(h.hr.fix _ hE).2.2.2;omega
theorem S3.grow{P:Program}(h:S3 E W F Rd0 w β Rd Ow fr H tmps){k:Nat}{rows:List (List AV)}{v:Value}(s:Nat)(hx:fr[s]? =some (.sl true k rows))(hv:tmps[s]? =some v)(d:Option Tmp)
  (t tx ty e:TypeId) (i:TypeInfo) (z:Value) (bytes:Nat) (ht:P.underlying t=some (.slice e)) (hi:P.info? e=some i) (hz:i.zero=some z) (hsize:i.size=k) (hby:i.bytes=bytes) (hzs:z.cells.size=k)
  (y:Value) (rows':List (List AV)) (news:List Value) (hs:Src P k tx y rows'.length news w) (hk':∀r∈rows',r.length=k) (hf':∀r∈rows',∀x∈r,x.free=true/\x.one=true) (hB':∀r∈rows',∀x∈r,Bnd H.length x)
  (hr':∀(j:Nat) (x:AV) (u:Value),rows'.flatten[j]? =some x->news[j]? =some u->Rel w β Rd x u)
  (h63:rows.length+rows'.length<=maxLen) (hbytes:(rows.length+rows'.length)*bytes<=140737488355328):
  ∃v' w' Rd' Ow',(Builtin.append_ #[t,tx] ty #[v,y]).run P w= .ok v' w'/\S3 E W F Rd0 w' β Rd' Ow' (fr.set s (.sl false k rows)) H tmps/\Rel w' β Rd' (.sl true k (rows++rows')) v'/\Bnd H.length (.sl true k (rows++rows'))/\
   ∀g,own0 (.sl true k (rows++rows')) v'=some g->∀t,d=some t->Ow' g=some (.slot t):=by
 obtain⟨hrel,hbnd,hown⟩:=h.ff.rel s _ v hx hv;have hlg:=h.letgo s hx;have hfrs:(fr.set s (AV.sl true k rows).dis)=fr.set s (.sl false k rows):=rfl;rw[hfrs]at hlg;cases hrel with
 |sl _ _ _ _ xs hk hxr hd ho hf hr=>
  cases hbnd with
  |sl _ _ _ hB=>
   obtain⟨ho1,ho2⟩:=ho rfl;obtain⟨v',w',hrun,hos,hcase⟩:=qd4 ho1 t tx ty e i z bytes ht hi hz hsize hby hzs y rows'.length news hs h63 hbytes;have hlx:xs.length=rows.length*k:=ho1.1;have hln:news.length=rows'.length*k:=hs.newsLen;have hkk:∀r∈rows++rows',r.length=k:=fun r hr=>by rcases List.mem_append.1 hr with h|h;exact hk r h;exact hk' r h
   have hff:∀r∈rows++rows',∀x∈r,x.free=true/\x.one=true:=fun r hr=>by rcases List.mem_append.1 hr with h|h;exact hf r h;exact hf' r h
   have hBB:Bnd H.length (.sl true k (rows++rows')):= .sl _ _ _ (fun r hr=>by rcases List.mem_append.1 hr with h|h;exact hB r h;exact hB' r h);have hlen2:(rows++rows').length=rows.length+rows'.length:=zqK
   have hrr:∀{w':World} {Rd':Nat->Nat->Prop},(∀g o,Rd g o->Rd' g o/\w'.cell? ⟨g,o,none⟩=w.cell? ⟨g,o,none⟩)->w.heap.size<=w'.heap.size->
     ∀(j:Nat) (x:AV) (u:Value),(rows++rows').flatten[j]? =some x->(xs++news)[j]? =some u->Rel w' β Rd' x u:=fun hR hsz j x u hx hu=>by
    rw[List.flatten_append]at hx;have hfl:=qei hk;by_cases hj:j<rows.length*k
    ·rw[zqA (by omega)]at hx hu;exact qfC (k:=k) hB hf hr hR hsz j x u hx hu
    ·rw[zqB (by omega)]at hx hu;rw[hfl]at hx;rw[hlx]at hu;exact qfC (k:=k) hB' hf' hr' hR hsz _ x u hx hu
   rcases hcase with⟨rfl,rfl,rfl⟩|⟨g,o,cap,rfl,rfl,hcap,rfl⟩|⟨cap,rfl,hfrm,hlt⟩
   ·skip
    have hk0:rows'.length*k=0:=by simpa using hln.symm
    have hR:∀g o,Rd g o->Rd g o/\w'.cell? ⟨g,o,none⟩=w'.cell? ⟨g,o,none⟩:=fun _ _ h=>⟨h,rfl⟩
    have hrel':Rel w' β Rd (.sl true k (rows++rows')) v':=by
     refine .sl true k _ v' (xs++[]) hkk (by rw[hlen2];exact hos.toR) (fun g o n c hv j hj=>?_) (fun _=>⟨by rw[hlen2];exact hos,fun g o n c hv j h1 h2=>?_⟩) hff (hrr hR (Nat.le_refl _))
     ·exact hd g o n c hv j (by rw[hlen2,Nat.add_mul]at hj;omega)
     ·exact ho2 g o n c hv j (by rw[hlen2,Nat.add_mul]at h1;omega) h2
    cases d with
    |none=>exact⟨v',w',Rd,Ow,hrun,hlg,hrel',hBB,fun g hg t ht=>by cases ht⟩
    |some dd=>
     by_cases hg:∃g,own0 (.sl true k rows) v'=some g
     ·obtain⟨g,hg⟩:=hg;have hOg:=hown g hg;refine⟨v',w',Rd,_,hrun,hlg.relabel hOg (some (.slot dd)) (fun t x u hx2 hu2 he=>?_) (fun i j l x u T cs hl hx2 hc hu2 he=>?_),hrel',hBB,fun g' hg' t ht=>?_⟩
      ·have:=(hlg.ff.rel t x u hx2 hu2).2.2 g he;rw[hOg]at this;cases this;rw[zqO (zqC.1 hx).1]at hx2;cases hx2;simp[own0]at he
      ·obtain⟨T',cs',c1,c2,c3⟩:=hlg.hr.box i l hl;rw[hc]at c1;cases c1;have:=(c3 j x u hx2 hu2).2.2 g he;rw[hOg]at this;cases this
      ·cases ht;have:g'=g:=by have e1:own0 (.sl true k rows) v'=own0 (.sl true k (rows++rows')) v':=rfl;rw[e1]at hg;rw[hg]at hg';cases hg';rfl
       rw[this];exact qdR _ _ _
     ·exact⟨v',w',Rd,Ow,hrun,hlg,hrel',hBB,fun g' hg' t ht=>absurd ⟨g',hg'⟩ hg⟩
   ·skip
    have hg0:own0 (.sl true k rows) (.slice (some ⟨g,o,none⟩) rows.length cap)=some g:=rfl;have hOg:=hown g hg0;have hglt:g<w.heap.size:=h.hr.ows g _ hOg;have hsz:(w.setCells g (o+rows.length*k) news).heap.size=w.heap.size:=qaH _ _ _ _;have hmul:(rows.length+rows'.length)*k<=cap*k:=Nat.mul_le_mul_right _ hcap;have hsp:=ho2 g o _ _ rfl;rw[Nat.add_mul]at hmul
    have hR:∀g' o',Rd g' o'->(Rd g' o'\/(g'=g/\∃j,rows.length*k<=j/\j<(rows.length+rows'.length)*k/\o'=o+j))/\(w.setCells g (o+rows.length*k) news).cell? ⟨g',o',none⟩=w.cell? ⟨g',o',none⟩:=fun g' o' hg'=>by
     refine⟨.inl hg',World.cell?_setCells_out g news _ w _ (fun e _=>?_)⟩;show o'<o+rows.length*k\/o+rows.length*k+news.length<=o';by_cases hin:o'<o+rows.length*k\/o+rows.length*k+news.length<=o'
     ·exact hin
     ·exfalso;have e':g'=g:=e;subst e';refine hsp (o'-o) (by omega) (by omega) ?_;rw[show o+(o'-o)=o' by omega];exact hg'
    have hmv:=hlg.moveG (w':=w.setCells g (o+rows.length*k) news) (Rd':=fun g' o'=>Rd g' o'\/(g'=g/\∃j,rows.length*k<=j/\j<(rows.length+rows'.length)*k/\o'=o+j)) (fun b=>b=g)
     (fun b hb=>⟨_,hb▸hOg⟩)
     (fun t x u g' hx2 hu2 he hgg=>by
      subst hgg;have:=(hlg.ff.rel t x u hx2 hu2).2.2 _ he;rw[hOg]at this;cases this;rw[zqO (zqC.1 hx).1]at hx2;cases hx2
      simp[own0]at he)
     (fun i j l x u T cs g' hl hx2 hc hu2 he hgg=>by
      subst hgg;obtain⟨T',cs',c1,c2,c3⟩:=hlg.hr.box i l hl;rw[hc]at c1;cases c1;have:=(c3 j x u hx2 hu2).2.2 _ he
      rw[hOg]at this;cases this)
     hR (fun b hb hne=>⟨World.heap_setCells_other _ _ _ _ hb hne,fun o ho=>ho.resolve_right (fun e=>hne e.1)⟩)
     (fun g' o' ho'=>by rw[hsz];rcases ho' with h1|h1;exact h.hr.rds _ _ h1;rw[h1.1];exact hglt) (by rw[hsz];exact Nat.le_refl _) (World.os_setCells _ _ _ _) (qbW _ _ _ _) (World.output_setCells _ _ _ _)
    have hrel':Rel (w.setCells g (o+rows.length*k) news) β (fun g' o'=>Rd g' o'\/(g'=g/\∃j,rows.length*k<=j/\j<(rows.length+rows'.length)*k/\o'=o+j)) (.sl true k (rows++rows')) (.slice (some ⟨g,o,none⟩) (rows.length+rows'.length) cap):=by
     refine .sl true k _ _ (xs++news) hkk (by rw[hlen2];exact hos.toR) (fun g' o' n c hv j hj=>?_) (fun _=>⟨by rw[hlen2];exact hos,fun g' o' n c hv j h1 h2 h3=>?_⟩) hff (hrr hR (by rw[hsz];exact Nat.le_refl _))
     ·cases hv;rw[hlen2]at hj;by_cases hjj:j<rows.length*k
      ·exact .inl (hd g o _ cap rfl j hjj)
      ·exact .inr ⟨rfl,j,by omega,hj,rfl⟩
     ·cases hv;rw[hlen2]at h1;rcases h3 with h3|⟨_,j',e1,e2,e3⟩
      ·exact hsp j (by rw[Nat.add_mul]at h1;omega) h2 h3
      ·omega
    cases d with
    |none=>exact⟨_,_,_,Ow,hrun,hmv,hrel',hBB,fun g hg t ht=>by cases ht⟩
    |some dd=>
     refine⟨_,_,_,_,hrun,hmv.relabel hOg (some (.slot dd)) (fun t x u hx2 hu2 he=>?_) (fun i j l x u T cs hl hx2 hc hu2 he=>?_),hrel',hBB,fun g' hg' t ht=>?_⟩
     ·have:=(hmv.ff.rel t x u hx2 hu2).2.2 g he;rw[hOg]at this;cases this;rw[zqO (zqC.1 hx).1]at hx2;cases hx2;simp[own0]at he
     ·obtain⟨T',cs',c1,c2,c3⟩:=hmv.hr.box i l hl;rw[hc]at c1;cases c1;have:=(c3 j x u hx2 hu2).2.2 g he;rw[hOg]at this;cases this
     ·cases ht;have:g=g':=by simpa[own0,Value.ownBlock]using hg'
      subst this;exact qdR _ _ _
   ·skip
    obtain⟨Ow',hfr,hOw⟩:=hlg.freshRow hfrm hlt ((rows.length+rows'.length)*k) d
    have hR:∀g' o',Rd g' o'->(Rd g' o'\/(g'=w.heap.size/\o'<(rows.length+rows'.length)*k))/\w'.cell? ⟨g',o',none⟩=w.cell? ⟨g',o',none⟩:=fun g' o' hg'=>
     ⟨.inl hg',World.cell?_of_block (a:=⟨g',o',none⟩) (hfrm.block g' (h.hr.rds g' o' hg') (fun h=>h))⟩
    refine⟨_,w',_,Ow',hrun,hfr,?_,hBB,fun g' hg' t ht=>?_⟩
    ·refine .sl true k _ _ (xs++news) hkk (by rw[hlen2];exact hos.toR) (fun g' o' n c hv j hj=>?_) (fun _=>⟨by rw[hlen2];exact hos,fun g' o' n c hv j h1 h2 h3=>?_⟩) hff (hrr hR hfrm.size)
     ·cases hv;rw[hlen2]at hj;exact .inr ⟨rfl,by omega⟩
     ·cases hv;rw[hlen2]at h1;rcases h3 with h3|⟨_,e1⟩
      ·have:=h.hr.rds _ _ h3;omega
      ·omega
    ·have:w.heap.size=g':=by simpa[own0,Value.ownBlock]using hg'
     rw[<-this];exact hOw t ht
end
def tsz(P:Program)(t:TypeId):Option Nat:=(P.info? t).map (·.size)
def trow(P:Program)(t:TypeId):Option Bool:=(P.underlying t).map (·.isRow)
def tsl(P:Program)(t:TypeId):Option TypeId:=match P.underlying t with|some (.slice e)=>some e|_=>none
def tint(P:Program)(t:TypeId):Option IntKind:=match P.underlying t with|some (.int k)=>some k|_=>none
def tstr(P:Program)(t:TypeId):Bool:=match P.underlying t with|some .string=>true|_=>false
def tbool(P:Program)(t:TypeId):Bool:=match P.underlying t with|some .bool=>true|_=>false
def tptr(P:Program)(t:TypeId):Bool:=match P.underlying t with|some (.pointer _)=>true|_=>false
def tfld(P:Program)(t:TypeId)(f:Nat):Option (Nat×Nat×Bool):=match P.underlying t with
 |some (.struct fs)=>match fs[f]? with
  |some fd=>match tsz P fd.type,trow P fd.type with
   |some n,some b=>if n=0 then none else some (fd.offset,n,b)
   |_,_=>none
  |none=>none
 |_=>none
def tel(P:Program)(t:TypeId):Option Nat:=match tsl P t with
 |some e=>tsz P e
 |none=>none
def tbytes(P:Program)(t:TypeId):Bool:=match tsl P t with
 |some e=>match tint P e with
  |some .u8=>true
  |_=>false
 |none=>false
def tcode(P:Program)(t:TypeId):Option Nat:=match P.underlying t with|some (.int _)=>some 0|some .bool=>some 1|some .string=>some 2|_=>none
def tcodes(P:Program):List Field->Nat->Option (List Nat)
 |[],_=>some []
 | f :: fs, o => if f.name ≠ "_" ∧ f.offset = o then match tcode P f.type, tcodes P fs (o + 1) with
  |some c,some l=>some (c::l)
  |_,_=>none else none
def tflat(P:Program)(t:TypeId):Option (List Nat):=match P.underlying t with
 |some (.struct fs)=>if P.stoodInHeld t=false/\P.eqGuardType P.depth t=false then tcodes P fs.toList 0 else none
 |_=>none
def tarr(P:Program)(t:TypeId):Option (Nat×Nat×Bool):=match P.underlying t with
 |some (.array n e)=>match tsz P e,trow P e with
  |some k,some b=>some (n,k,b)
  |_,_=>none
 |_=>none
def aeq1(c:Nat)(x y:AV):Option Bool:=match c,x,y with
 |0,.int k a,.int k' b=>if k=k' then some (a==b)else none
 |1,.bool a,.bool b=>some (a==b)
 |2,.str a,.str b=>some (a==b)
 |_,_,_=>none
def aeqs:List Nat->List AV->List AV->Option Bool
 |[],[],[]=>some true
 |c::cs,x::xs,y::ys=>match aeq1 c x y,aeqs cs xs ys with
  |some b,some r=>some (b&&r)
  |_,_=>none
 |_,_,_=>none
def ubyte:List AV->Option UInt8
 |[.int .u8 n]=>if 0<=n/\n<256 then some (UInt8.ofNat n.toNat)else none
 |_=>none
def ubytes:List (List AV)->Option (List UInt8)
 |[]=>some []
 |r::l=>match ubyte r,ubytes l with
  |some b,some m=>some (b::m)
  |_,_=>none
def bts(l:List UInt8):List (List AV):=l.map fun b=>[.int .u8 (b.toNat:Int)]
theorem qku(l:List UInt8):ubytes (bts l)=some l:=by
 induction l with
 |nil=>rfl
 |cons b l ih=>
  have h:(0:Int)<=(b.toNat:Int)/\(b.toNat:Int)<256:=by have:=b.toNat_lt;omega
  have e:bts (b::l)=[.int .u8 (b.toNat:Int)]::bts l:=rfl;rw[e,ubytes,ubyte,if_pos h,ih];simp
def qnO(op:BinOp)(k:IntKind)(a b:Int):Option AV:=match op with
 | .add=>some (.int k (k.wrap (a+b)))
 | .sub=>some (.int k (k.wrap (a-b)))
 | .mul=>some (.int k (k.wrap (a*b)))
 | .quo=>if b=0 then none else some (.int k (k.wrap (a.tdiv b)))
 | .rem=>if b=0 then none else some (.int k (a.tmod b))
 | .and=>some (.int k (k.wrap (BitVec.ofInt k.bits a&&&BitVec.ofInt k.bits b).toNat))
 | .or=>some (.int k (k.wrap (BitVec.ofInt k.bits a|||BitVec.ofInt k.bits b).toNat))
 | .xor=>some (.int k (k.wrap (BitVec.ofInt k.bits a^^^BitVec.ofInt k.bits b).toNat))
 | .andNot=>some (.int k (k.wrap (BitVec.ofInt k.bits a&&& ~~~(BitVec.ofInt k.bits b)).toNat))
 | .eql=>some (.bool (a==b))
 | .neq=>some (.bool (a !=b))
 | .lss=>some (.bool (decide (a<b)))
 | .leq=>some (.bool (decide (a<=b)))
 | .gtr=>some (.bool (decide (a>b)))
 | .geq=>some (.bool (decide (a>=b)))
 |_=>none
def abSh(op:BinOp)(k:IntKind)(a b:Int):Option AV:=match op with
 | .shl=>if 0<=b then some (.int k (k.wrap (a*2^(min b.toNat k.bits))))else none
 | .shr=>if 0<=b then some (.int k (a.fdiv (2^(min b.toNat k.bits))))else none
 |_=>none
def isSh:BinOp->Bool
 | .shl| .shr=>true
 |_=>false
def tfunc(P:Program)(t:TypeId):Bool:=match P.underlying t with
 |some (.func ..)=>true
 |_=>false
def abin(P:Program)(op:BinOp)(t:TypeId)(x y:AV):Option AV:=match x,y with
 | .int k a,.int k' b=>if isSh op then abSh op k a b else if k=k' then qnO op k a b else none
 | .str a,.str b=>match op with
  | .add=>if a.length+b.length<=maxLen then some (.str (a++b))else none
  | .eql=>some (.bool (a==b))
  | .neq=>some (.bool (a !=b))
  |_=>none
 | .bool a,.bool b=>if tbool P t then match op with
  | .eql=>some (.bool (a==b))
  | .neq=>some (.bool (a !=b))
  |_=>none else none
 | .ptr p,.ptr none=>if tptr P t then match op with
  | .eql=>some (.bool p.isNone)
  | .neq=>some (.bool p.isSome)
  |_=>none else none
 | .elt _,.ptr none=>if tptr P t then match op with
  | .eql=>some (.bool false)
  | .neq=>some (.bool true)
  |_=>none else none
 | .sl _ _ (_::_),.nil=>if(tsl P t).isSome then match op with
  | .eql=>some (.bool false)
  | .neq=>some (.bool true)
  |_=>none else none
 | .bx _ _ _ _ _,.nil=>if(tsl P t).isSome then match op with
  | .eql=>some (.bool false)
  | .neq=>some (.bool true)
  |_=>none else none
 | .fn _ _,.raw .nilFunc=>if tfunc P t then match op with
  | .eql=>some (.bool false)
  | .neq=>some (.bool true)
  |_=>none else none
 | .raw .nilFunc,.raw .nilFunc=>if tfunc P t then match op with
  | .eql=>some (.bool true)
  | .neq=>some (.bool false)
  |_=>none else none
 | .agg l,.agg m=>match tflat P t with
  |some cs=>match aeqs cs l m with
   |some b=>(match op with
    | .eql=>some (.bool b)
    | .neq=>some (.bool !b)
    |_=>none)
   |none=>none
  |none=>none
 |_,_=>none
def aun(op:UnOp)(x:AV):Option AV:=match op,x with
 | .neg,.int k n=>some (.int k (k.wrap (0-n)))
 | .not,.bool b=>some (.bool !b)
 |_,_=>none
def aconv(P:Program)(s d:TypeId)(x:AV):Option AV:=match x with
 | .int _ n=>match(P.underlying s).isSome,tint P d with
  |true,some k=>some (.int k (k.wrap n))
  |_,_=>none
 | .str l=>if(P.underlying s).isSome&&tstr P d then some (.str l)else none
 | .sl _ _ rows=>if tbytes P s&&tstr P d then(ubytes rows).map .str else none
 | .nil=>if tbytes P s&&tstr P d then some (.str [])else none
 |_=>none
def abound(x:Option AV)(n:Nat):Option Nat:=match x with
 |none=>some n
 |some (.int _ i)=>if 0<=i then some i.toNat else none
 |some _=>none
def aslice(P:Program)(t:TypeId)(x:AV)(lo hi mx:Option AV):Option AV:=match x with
 | .str l=>if tstr P t&&mx.isNone then match abound lo 0,abound hi l.length with
  |some a,some b=>if a<=b/\b<=l.length then some (.str ((l.drop a).take (b-a)))else none
  |_,_=>none else none
 | .sl _ k rows=>if tel P t=some k then match mx with
  |none=>match abound lo 0,abound hi rows.length with
   |some a,some b=>if a<=b/\b<=rows.length then some (.sl false k ((rows.drop a).take (b-a)))else none
   |_,_=>none
  |some (.int _ m)=>match abound lo 0,hi with
   |some a,some (.int _ b)=>if 0<=b/\a<=b.toNat/\b<=m/\m<=rows.length then some (.sl false k ((rows.drop a).take (b.toNat-a)))else none
   |_,_=>none
  |_=>none else none
 | .nil=>if(tel P t).isSome&&mx.isNone then match abound lo 0,abound hi 0 with
  |some 0,some 0=>some .nil
  |_,_=>none else none
 | .ptr (some (i,o))=>match tarr P t with
  |some (m,k,_)=>if mx.isNone/\m<=maxLen then match abound lo 0,abound hi m with
   |some a,some b=>if a<=b/\b<=m then some (.bx i (if m=a then o else o+a*k) (b-a) (m-a) k)else none
   |_,_=>none else none
  |none=>none
 | .bx i o n c k=>if tel P t=some k then match mx with
  |none=>match abound lo 0,abound hi n with
   |some a,some b=>if a<=b/\b<=c then some (.bx i (if c=a then o else o+a*k) (b-a) (c-a) k)else none
   |_,_=>none
  |some (.int _ m)=>match abound lo 0,hi with
   |some a,some (.int _ b)=>if 0<=b/\a<=b.toNat/\b<=m/\m<=c then some (.bx i (if m.toNat=a then o else o+a*k) (b.toNat-a) (m.toNat-a) k)else none
   |_,_=>none
  |_=>none else none
 |_=>none
def afaddr(P:Program)(t:TypeId)(x:AV)(f:Nat):Option AV:=match tfld P t f with
 |some (o,n,_)=>match x with
  | .ptr (some (i,p))=>some (.ptr (some (i,p+o)))
  | .elt cells=>if o+n<=cells.length then some (.elt ((cells.drop o).take n))else none
  |_=>none
 |none=>none
def afield(P:Program)(t:TypeId)(x:AV)(f:Nat):Option AV:=match tfld P t f,x with
 |some (o,n,b),.agg cells=>if b then(if o+n<=cells.length then some (.agg ((cells.drop o).take n))else none)else cells[o]?
 |_,_=>none
def aixaddr(P:Program)(t:TypeId)(x i:AV):Option AV:=match x,i with
 | .sl _ k rows,.int _ n=>if tel P t=some k/\0<=n then(match rows[n.toNat]? with
  |some r=>some (.elt r)
  |none=>none)else none
 | .ptr (some (i,o)),.int _ n=>match tarr P t with
  |some (m,k,_)=>if 0<=n/\n.toNat<m then some (.ptr (some (i,o+n.toNat*k)))else none
  |none=>none
 | .bx i o m _ k,.int _ n=>if tel P t=some k/\0<=n/\n.toNat<m then some (.ptr (some (i,o+n.toNat*k)))else none
 |_,_=>none
def aix(P:Program)(t:TypeId)(x i:AV):Option AV:=match x,i with
 | .str l,.int _ n=>if tstr P t=true/\0<=n then(match l[n.toNat]? with
  |some b=>some (.int .u8 (b.toNat:Int))
  |none=>none)else none
 | .agg l,.int _ n=>match tarr P t with
  |some (m,k,b)=>if 0<=n/\n.toNat<m then(if b then(if n.toNat*k+k<=l.length then some (.agg ((l.drop (n.toNat*k)).take k))else none)else l[n.toNat*k]?)else none
  |none=>none
 |_,_=>none
def aextract(x:AV)(i:Nat):Option AV:=match x with
 | .tup l=>l[i]?
 |_=>none
def anil(x:AV):Option AV:=match x with
 | .ptr (some p)=>some (.ptr (some p))
 | .elt l=>some (.elt l)
 | .fn f l=>some (.fn f l)
 |_=>none
def alen(P:Program)(t:TypeId)(x:AV):Option AV:=match x with
 | .str l=>if tstr P t then some (.int .i64 l.length)else none
 | .sl _ _ rows=>if(tsl P t).isSome then some (.int .i64 rows.length)else none
 | .nil=>if(tsl P t).isSome then some (.int .i64 0)else none
 | .bx _ _ n _ _=>if(tsl P t).isSome then some (.int .i64 n)else none
 |_=>none
section
variable {P:Program}{w:World}{β:Nat->Nat}{Rd:Nat->Nat->Prop}{N:Nat}
theorem qbs{t:TypeId}(h:tstr P t=true):P.underlying t=some .string:=by
 unfold tstr at h;split at h<;>simp_all
theorem qky{t:TypeId}(h:tbool P t=true):P.underlying t=some .bool:=by
 unfold tbool at h;split at h<;>simp_all
theorem qhH{t:TypeId}(h:tptr P t=true):∃e,P.underlying t=some (.pointer e):=by
 unfold tptr at h;split at h<;>simp_all
theorem qa0{t e:TypeId}(h:tsl P t=some e):P.underlying t=some (.slice e):=by
 unfold tsl at h;split at h<;>simp_all
theorem qfs{t:TypeId}{k:IntKind}(h:tint P t=some k):P.underlying t=some (.int k):=by
 unfold tint at h;split at h<;>simp_all
theorem qbV{t:TypeId}{n:Nat}(h:tsz P t=some n):∃i,P.info? t=some i/\i.size=n:=by
 unfold tsz at h;cases hi:P.info? t with
 |none=>simp[hi]at h
 |some i=>exact⟨i,rfl,by simpa[hi]using h⟩
theorem qdW{t:TypeId}{b:Bool}(h:trow P t=some b):∃d,P.underlying t=some d/\d.isRow=b:=by
 unfold trow at h;cases hi:P.underlying t with
 |none=>simp[hi]at h
 |some i=>exact⟨i,rfl,by simpa[hi]using h⟩
theorem qce{t:TypeId}{k:Nat}(h:tel P t=some k):∃e i,P.underlying t=some (.slice e)/\P.info? e=some i/\i.size=k:=by
 unfold tel at h;split at h
 ·rename_i e he;obtain⟨i,h1,h2⟩:=qbV h;exact⟨e,i,qa0 he,h1,h2⟩
 ·cases h
theorem qcM{t:TypeId}(h:tbytes P t=true):∃e,P.underlying t=some (.slice e)/\P.underlying e=some (.int .u8):=by
 unfold tbytes at h;split at h
 ·rename_i e he;split at h
  ·rename_i hk;exact⟨e,qa0 he,qfs hk⟩
  ·cases h
 ·cases h
theorem qdb{t:TypeId}{b:Bool}(h:trow P t=some b)(w:World):(isAgg t).run P w= .ok b w:=by
 obtain⟨d,hu,hd⟩:=qdW h;unfold isAgg;rw[Sem.run_bind,run_underlying hu w];cases d<;>simp_all
theorem qcv{t:TypeId}{n:Nat}(h:tsz P t=some n)(w:World):(sizeOf t).run P w= .ok n w:=by
 obtain⟨i,h1,h2⟩:=qbV h;simp[sizeOf,typeInfo,h1,h2]
structure Got (w:World) (β:Nat->Nat) (Rd:Nat->Nat->Prop) (N:Nat) (v:AV) (c:Value):Prop where
 rel:Rel w β Rd v c
 bnd:Bnd N v
 free:v.free=true
theorem Got.int{k:IntKind}{n:Int}:Got w β Rd N (.int k n) (.int k n):=⟨.int k n,.int k n,rfl⟩
theorem Got.bool{b:Bool}:Got w β Rd N (.bool b) (.bool b):=⟨.bool b,.bool b,rfl⟩
theorem qas{k:IntKind}{n:Int}{v:Value}(h:Rel w β Rd (.int k n) v):v= .int k n:=by cases h;rfl
theorem qbX{b:Bool}{v:Value}(h:Rel w β Rd (.bool b) v):v= .bool b:=by cases h;rfl
theorem qaq{l:List UInt8}{v:Value}(h:Rel w β Rd (.str l) v):∃s:ByteArray,v= .string s/\s.data.toList=l/\s.size<=maxLen:=by cases h with|str s _ h hm=>exact⟨s,rfl,h,hm⟩
theorem qdL{s:ByteArray}{l:List UInt8}(h:s.data.toList=l)(hm:s.size<=maxLen):Got w β Rd N (.str l) (.string s):=⟨.str s l h hm,.str l,rfl⟩
theorem qpz {op : BinOp} {k : IntKind} {a b : Int} {v : AV} (h : qnO op k a b = some v) (t : TypeId) (hs : isSh op = false) : ∃ c, (binOp op t (.int k a) (.int k b)).run P w = .ok c w ∧ Got w β Rd N v c := by
  cases op <;> simp only [isSh, Bool.true_eq_false] at hs <;> simp only [qnO, Option.some.injEq, reduceCtorEq] at h <;>
    first
      | (subst h; exact ⟨.int k _, by simp [binOp, Op.intArith, Op.intBits, Op.intCmp], Got.int⟩)
      | (subst h; exact ⟨.bool _, by simp [binOp, Op.intArith, Op.intBits, Op.intCmp], Got.bool⟩)
      | (split at h
         · cases h
         · rename_i hb
           cases h
           exact ⟨.int k _, by simp [binOp, Op.intDiv, hb], Got.int⟩)
      | cases h
theorem qpY(d:Nat){xs ys:Array Value}:∀(fs:List Field) (o:Nat) (cs:List Nat) (l m:List AV) (b:Bool),tcodes P fs o=some cs->aeqs cs l m=some b->o+l.length=xs.size->o+m.length=ys.size->
  (∀(j:Nat) (x:AV) (u:Value),l[j]? =some x->xs[o+j]? =some u->Rel w β Rd x u)->(∀(j:Nat) (x:AV) (u:Value),m[j]? =some x->ys[o+j]? =some u->Rel w β Rd x u)->(Op.eqFields (d+1) xs ys fs).run P w= .ok b w
 |[],o,cs,l,m,b,h1,h2,_,_,_,_=>by
  rw[tcodes]at h1;cases h1;cases l<;>cases m<;>simp[aeqs]at h2;subst h2;simp[Op.eqFields]
 |f::fs,o,cs,l,m,b,h1,h2,hl,hm,hx,hy=>by
  rw[tcodes]at h1;split at h1
  ·rename_i hn;obtain⟨hn,rfl⟩:=hn;split at h1
   ·rename_i c cs' hc hcs;cases h1;cases l with
    |nil=>simp[aeqs]at h2
    |cons x l=>
     cases m with
     |nil=>simp[aeqs]at h2
     |cons y m=>
      rw[aeqs]at h2;split at h2
      ·rename_i b1 b2 e1 e2;cases h2;have hxs:f.offset<xs.size:=by rw[<-hl];simp
       have hys:f.offset<ys.size:=by rw[<-hm];simp
       have ex:xs[f.offset]? =some xs[f.offset]:=zqM hxs;have ey:ys[f.offset]? =some ys[f.offset]:=zqM hys;have rx:=hx 0 x _ rfl ex;have ry:=hy 0 y _ rfl ey
       have ih:=qpY d fs (f.offset+1) cs' l m b2 hcs e2 (by rw[<-hl];simp;omega) (by rw[<-hm];simp;omega)
        (fun j z u hz hu=>hx (j+1) z u hz (by rw[<-hu];congr 1;omega)) (fun j z u hz hu=>hy (j+1) z u hz (by rw[<-hu];congr 1;omega))
       have key:(∀w,(isAgg f.type).run P w= .ok false w)/\(Op.equalIn (d+1) f.type xs[f.offset] ys[f.offset]).run P w= .ok b1 w:=by
        unfold tcode at hc;unfold aeq1 at e1;split at hc
        ·rename_i k hu;cases hc;refine⟨fun w=>by simp[isAgg,run_underlying hu],?_⟩;split at e1<;>first|(exfalso;omega)|skip
         ·rename_i k1 a k2 b' _;rw[qas rx,qas ry];split at e1
          ·rename_i hk;subst hk;cases e1;exact run_equalIn_int w d f.type k1 k a b' hu
          ·cases e1
         ·cases e1
        ·rename_i hu;cases hc;refine⟨fun w=>by simp[isAgg,run_underlying hu],?_⟩;split at e1<;>first|(exfalso;omega)|skip
         ·cases e1;rw[qbX rx,qbX ry];exact run_equalIn_bool' w d f.type _ _ hu
         ·cases e1
        ·rename_i hu;cases hc;refine⟨fun w=>by simp[isAgg,run_underlying hu],?_⟩;split at e1<;>first|(exfalso;omega)|skip
         ·cases e1;obtain⟨s,es,rfl,_⟩:=qaq rx;obtain⟨s',es',rfl,_⟩:=qaq ry;rw[es,es',<-qa2,<-qa2];exact run_equalIn_string w d f.type _ _ hu
         ·cases e1
        ·cases hc
       obtain⟨k1,k2⟩:=key;simp only[Op.eqFields,ne_eq,hn,not_false_eq_true,if_true,Sem.run_bind,part,k1,Result.andThen_ok,Bool.false_eq_true,if_false,ex,ey,Sem.run_pure,k2,Sem.run_ite,ih];cases b1<;>simp
      ·cases h2
   ·cases h1
  ·cases h1
theorem qqA{own:Bool}{k:Nat}{rows:List (List AV)}{v:Value}(h:Rel w β Rd (.sl own k rows) v):∃xs,(∀r∈rows,r.length=k)/\RSl w k v rows.length xs/\True:=by
 cases h with
 |sl _ _ _ _ xs hk hx=>exact⟨xs,hk,hx,trivial⟩
theorem qhM{op:BinOp}{t:TypeId}{v:AV}(a:Addr)(n c:Nat)(h:(if(tsl P t).isSome then match op with
  | .eql=>some (AV.bool false)
  | .neq=>some (AV.bool true)
  |_=>none else none)=some v) (ox oy:Operand):∃c',(do eqGuard op t ox oy (.slice (some a) n c) (.slice none 0 0);binOp op t (.slice (some a) n c) (.slice none 0 0):Sem Value).run P w= .ok c' w/\Got w β Rd N v c':=by
 have hg:(eqGuard op t ox oy (.slice (some a) n c) (.slice none 0 0)).run P w= .ok () w:=by
  unfold eqGuard;cases op<;>simp
 split at h
 ·rename_i hb;obtain⟨e,he⟩:=Option.isSome_iff_exists.1 hb;have hu:=qa0 he;have heq:∀d:Nat,(Op.equalIn (d+1) t (.slice (some a) n c) (.slice none 0 0)).run P w= .ok false w:=fun d=>by simp[Op.equalIn,run_underlying hu]
  split at h
  ·cases h;refine⟨.bool false,?_,Got.bool⟩;rw[Sem.run_bind,hg];simp only[binOp];simp[Op.equal,Op.maxDepth,heq 9999]
  ·cases h;refine⟨.bool true,?_,Got.bool⟩;rw[Sem.run_bind,hg];simp only[binOp];simp[Op.equal,Op.maxDepth,heq 9999]
  ·cases h
 ·cases h
theorem qo1{op:BinOp}{t:TypeId}{v:AV}(f:Fn)(a b:Array Value)(h:(if tfunc P t then match op with
  | .eql=>some (AV.bool false)
  | .neq=>some (.bool true)
  |_=>none else none)=some v) (ox oy:Operand):∃c,(do eqGuard op t ox oy (.func f a b) .nilFunc;binOp op t (.func f a b) .nilFunc:Sem Value).run P w= .ok c w/\Got w β Rd N v c:=by
 have hg:(eqGuard op t ox oy (.func f a b) .nilFunc).run P w= .ok () w:=by
  unfold eqGuard;cases op<;>simp
 split at h
 ·rename_i hb;unfold tfunc at hb;split at hb
  ·rename_i ps rs vd hu
   have he0:∀d,(Op.equalIn (d+1) t (.func f a b) .nilFunc).run P w= .ok false w:=fun d=>by
    simp[Op.equalIn,run_underlying hu]
   have he:(Op.equalIn 10000 t (.func f a b) .nilFunc).run P w= .ok false w:=he0 9999;split at h
   ·cases h;refine⟨.bool false,?_,Got.bool⟩;rw[Sem.run_bind,hg];simp only[Result.andThen_ok];simp[binOp,Op.equal,Op.maxDepth,he]
   ·cases h;refine⟨.bool true,?_,Got.bool⟩;rw[Sem.run_bind,hg];simp only[Result.andThen_ok];simp[binOp,Op.equal,Op.maxDepth,he]
   ·cases h
  ·cases hb
 ·cases h
theorem qmL{op:BinOp}{t:TypeId}{v:AV}(h:(if tfunc P t then match op with
  | .eql=>some (AV.bool true)
  | .neq=>some (.bool false)
  |_=>none else none)=some v) (ox oy:Operand):∃c,(do eqGuard op t ox oy .nilFunc .nilFunc;binOp op t .nilFunc .nilFunc:Sem Value).run P w= .ok c w/\Got w β Rd N v c:=by
 have hg:(eqGuard op t ox oy .nilFunc .nilFunc).run P w= .ok () w:=by
  unfold eqGuard;cases op<;>simp
 split at h
 ·rename_i hb;unfold tfunc at hb;split at hb
  ·rename_i ps rs vd hu
   have he0:∀d,(Op.equalIn (d+1) t .nilFunc .nilFunc).run P w= .ok true w:=fun d=>by
    simp[Op.equalIn,run_underlying hu]
   have he:(Op.equalIn 10000 t .nilFunc .nilFunc).run P w= .ok true w:=he0 9999;split at h
   ·cases h;refine⟨.bool true,?_,Got.bool⟩;rw[Sem.run_bind,hg];simp only[Result.andThen_ok];simp[binOp,Op.equal,Op.maxDepth,he]
   ·cases h;refine⟨.bool false,?_,Got.bool⟩;rw[Sem.run_bind,hg];simp only[Result.andThen_ok];simp[binOp,Op.equal,Op.maxDepth,he]
   ·cases h
  ·cases hb
 ·cases h
theorem qrq{op:BinOp}{t:TypeId}{x y v:AV}{cx cy:Value}(h:abin P op t x y=some v)(hx:Rel w β Rd x cx)(hy:Rel w β Rd y cy)(ox oy:Operand):
  ∃c,(do eqGuard op t ox oy cx cy;binOp op t cx cy:Sem Value).run P w= .ok c w/\Got w β Rd N v c:=by
 unfold abin at h;split at h
 ·rename_i k a k' b;obtain rfl:=qas hx;obtain rfl:=qas hy
  have hg:(eqGuard op t ox oy (.int k a) (.int k' b)).run P w= .ok () w:=by
   unfold eqGuard;cases op<;>simp
  split at h
  ·rename_i hsh;cases op<;>simp only[isSh,Bool.false_eq_true]at hsh<;>simp only[abSh]at h<;>split at h<;>cases h
   ·rename_i hb;exact⟨_,by simp[hg,binOp,Op.shift,show ¬b<0 by omega],Got.int⟩
   ·rename_i hb;exact⟨_,by simp[hg,binOp,Op.shift,show ¬b<0 by omega],Got.int⟩
  ·rename_i hsh;split at h
   ·rename_i hk;subst hk;obtain⟨c,h1,h2⟩:=qpz (P:=P) (w:=w) (β:=β) (Rd:=Rd) (N:=N) h t (by simpa using hsh);exact⟨c,by rw[Sem.run_bind,hg];exact h1,h2⟩
   ·cases h
 ·rename_i a b;obtain⟨s,rfl,rfl,hs⟩:=qaq hx;obtain⟨s',rfl,rfl,hs'⟩:=qaq hy
  have hg:(eqGuard op t ox oy (.string s) (.string s')).run P w= .ok () w:=by
   unfold eqGuard;cases op<;>simp
  split at h
  ·split at h
   ·rename_i hle;cases h;have hle':s.size+s'.size<=maxLen:=by rw[<-qad,<-qad];exact hle
    have hmx:(IntKind.i64.max:Int)=9223372036854775807:=rfl;refine⟨.string (s++s'),?_,qdL (by simp[ByteArray.data_append]) (by rw[ByteArray.size_append];exact hle')⟩;rw[Sem.run_bind,hg];have:¬(((s.size+s'.size:Nat):Int)>IntKind.i64.max):=by rw[hmx];simp only[maxLen]at hle';omega
    simp only[Result.andThen,binOp,Op.stringOp,if_neg this];rfl
   ·cases h
  ·cases h;refine⟨_,by rw[Sem.run_bind,hg];simp[binOp,Op.stringOp];rfl,?_⟩;rw[qa2,qa2];exact Got.bool
  ·cases h;refine⟨_,by rw[Sem.run_bind,hg];simp[binOp,Op.stringOp];rfl,?_⟩;rw[qa2,qa2];exact Got.bool
  ·cases h
 ·rename_i a b;obtain rfl:=qbX hx;obtain rfl:=qbX hy
  have hg:(eqGuard op t ox oy (.bool a) (.bool b)).run P w= .ok () w:=by
   unfold eqGuard;cases op<;>simp
  split at h
  ·rename_i hb;have hb:=qky hb;split at h
   ·cases h;exact⟨.bool _,by rw[Sem.run_bind,hg];exact run_eql_bool w t a b hb,Got.bool⟩
   ·cases h;exact⟨.bool _,by rw[Sem.run_bind,hg];exact run_neq_bool w t a b hb,Got.bool⟩
   ·cases h
  ·cases h
 ·rename_i p;have hy':cy= .pointer none:=by cases hy;rfl
  subst hy';have hx':∃q:Option Addr,cx= .pointer q/\q.isNone=p.isNone:=by cases hx<;>exact⟨_,rfl,rfl⟩
  obtain⟨q,rfl,hq⟩:=hx'
  have hg:(eqGuard op t ox oy (.pointer q) (.pointer none)).run P w= .ok () w:=by
   unfold eqGuard;cases op<;>simp
  split at h
  ·rename_i hb;obtain⟨e,hb⟩:=qhH hb;have hbp:P.underlying t=some (.pointer (P.pointee t)):=by simp[Program.pointee,hb]
   have hq2:q.isSome=p.isSome:=by cases q<;>cases p<;>simp_all
   split at h
   ·cases h;refine⟨.bool q.isNone,?_,by rw[hq];exact Got.bool⟩;rw[Sem.run_bind,hg];exact run_eql_pointer_nil w t q hbp
   ·cases h;refine⟨.bool q.isSome,?_,by rw[hq2];exact Got.bool⟩;rw[Sem.run_bind,hg];refine(run_neq_pointer_nil w t q hbp).trans ?_;cases q<;>rfl
   ·cases h
  ·cases h
 ·have hy':cy= .pointer none:=by cases hy;rfl
  subst hy';have hx':∃q:Addr,cx= .pointer (some q):=by cases hx;exact⟨_,rfl⟩
  obtain⟨q,rfl⟩:=hx'
  have hg:(eqGuard op t ox oy (.pointer (some q)) (.pointer none)).run P w= .ok () w:=by
   unfold eqGuard;cases op<;>simp
  split at h
  ·rename_i hb;obtain⟨e,hb⟩:=qhH hb;have hbp:P.underlying t=some (.pointer (P.pointee t)):=by simp[Program.pointee,hb]
   split at h
   ·cases h;refine⟨.bool false,?_,Got.bool⟩;rw[Sem.run_bind,hg];exact run_eql_pointer_nil w t (some q) hbp
   ·cases h;refine⟨.bool true,?_,Got.bool⟩;rw[Sem.run_bind,hg];exact run_neq_pointer_nil w t (some q) hbp
   ·cases h
  ·cases h
 ·have hy':cy= .slice none 0 0:=by cases hy;rfl
  subst hy';obtain⟨xs,_,hx2,_⟩:=qqA hx;obtain⟨_,ao,c,rfl,_,_,h4⟩:=hx2;obtain⟨g,o,rfl,_⟩:=h4 (by simp);exact qhM ⟨g,o,none⟩ _ c h ox oy
 ·have hy':cy= .slice none 0 0:=by cases hy;rfl
  subst hy';obtain⟨g,o,n,c,rfl⟩:∃g o n c,cx= .slice (some ⟨g,o,none⟩) n c:=by cases hx;exact⟨_,_,_,_,rfl⟩
  exact qhM ⟨g,o,none⟩ n c h ox oy
 ·have hy':cy= .nilFunc:=by cases hy;rfl
  subst hy';obtain⟨a,b,c,rfl⟩:∃a b c,cx= .func a b c:=by cases hx<;>exact⟨_,_,_,rfl⟩
  exact qo1 a b c h ox oy
 ·have hx':cx= .nilFunc:=by cases hx;rfl
  have hy':cy= .nilFunc:=by cases hy;rfl
  subst hx' hy';exact qmL h ox oy
 ·rename_i l m;split at h
  ·rename_i cs hcs;split at h
   ·rename_i b hb;cases hx with
    |agg _ xs hl hf hr=>
     cases hy with
     |agg _ ys hl' hf' hr'=>
      unfold tflat at hcs;split at hcs
      ·rename_i fs hu;split at hcs
       ·rename_i hc;have hfs:P.fieldsOf t=fs:=by simp[Program.fieldsOf,hu]
        have hg:=run_eqGuard_agg (P:=P) w op t ox oy xs ys hc.2
        have he:(Op.equalIn 10000 t (.agg xs) (.agg ys)).run P w= .ok b w:=by
         rw[run_equalIn_struct w 9999 t xs ys (by rw[hfs];exact hu) hc.1,hfs];exact qpY (w:=w) (β:=β) (Rd:=Rd) 9998 fs.toList 0 cs l m b hcs hb (by simpa using hl.symm) (by simpa using hl'.symm) (fun j x u hx hu=>hr j x u hx (by simpa using hu)) (fun j x u hx hu=>hr' j x u hx (by simpa using hu))
        split at h
        ·cases h;refine⟨.bool b,?_,Got.bool⟩;rw[Sem.run_bind,hg];simp only[Result.andThen_ok];rw[run_eql_struct w t xs ys,he];rfl
        ·cases h;refine⟨.bool !b,?_,Got.bool⟩;rw[Sem.run_bind,hg];simp only[Result.andThen_ok];rw[run_neq_struct w t xs ys,he];rfl
        ·cases h
       ·cases hcs
      ·cases hcs
   ·cases h
  ·cases h
 ·cases h
end
theorem qfU{l:List (List AV)}{k:Nat}(h:∀r∈l,r.length=k)(a:Nat):(l.drop a).flatten=l.flatten.drop (a*k):=by
 induction a generalizing l with
 |zero=>simp
 |succ a ih=>
  cases l with
  |nil=>simp
  |cons r l=>
   rw[List.drop_succ_cons,ih (fun r hr=>h r (by simp[hr])),List.flatten_cons,List.drop_append];have hr:=h r (by simp);have e:r.drop ((a+1)*k)=[]:=List.drop_of_length_le (by rw[hr,Nat.add_mul];omega);rw[e,hr,List.nil_append];congr 1;rw[Nat.add_mul];omega
theorem qik{l:List (List AV)}{k:Nat}(h:∀r∈l,r.length=k)(a:Nat):(l.take a).flatten=l.flatten.take (a*k):=by
 induction a generalizing l with
 |zero=>simp
 |succ a ih=>
  cases l with
  |nil=>simp
  |cons r l=>
   rw[List.take_succ_cons,List.flatten_cons,ih (fun r hr=>h r (by simp[hr])),List.flatten_cons,List.take_append];have hr:=h r (by simp);have e:r.take ((a+1)*k)=r:=zqE (by rw[hr,Nat.add_mul];omega);rw[e,hr];congr 2;rw[Nat.add_mul];omega
theorem qhi{l:List (List AV)}{k:Nat}(h:∀r∈l,r.length=k){i:Nat}{r:List AV}(hr:l[i]? =some r)(j:Nat)(hj:j<k):l.flatten[i*k+j]? =r[j]? :=by
 have hi:=(zqC.1 hr).1
 have h1:l.flatten.drop (i*k)=r++(l.drop (i+1)).flatten:=by
  rw[<-qfU h,List.drop_eq_getElem_cons hi,List.flatten_cons];rw[(zqC.1 hr).2]
 have hk:=h r (qak hr);have:(l.flatten.drop (i*k))[j]? =l.flatten[i*k+j]? :=by rw[zqN]
 rw[<-this,h1,zqA (by omega)]
theorem RSl.sub{w:World}{k n cap:Nat}{ao:Option Addr}{xs:List Value}(h:RSl w k (.slice ao n cap) n xs)(a b m:Nat)(hab:a<=b)(hb:b<=n)(hm:b<=m)(hmc:m<=cap):
  RSl w k (.slice (if m=a then ao else ao.map (·.add (a*k))) (b-a) (m-a)) (b-a) ((xs.drop (a*k)).take ((b-a)*k)):=by
 obtain⟨hl,ao',cap',he,h1,h2,h3⟩:=h;cases he;have hbk:b*k<=n*k:=Nat.mul_le_mul_right _ hb;have hak:a*k<=b*k:=Nat.mul_le_mul_right _ hab;refine⟨by rw[zqJ,zqI,hl,Nat.sub_mul];omega,_,_,rfl,by omega,by omega,fun hp=>?_⟩;obtain⟨g,o,rfl,hc⟩:=h3 (by omega);refine⟨g,o+a*k,by rw[if_neg (by omega)];simp[Addr.add_mid],fun j hj=>?_⟩;rw[Nat.add_assoc,hc (a*k+j) (by rw[Nat.sub_mul]at hj;omega),zqG hj,zqN]
section
variable {P:Program}{w:World}{β:Nat->Nat}{Rd:Nat->Nat->Prop}{N:Nat}
theorem aun_ok{op:UnOp}{x v:AV}{c:Value}(h:aun op x=some v)(hx:Rel w β Rd x c):∃c',(Op.unary op c).run P w= .ok c' w/\Got w β Rd N v c':=by
 unfold aun at h;split at h
 ·cases h;obtain rfl:=qas hx;exact⟨.int _ _,by simp[Op.unary,Op.intArith],Got.int⟩
 ·cases h;obtain rfl:=qbX hx;exact⟨.bool _,by simp[Op.unary],Got.bool⟩
 ·cases h
theorem qeS{own:Bool}{k:Nat}{rows:List (List AV)}{v:Value}(h:Rel w β Rd (.sl own k rows) v):∃xs,(∀r∈rows,r.length=k)/\RSl w k v rows.length xs/\(∀g o n c,v= .slice (some ⟨g,o,none⟩) n c->∀j,j<rows.length*k->Rd g (o+j))/\
  (∀r∈rows,∀x∈r,x.free=true/\x.one=true)/\(∀(j:Nat) (x:AV) (u:Value),rows.flatten[j]? =some x->xs[j]? =some u->Rel w β Rd x u):=by
 cases h with
 |sl _ _ _ _ xs hk hx hd ho hf hr=>exact⟨xs,hk,hx,hd,hf,hr⟩
theorem qfn{rows:List (List AV)}{l:List UInt8}(h:ubytes rows=some l):rows=bts l:=by
 induction rows generalizing l with
 |nil=>simp[ubytes]at h;subst h;rfl
 |cons r rows ih=>
  rw[ubytes]at h;split at h
  ·rename_i b m hb hm;cases h;have:=ih hm;subst this;unfold ubyte at hb;split at hb
   ·rename_i n;split at hb
    ·rename_i hn;cases hb;show _=[AV.int .u8 ((UInt8.ofNat n.toNat).toNat:Int)]::bts m;rw[UInt8.toNat_ofNat',Nat.mod_eq_of_lt (by omega),Int.toNat_of_nonneg hn.1]
    ·cases hb
   ·cases hb
  ·cases h
theorem qc2(l:List UInt8):(bts l).length=l.length:=by simp[bts]
theorem qff(l:List UInt8)(j:Nat):(bts l).flatten[j]? =(l[j]?).map fun b=> .int .u8 (b.toNat:Int):=by
 induction l generalizing j with
 |nil=>simp[bts]
 |cons b l ih=>
  have e:(bts (b::l)).flatten= .int .u8 (b.toNat:Int)::(bts l).flatten:=rfl;rw[e];cases j with
  |zero=>rfl
  |succ j=>rw[List.getElem?_cons_succ,List.getElem?_cons_succ,ih]
theorem qqC{own:Bool}{k:Nat}{l:List UInt8}{v:Value}(h:Rel w β Rd (.sl own k (bts l)) v)(hk:l≠[]->k=1):RSl w 1 v l.length (u8s l):=by
 obtain⟨xs,h1,h2,h3,h4,h5⟩:=qeS h;rw[qc2]at h2;cases hl:l with
 |nil=>
  subst hl;obtain⟨e1,ao,cap,rfl,e2,e3,_⟩:=h2;exact⟨rfl,ao,cap,rfl,e2,e3,fun h=>absurd h (by simp)⟩
 |cons b m=>
  have hk':=hk (by rw[hl];simp);rw[<-hl];subst hk'
  have:xs=u8s l:=by
   apply List.ext_getElem?;intro j;by_cases hj:j<l.length
   ·have hx:xs[j]? =some (xs[j]'(by rw[h2.1];omega)):=zqD _;have hb:=h5 j (.int .u8 ((l[j]'hj).toNat:Int)) _ (by rw[qff,zqD hj];rfl) hx;rw[hx,qas hb,qdU,zqD hj];rfl
   ·rw[List.getElem?_eq_none (by rw[h2.1];omega),List.getElem?_eq_none (by rw[qb0];omega)]
  rw[<-this];exact h2
theorem bts_k{k:Nat}{l:List UInt8}(h:∀r∈bts l,r.length=k):l≠[]->k=1:=by
 intro hl;cases l with
 |nil=>exact absurd rfl hl
 |cons b m=>exact(h _ (List.mem_cons_self ..)).symm
theorem RSl.sliceForm{k n:Nat}{v:Value}{xs:List Value}(h:RSl w k v n xs):∃ao cap,v= .slice ao n cap:=by obtain⟨_,ao,cap,rfl,_⟩:=h;exact⟨ao,cap,rfl⟩
theorem qpy{s d:TypeId}{x v:AV}{c:Value}(h:aconv P s d x=some v)(hx:Rel w β Rd x c):∃c',(convert s d c).run P w= .ok c' w/\Got w β Rd N v c':=by
 unfold aconv at h;split at h
 ·obtain rfl:=qas hx;split at h
  ·rename_i h1 h2;cases h;obtain⟨ds,hs⟩:=Option.isSome_iff_exists.1 h1;have hd:=qfs h2;exact⟨.int _ _,by simp[convert,run_underlying hs,run_underlying hd,Conv.intToInt],Got.int⟩
  ·cases h
 ·obtain⟨sb,rfl,hsb,hsz⟩:=qaq hx;split at h
  ·rename_i h1;cases h;simp only[Bool.and_eq_true]at h1;obtain⟨ds,hs⟩:=Option.isSome_iff_exists.1 h1.1;have hd:=qbs h1.2;refine⟨.string sb,?_,qdL hsb hsz⟩;simp[convert,run_underlying hs,run_underlying hd]
  ·cases h
 ·rename_i own k rows;split at h
  ·rename_i h1;simp only[Bool.and_eq_true]at h1;obtain⟨e,hs,he⟩:=qcM h1.1;have hd:=qbs h1.2;cases hu:ubytes rows with
   |none=>simp[hu]at h
   |some l=>
    simp[hu]at h;subst h;have hrows:=qfn hu;subst hrows;obtain⟨xs,hk,hx2,_⟩:=qeS hx;have hr:=qqC hx (bts_k hk);obtain⟨ao,cap,rfl⟩:=hr.sliceForm;refine⟨_,qbL w s d e ao _ cap l hs he hd hr,qdL rfl ?_⟩;rw[qiI];obtain⟨_,_,_,he',e1,e2,_⟩:=hr;cases he';omega
  ·cases h
 ·split at h
  ·rename_i h1;cases h;simp only[Bool.and_eq_true]at h1;obtain⟨e,hs,he⟩:=qcM h1.1;have hd:=qbs h1.2;have hc:c= .slice none 0 0:=by cases hx;rfl
   subst hc;exact⟨_,qbL w s d e none 0 0 [] hs he hd ⟨rfl,none,0,rfl,Nat.le_refl _,Nat.zero_le _,fun h=>by omega⟩,qdL rfl (by simp[qiI])⟩
  ·cases h
 ·cases h
def BRel(w:World)(β:Nat->Nat)(Rd:Nat->Nat->Prop):Option AV->Option Value->Prop
 |none,none=>True
 |some x,some v=>Rel w β Rd x v
 |_,_=>False
theorem qdw{lo:Option AV}{lo':Option Value}(hr:BRel w β Rd lo lo'){a n:Nat}(h:abound lo n=some a):(lo'=none/\a=n)\/∃k,lo'=some (.int k (a:Int)):=by
 cases lo with
 |none=>cases lo' with
  |none=>cases h;exact .inl ⟨rfl,rfl⟩
  |some _=>exact hr.elim
 |some x=>cases lo' with
  |none=>exact hr.elim
  |some v=>
   cases x<;>simp only[abound,reduceCtorEq]at h;rename_i k i;obtain rfl:=qas (show Rel w β Rd (.int k i) v from hr);split at h
   ·rename_i h0;cases h;exact .inr ⟨k,by rw[Int.toNat_of_nonneg h0]⟩
   ·cases h
theorem qd3(k:IntKind)(a y:Nat)(h:a<=y)(code:BoundsCode):(Instr.sliceBound (.int k (a:Int)) y code).run P w= .ok a w:=by
 have:=run_sliceBound (P:=P) w k (a:Int) y code (by omega) (by omega);rwa[Int.toNat_natCast]at this
theorem qhJ{t:TypeId}{m k:Nat}{b:Bool}(h:tarr P t=some (m,k,b)):∃e i,P.underlying t=some (.array m e)/\P.info? e=some i/\i.size=k:=by
 unfold tarr at h;split at h
 ·rename_i n e hu;split at h
  ·rename_i k' b' hk hb;cases h;obtain⟨i,h1,h2⟩:=qbV hk;exact⟨e,i,hu,h1,h2⟩
  ·cases h
 ·cases h
theorem qcI{lo hi:Option AV}{lo' hi':Option Value}(hlo:BRel w β Rd lo lo')(hhi:BRel w β Rd hi hi'){a b n cap:Nat}(h1:abound lo 0=some a)(h2:abound hi n=some b)(hab:a<=b)(hb:b<=cap)(isS:Bool):
  (Instr.sliceBounds isS n cap lo' hi' none).run P w= .ok (a,b,cap) w:=by
 rcases qdw hlo h1 with⟨rfl,rfl⟩|⟨k1,rfl⟩<;>rcases qdw hhi h2 with⟨rfl,rfl⟩|⟨k2,rfl⟩<;>
  simp[Instr.sliceBounds,qd3 (P:=P) (w:=w) _ _ _ hab,qd3 (P:=P) (w:=w) _ _ _ hb]
theorem qnI{t:TypeId}{x v:AV}{lo hi mx:Option AV}{c:Value}{lo' hi' mx':Option Value}(h:aslice P t x lo hi mx=some v)(hx:Rel w β Rd x c)(hB:Bnd N x)(hlo:BRel w β Rd lo lo')(hhi:BRel w β Rd hi hi')(hmx:BRel w β Rd mx mx'):
  ∃c',(Instr.sliceAt t c lo' hi' mx').run P w= .ok c' w/\Got w β Rd N v c':=by
 unfold aslice at h;split at h
 ·rename_i l;split at h
  ·rename_i h1;simp only[Bool.and_eq_true]at h1;have hm:mx=none:=by simpa using h1.2
   subst hm
   have hm':mx'=none:=by cases mx' with
    |none=>rfl
    |some _=>exact hmx.elim
   subst hm';have hu:=qbs h1.1;obtain⟨s,rfl,rfl,hs⟩:=qaq hx;split at h
   ·rename_i a b ha hb;split at h
    ·rename_i hab;cases h;have hlen:=qad s;rw[hlen]at hb hab;refine⟨.string (s.extract a b),?_,qdL (qcp s a b) (Nat.le_trans (qdk s a b) hs)⟩;have e:=qcI (P:=P) hlo hhi ha hb hab.1 hab.2 false (n:=s.size) (cap:=s.size);simp only[Instr.sliceAt,Sem.run_bind,run_underlying hu,Result.andThen_ok,Instr.slice];simp[e]
    ·cases h
   ·cases h
  ·cases h
 ·rename_i own k rows;obtain⟨xs,hk,hx2,hd,hf,hr⟩:=qeS hx;obtain⟨ao,cap,rfl⟩:=hx2.sliceForm;have hcap:rows.length<=cap/\cap<=maxLen:=by obtain⟨_,_,_,he,e1,e2,_⟩:=hx2;cases he;exact⟨e1,e2⟩
  split at h
  ·rename_i hte;obtain⟨e,i,hu,hi2,his⟩:=qce hte;have hsz:(sizeOf e).run P w= .ok k w:=by simp[sizeOf,typeInfo,hi2,his]
   have fin:∀a b m,a<=b->b<=rows.length->b<=m->m<=cap->Got w β Rd N (.sl false k ((rows.drop a).take (b-a))) (.slice (if m=a then ao else ao.map (·.add (a*k))) (b-a) (m-a)):=fun a b m h1 h2 h3 h4=>by
    have hsub:=hx2.sub a b m h1 h2 h3 h4;have hmem:∀r∈(rows.drop a).take (b-a),r∈rows:=fun r hr=>List.mem_of_mem_drop (List.mem_of_mem_take hr);have hln:((rows.drop a).take (b-a)).length=b-a:=by rw[zqJ,zqI];omega
    have hflat:((rows.drop a).take (b-a)).flatten=(rows.flatten.drop (a*k)).take ((b-a)*k):=by
     rw[qik (k:=k) (fun r hr=>hk r (List.mem_of_mem_drop hr)),qfU hk]
    refine⟨.sl false k _ _ _ (fun r hr=>hk r (hmem r hr)) (by rw[hln];exact hsub) (fun g o n c' hv j hj=>?_) (fun h=>by cases h) (fun r hr=>hf r (hmem r hr)) (fun j x u hx hu=>?_),?_,rfl⟩
    ·rw[hln]at hj;have hpos:0<(b-a):=by rcases Nat.eq_zero_or_pos (b-a)with h|h;rw[h]at hj;omega;exact h
     obtain⟨_,_,_,he2,_,_,h7⟩:=hx2;cases he2;obtain⟨g',o',rfl,_⟩:=h7 (by omega);simp only[Value.slice.injEq]at hv;rw[if_neg (by omega)]at hv;simp[Addr.add_mid]at hv;obtain⟨⟨rfl,rfl⟩,_,_⟩:=hv;rw[Nat.add_assoc];refine hd _ _ _ cap rfl _ ?_;have:b*k<=rows.length*k:=Nat.mul_le_mul_right _ h2;have:a*k<=b*k:=Nat.mul_le_mul_right _ h1;rw[Nat.sub_mul]at hj;omega
    ·rw[hflat]at hx;have hj:j<(b-a)*k:=by have:=(zqC.1 hx).1;rw[zqJ]at this;omega
     rw[zqG hj,zqN]at hx hu;exact hr _ x u hx hu
    ·cases hB with
     |sl _ _ _ hB=>exact .sl _ _ _ (fun r hr=>hB r (hmem r hr))
   split at h
   ·have hm':mx'=none:=by cases mx' with
     |none=>rfl
     |some _=>exact hmx.elim
    subst hm';split at h
    ·rename_i a b ha hb;split at h
     ·rename_i hab;cases h;refine⟨_,?_,fin a b cap hab.1 hab.2 (by omega) (Nat.le_refl _)⟩;have e:=qcI (P:=P) hlo hhi ha hb hab.1 (by omega:b<=cap) true;simp only[Instr.sliceAt,Sem.run_bind,run_underlying hu,Result.andThen_ok,Instr.slice];simp[e,hsz]
     ·cases h
    ·cases h
   ·rename_i km m;split at h
    ·rename_i a kb b ha;split at h
     ·rename_i hab;cases h
      obtain⟨v',rfl⟩:∃v',mx'=some v':=by cases mx' with
       |none=>exact hmx.elim
       |some v'=>exact⟨_,rfl⟩
      obtain rfl:=qas (show Rel w β Rd (.int km m) v' from hmx)
      obtain⟨v2,rfl⟩:∃v2,hi'=some v2:=by cases hi' with
       |none=>exact hhi.elim
       |some v2=>exact⟨_,rfl⟩
      obtain rfl:=qas (show Rel w β Rd (.int kb b) v2 from hhi);refine⟨_,?_,fin a b.toNat m.toNat hab.2.1 (by omega) (by omega) (by omega)⟩;have e1:=run_sliceBound (P:=P) w km m cap .slice3Acap (by omega) (by omega);have e2:=run_sliceBound (P:=P) w kb b m.toNat .slice3B (by omega) (by omega);rcases qdw hlo ha with⟨rfl,rfl⟩|⟨k1,rfl⟩
      ·simp[Instr.sliceAt,run_underlying hu,Instr.slice,Instr.sliceBounds,e1,e2,hsz]
      ·simp[Instr.sliceAt,run_underlying hu,Instr.slice,Instr.sliceBounds,e1,e2,hsz,qd3 (P:=P) (w:=w) _ _ _ hab.2.1]
     ·cases h
    ·cases h
   ·cases h
  ·cases h
 ·have hc:c= .slice none 0 0:=by cases hx;rfl
  subst hc;split at h
  ·rename_i h1;simp only[Bool.and_eq_true]at h1;have hm:mx=none:=by simpa using h1.2
   subst hm
   have hm':mx'=none:=by cases mx' with
    |none=>rfl
    |some _=>exact hmx.elim
   subst hm';obtain⟨k,hk⟩:=Option.isSome_iff_exists.1 h1.1;obtain⟨e,i,hu,hi2,his⟩:=qce hk;have hsz:(sizeOf e).run P w= .ok k w:=by simp[sizeOf,typeInfo,hi2,his]
   split at h
   ·rename_i ha hb;cases h;refine⟨.slice none 0 0,?_,⟨.nil,.nil,rfl⟩⟩;have e:=qcI (P:=P) hlo hhi ha hb (Nat.le_refl _) (Nat.le_refl 0) true;simp only[Instr.sliceAt,Sem.run_bind,run_underlying hu,Result.andThen_ok,Instr.slice];simp[e,hsz]
   ·cases h
  ·cases h
 ·rename_i i o;obtain rfl:c= .pointer (some ⟨β i,o,none⟩):=by cases hx;rfl
  have hi:i<N:=by cases hB;assumption
  split at h
  ·rename_i m k bb hta;obtain⟨e,inf,hu,hi2,his⟩:=qhJ hta;have hsz:(sizeOf e).run P w= .ok k w:=by simp[sizeOf,typeInfo,hi2,his]
   split at h
   ·rename_i h1;have hm:mx=none:=by simpa using h1.1
    subst hm
    have hm':mx'=none:=by cases mx' with
     |none=>rfl
     |some _=>exact hmx.elim
    subst hm';split at h
    ·rename_i a b ha hb;split at h
     ·rename_i hab;cases h;have e:=qcI (P:=P) hlo hhi ha hb hab.1 hab.2 false (n:=m) (cap:=m);refine⟨.slice (some (if m=a then⟨β i,o,none⟩else(⟨β i,o,none⟩:Addr).add (a*k))) (b-a) (m-a),?_,?_⟩
      ·simp only[Instr.sliceAt,Sem.run_bind,run_underlying hu,Result.andThen_ok];simp[Instr.sureAddr,e,hsz]
      ·have hb:=Rel.bx (w:=w) (β:=β) (Rd:=Rd) i (if m=a then o else o+a*k) (b-a) (m-a) k (by omega) (by omega);refine⟨?_,.bx _ _ _ _ _ hi,rfl⟩;by_cases hma:m=a
       ·rw[if_pos hma]at hb⊢;rw[if_pos hma];exact hb
       ·rw[if_neg hma]at hb⊢;rw[if_neg hma,Addr.add_mid];exact hb
     ·cases h
    ·cases h
   ·cases h
  ·cases h
 ·rename_i i o n cp k;obtain⟨rfl,hnc,hcm⟩:c= .slice (some ⟨β i,o,none⟩) n cp/\n<=cp/\cp<=maxLen:=by cases hx;exact⟨rfl,by assumption,by assumption⟩
  have hi:i<N:=by cases hB;assumption
  split at h
  ·rename_i h1;obtain⟨e,inf,hu,hi2,his⟩:=qce h1;have hsz:(sizeOf e).run P w= .ok k w:=by simp[sizeOf,typeInfo,hi2,his]
   have fin:∀a b m,a<=b->b<=m->m<=cp->Got w β Rd N (.bx i (if m=a then o else o+a*k) (b-a) (m-a) k) (.slice (if m=a then some ⟨β i,o,none⟩else(some (⟨β i,o,none⟩:Addr)).map (·.add (a*k))) (b-a) (m-a)):=fun a b m h1 h2 h3=>by
    have hb:=Rel.bx (w:=w) (β:=β) (Rd:=Rd) i (if m=a then o else o+a*k) (b-a) (m-a) k (by omega) (by omega);refine⟨?_,.bx _ _ _ _ _ hi,rfl⟩;by_cases hma:m=a
    ·rw[if_pos hma]at hb⊢;rw[if_pos hma];exact hb
    ·rw[if_neg hma]at hb⊢;rw[if_neg hma];simp only[Option.map_some,Addr.add_mid];exact hb
   split at h
   ·have hm':mx'=none:=by cases mx' with
     |none=>rfl
     |some _=>exact hmx.elim
    subst hm';split at h
    ·rename_i a b ha hb;split at h
     ·rename_i hab;cases h;have e:=qcI (P:=P) hlo hhi ha hb hab.1 hab.2 true (n:=n) (cap:=cp);refine⟨_,?_,fin a b cp hab.1 hab.2 (Nat.le_refl _)⟩;simp only[Instr.sliceAt,Sem.run_bind,run_underlying hu,Result.andThen_ok,Instr.slice];simp[e,hsz]
     ·cases h
    ·cases h
   ·rename_i km m;split at h
    ·rename_i a kb b ha;split at h
     ·rename_i hab;cases h
      obtain⟨v',rfl⟩:∃v',mx'=some v':=by cases mx' with
       |none=>exact hmx.elim
       |some v'=>exact⟨_,rfl⟩
      obtain rfl:=qas (show Rel w β Rd (.int km m) v' from hmx)
      obtain⟨v2,rfl⟩:∃v2,hi'=some v2:=by cases hi' with
       |none=>exact hhi.elim
       |some v2=>exact⟨_,rfl⟩
      obtain rfl:=qas (show Rel w β Rd (.int kb b) v2 from hhi);refine⟨_,?_,fin a b.toNat m.toNat hab.2.1 (by omega) (by omega)⟩;have e1:=run_sliceBound (P:=P) w km m cp .slice3Acap (by omega) (by omega);have e2:=run_sliceBound (P:=P) w kb b m.toNat .slice3B (by omega) (by omega);rcases qdw hlo ha with⟨rfl,rfl⟩|⟨k1,rfl⟩
      ·simp[Instr.sliceAt,run_underlying hu,Instr.slice,Instr.sliceBounds,e1,e2,hsz]
      ·simp[Instr.sliceAt,run_underlying hu,Instr.slice,Instr.sliceBounds,e1,e2,hsz,qd3 (P:=P) (w:=w) _ _ _ hab.2.1]
     ·cases h
    ·cases h
   ·cases h
  ·cases h
 ·cases h
theorem qhI{t:TypeId}{f o n:Nat}{b:Bool}(h:tfld P t f=some (o,n,b)):∃fs fd,P.underlying t=some (.struct fs)/\fs[f]? =some fd/\tsz P fd.type=some n/\trow P fd.type=some b/\n≠0/\fd.offset=o:=by
 unfold tfld at h;split at h
 ·rename_i fs hu;split at h
  ·rename_i fd hfd;split at h
   ·rename_i m b' h1 h2;split at h
    ·cases h
    ·rename_i hn;cases h;exact⟨fs,fd,hu,hfd,h1,h2,hn,rfl⟩
   ·cases h
  ·cases h
 ·cases h
theorem qnL{t:TypeId}{x v:AV}{f:Nat}{c:Value}(h:afaddr P t x f=some v)(hx:Rel w β Rd x c)(hB:Bnd N x):∃c',(Instr.fieldAt t c f).run P w= .ok c' w/\Got w β Rd N v c':=by
 unfold afaddr at h;split at h
 ·rename_i o n b hfl;obtain⟨fs,fd,hu,hfd,h1,h2,hn,rfl⟩:=qhI hfl;have hsz:=fun w=>qcv (P:=P) h1 w
  have hrun:∀a:Addr,(Instr.fieldAt t (.pointer (some a)) f).run P w= .ok (.pointer (some (a.add fd.offset))) w:=fun a=>by
   simp[Instr.fieldAt,run_underlying hu,hfd,Instr.sureAddr,fieldPlace,hsz,hn]
  split at h
  ·rename_i i p;cases h;cases hx with
   |ptr=>
    refine⟨_,hrun _,?_,?_,rfl⟩
    ·rw[Addr.add_mid];exact .ptr i (p+fd.offset)
    ·cases hB with
     |ptr _ _ hi=>exact .ptr _ _ hi
  ·rename_i cells;split at h
   ·rename_i hle;cases h;cases hx with
    |elt _ g o us hl hc hf hr=>
     have hmem:∀x∈(cells.drop fd.offset).take n,x∈cells:=fun x hx=>List.mem_of_mem_drop (List.mem_of_mem_take hx);refine⟨_,hrun _,?_,?_,rfl⟩
     ·rw[Addr.add_mid];refine .elt _ g (o+fd.offset) ((us.drop fd.offset).take n) (by simp;omega) (fun j hj=>?_) (fun x hx=>hf x (hmem x hx)) (fun j x u hx hu=>?_)
      ·rw[zqJ,zqI]at hj;have:=hc (fd.offset+j) (by omega);rw[<-Nat.add_assoc]at this;rw[zqG (by omega),zqN];exact this
      ·have hj:j<n:=by have:=(zqC.1 hx).1;rw[zqJ]at this;omega
       rw[zqG hj,zqN]at hx hu;exact hr _ x u hx hu
     ·cases hB with
      |elt _ hB=>exact .elt _ (fun x hx=>hB x (hmem x hx))
   ·cases h
  ·cases h
 ·cases h
theorem qnK{t:TypeId}{x v:AV}{f:Nat}{c:Value}(h:afield P t x f=some v)(hx:Rel w β Rd x c)(hB:Bnd N x):∃c',(Instr.field t c f).run P w= .ok c' w/\Got w β Rd N v c':=by
 unfold afield at h;split at h
 ·rename_i o n b cells hfl;obtain⟨fs,fd,hu,hfd,h1,h2,hn,rfl⟩:=qhI hfl;have hsz:=fun w=>qcv (P:=P) h1 w;have hag:=fun w=>qdb (P:=P) h2 w;cases hx with
  |agg _ vs hl hf hr=>
   cases hB with
   |agg _ hB=>
    cases b with
    |true=>
     simp only[if_true]at h;split at h
     ·rename_i hle;cases h;have hmem:∀x∈(cells.drop fd.offset).take n,x∈cells:=fun x hx=>List.mem_of_mem_drop (List.mem_of_mem_take hx);refine⟨.agg (vs.extract fd.offset (fd.offset+n)),by simp[Instr.field,run_underlying hu,hfd,asAgg,part,hag,hsz],.agg _ _ (by simp[hl];omega) (fun x hx=>hf x (hmem x hx)) (fun j x u hx hu=>?_),.agg _ (fun x hx=>hB x (hmem x hx)),rfl⟩;have hj:j<n:=by have:=(zqC.1 hx).1;rw[zqJ]at this;omega
      rw[zqG hj,zqN]at hx;refine hr _ x u hx ?_;rw[Array.getElem?_extract]at hu;split at hu
      ·exact hu
      ·cases hu
     ·cases h
    |false=>
     simp only[Bool.false_eq_true,if_false]at h;have ho:fd.offset<cells.length:=(zqC.1 h).1;have hv:vs[fd.offset]? =some (vs[fd.offset]'(by omega)):=zqM _;exact⟨_,by simp[Instr.field,run_underlying hu,hfd,asAgg,part,hag,hv],hr _ _ _ h hv,hB _ (qak h),(hf _ (qak h)).1⟩
 ·cases h
theorem qlk{t:TypeId}{x i v:AV}{c ci:Value}(h:aixaddr P t x i=some v)(hx:Rel w β Rd x c)(hB:Bnd N x)(hi:Rel w β Rd i ci):∃c',(Instr.indexAt t c ci).run P w= .ok c' w/\Got w β Rd N v c':=by
 unfold aixaddr at h;split at h
 ·rename_i own k rows kk n;obtain rfl:=qas hi;obtain⟨xs,hk,hx2,hd,hf,hr⟩:=qeS hx;split at h
  ·rename_i hte;obtain⟨hte,h0⟩:=hte;obtain⟨e,inf,hu,hi2,his⟩:=qce hte;have hsz:∀w,(sizeOf e).run P w= .ok k w:=fun w=>by simp[sizeOf,typeInfo,hi2,his]
   split at h
   ·rename_i r hrow;cases h;have hlt:n.toNat<rows.length:=(zqC.1 hrow).1;obtain⟨hl,ao,cap,rfl,hc1,hc2,hc3⟩:=hx2;obtain⟨g,o,rfl,hcell⟩:=hc3 (by omega);have hin:0<=n/\n<(rows.length:Int):=by omega
    have hmul:n.toNat*k+k<=rows.length*k:=by
     have:(n.toNat+1)*k<=rows.length*k:=Nat.mul_le_mul_right _ (by omega);rw[Nat.add_mul]at this;omega
    have hrk:=hk r (qak hrow);refine⟨.pointer (some ⟨g,o+n.toNat*k,none⟩),by simp[Instr.indexAt,run_underlying hu,asIntOf,hin,hsz,Addr.add_mid],?_,?_,rfl⟩
    ·refine .elt r g (o+n.toNat*k) ((xs.drop (n.toNat*k)).take k) (by rw[zqJ,zqI];omega) (fun j hj=>?_) (hf r (qak hrow)) (fun j x u hx hu=>?_)
     ·rw[zqJ]at hj;refine⟨by rw[Nat.add_assoc];exact hd g o _ cap rfl _ (by omega),?_⟩;rw[Nat.add_assoc,hcell _ (by omega),zqG (by omega),zqN]
     ·have hj:j<k:=by have:=(zqC.1 hx).1;omega
      rw[zqG hj,zqN]at hu;exact hr _ x u (by rw[qhi hk hrow j hj];exact hx) hu
    ·cases hB with
     |sl _ _ _ hB=>exact .elt _ (hB r (qak hrow))
   ·cases h
  ·cases h
 ·rename_i i o kk n;obtain rfl:=qas hi;obtain rfl:c= .pointer (some ⟨β i,o,none⟩):=by cases hx;rfl
  have hiN:i<N:=by cases hB;assumption
  split at h
  ·rename_i m k bb hta;obtain⟨e,inf,hu,hi2,his⟩:=qhJ hta;have hsz:∀w,(sizeOf e).run P w= .ok k w:=fun w=>by simp[sizeOf,typeInfo,hi2,his]
   split at h
   ·rename_i hn;cases h;have hin:0<=n/\n<(m:Int):=by omega
    exact⟨.pointer (some ⟨β i,o+n.toNat*k,none⟩),by simp[Instr.indexAt,run_underlying hu,asIntOf,hin,hsz,Addr.add_mid,Instr.sureAddr],.ptr _ _,.ptr _ _ hiN,rfl⟩
   ·cases h
  ·cases h
 ·rename_i i o m cp k kk n;obtain rfl:=qas hi;obtain⟨rfl,hnc,hcm⟩:c= .slice (some ⟨β i,o,none⟩) m cp/\m<=cp/\cp<=maxLen:=by cases hx;exact⟨rfl,by assumption,by assumption⟩
  have hiN:i<N:=by cases hB;assumption
  split at h
  ·rename_i hte;obtain⟨hte,h0,hn⟩:=hte;obtain⟨e,inf,hu,hi2,his⟩:=qce hte;have hsz:∀w,(sizeOf e).run P w= .ok k w:=fun w=>by simp[sizeOf,typeInfo,hi2,his]
   cases h;have hin:0<=n/\n<(m:Int):=by omega
   exact⟨.pointer (some ⟨β i,o+n.toNat*k,none⟩),by simp[Instr.indexAt,run_underlying hu,asIntOf,hin,hsz,Addr.add_mid],.ptr _ _,.ptr _ _ hiN,rfl⟩
  ·cases h
 ·cases h
theorem aix_ok{t:TypeId}{x i v:AV}{c ci:Value}(h:aix P t x i=some v)(hx:Rel w β Rd x c)(hB:Bnd N x)(hi:Rel w β Rd i ci):∃c',(Instr.index t c ci).run P w= .ok c' w/\Got w β Rd N v c':=by
 unfold aix at h;split at h
 ·rename_i l kk n;obtain rfl:=qas hi;obtain⟨s,rfl,rfl,hs⟩:=qaq hx;split at h
  ·rename_i h1;have hu:=qbs h1.1;split at h
   ·rename_i b hb;cases h;have hlt:n.toNat<s.size:=by have:=(zqC.1 hb).1;rw[qad]at this;exact this
    refine⟨.int .u8 (b.toNat:Int),?_,Got.int⟩;rw[run_index_string w t s kk n hu,dif_pos (by omega),qlg s _ b hb]
   ·cases h
  ·cases h
 ·rename_i l kk n;obtain rfl:=qas hi;split at h
  ·rename_i m k b hta;unfold tarr at hta;split at hta
   ·rename_i m' e hu;split at hta
    ·rename_i k' b' h1 h2;cases hta;have hsz:=fun w=>qcv (P:=P) h1 w;have hag:=fun w=>qdb (P:=P) h2 w;split at h
     ·rename_i hin;have hin':0<=n/\n<(m:Int):=by omega
      cases hx with
      |agg _ vs hl hf hr=>
       cases hB with
       |agg _ hB=>
        cases b with
        |true=>
         simp only[if_true]at h;split at h
         ·rename_i hle;cases h;have hmem:∀x∈(l.drop (n.toNat*k)).take k,x∈l:=fun x hx=>List.mem_of_mem_drop (List.mem_of_mem_take hx);refine⟨.agg (vs.extract (n.toNat*k) (n.toNat*k+k)),by simp[Instr.index,run_underlying hu,asIntOf,hin',part,hag,hsz],.agg _ _ (by simp[hl];omega) (fun x hx=>hf x (hmem x hx)) (fun j x u hx hu=>?_),.agg _ (fun x hx=>hB x (hmem x hx)),rfl⟩;have hj:j<k:=by have:=(zqC.1 hx).1;rw[zqJ]at this;omega
          rw[zqG hj,zqN]at hx;refine hr _ x u hx ?_;rw[Array.getElem?_extract]at hu;split at hu
          ·exact hu
          ·cases hu
         ·cases h
        |false=>
         simp only[Bool.false_eq_true,if_false]at h;have ho:n.toNat*k<l.length:=(zqC.1 h).1;have hv:vs[n.toNat*k]? =some (vs[n.toNat*k]'(by omega)):=zqM _;exact⟨_,by simp[Instr.index,run_underlying hu,asIntOf,hin',part,hag,hsz,hv],hr _ _ _ h hv,hB _ (qak h),(hf _ (qak h)).1⟩
     ·cases h
    ·cases hta
   ·cases hta
  ·cases h
 ·cases h
theorem qju{x v:AV}{i:Nat}{c:Value}(h:aextract x i=some v)(hx:Rel w β Rd x c)(hB:Bnd N x):∃c',(Instr.extract c i).run P w= .ok c' w/\Got w β Rd N v c':=by
 unfold aextract at h;split at h
 ·cases hx with
  |tup cells vs hl hf hr=>
   cases hB with
   |tup _ hB=>
    have hi:=(zqC.1 h).1;have hv:vs[i]? =some (vs[i]'(by omega)):=zqM _;exact⟨_,by simp[Instr.extract,hv],hr _ _ _ h hv,hB _ (qak h),hf _ (qak h)⟩
 ·cases h
theorem qrm{t ty:TypeId}{x v:AV}{c:Value}(h:alen P t x=some v)(hx:Rel w β Rd x c):∃c',(Builtin.len_ #[t] ty #[c]).run P w= .ok c' w/\Got w β Rd N v c':=by
 unfold alen at h;split at h
 ·obtain⟨s,rfl,rfl,hs⟩:=qaq hx;split at h
  ·rename_i h1;cases h;refine⟨_,run_len_string w t ty s (qbs h1),?_⟩;rw[qad];exact Got.int
  ·cases h
 ·split at h
  ·rename_i h1;cases h;obtain⟨e,he⟩:=Option.isSome_iff_exists.1 h1;have hu:=qa0 he;obtain⟨xs,hk,hx2,_⟩:=qeS hx;obtain⟨ao,cap,rfl⟩:=hx2.sliceForm;exact⟨.int .i64 _,by simp[Builtin.len_,run_underlying hu,goInt],Got.int⟩
  ·cases h
 ·split at h
  ·rename_i h1;cases h;obtain⟨e,he⟩:=Option.isSome_iff_exists.1 h1;have hu:=qa0 he;have hc:c= .slice none 0 0:=by cases hx;rfl
   subst hc;exact⟨.int .i64 0,by simp[Builtin.len_,run_underlying hu,goInt],Got.int⟩
  ·cases h
 ·rename_i i o n cp k;obtain rfl:c= .slice (some ⟨β i,o,none⟩) n cp:=by cases hx;rfl
  split at h
  ·rename_i h1;cases h;obtain⟨e,he⟩:=Option.isSome_iff_exists.1 h1;have hu:=qa0 he;exact⟨.int .i64 n,by simp[Builtin.len_,run_underlying hu,goInt],Got.int⟩
  ·cases h
 ·cases h
end
def cval0:Value->AV
 | .int k n=> .int k n
 | .bool b=> .bool b
 | .string s=>if s.size<=maxLen then .str s.data.toList else .raw (.string s)
 | .pointer none=> .ptr none
 | .slice none 0 0=> .nil
 |v=> .raw v
def cval:Value->AV
 | .agg cs=>if cs.toList.all (·.oneCell')then .agg (cs.toList.map cval0)else .raw (.agg cs)
 |v=>cval0 v
def aeval(fr:List AV):Operand->AV
 | .tmp t=>fr.getD t (.raw undef)
 | .const v=>cval v
 | .global g=> .raw (.pointer (some ⟨g,0,none⟩))
 | .func f=> .fn f []
def fdis(fr:List AV):Operand->List AV
 | .tmp t=>fr.set t (fr.getD t (.raw undef)).dis
 |_=>fr
def acells:AV->Option (List AV)
 | .agg l=>some l
 | .tup _=>none
 | .raw v=>if v.oneCell' then some [.raw v]else none
 |v=>some [v]
def tzc(P:Program)(t:TypeId):Option (List AV):=match P.info? t with
 |some i=>match i.zero with
  |some z=>if z.cells.toList.all (·.oneCell')then some (z.cells.toList.map cval0)else none
  |none=>none
 |none=>none
def tby(P:Program)(t:TypeId):Option Nat:=(P.info? t).map (·.bytes)
def tplaces(P:Program)(t:TypeId):Option (List (Nat×Nat)):=match P.underlying t with
 |some (.struct fields)=>fields.toList.mapM (fun f=>(P.info? f.type).map fun i=>(f.offset,i.size))
 |some (.array n e)=>(P.info? e).map fun i=>(List.range n).map fun j=>(j*i.size,i.size)
 |_=>none
def afill(pl:List (Nat×Nat)):List AV->List (Nat×AV)->Option (List AV)
 |cs,[]=>some cs
 |cs,(i,v)::r=>match pl[i]?,acells v.dis with
  |some (o,n),some l=>if l.length=n/\o+n<=cs.length/\l.all (·.free)then afill pl (setR cs o l) r else none
  |_,_=>none
def abuild(P:Program)(t:TypeId)(parts:List (Nat×AV)):Option AV:=match tzc P t,tplaces P t with
 |some z,some pl=>(afill pl z parts).map .agg
 |_,_=>none
def arows(k:Nat):List AV->Option (List (List AV))
 |[]=>some []
 |v::r=>match acells v.dis,arows k r with
  |some l,some m=>if l.length=k/\l.all (·.free)then some (l::m)else none
  |_,_=>none
def inB(B:List Tmp):Option Tmp->Bool
 |some t=>B.contains t
 |none=>false
def aload(P:Program)(B:List Tmp)(d:Option Tmp)(t:TypeId)(fr:List AV)(H:Hp):AV->Option (AV×List AV×Hp)
 | .ptr (some (i,p))=>match H[i]?,trow P t with
  |some l,some true=>match tsz P t with
   |some n=>if p+n<=l.length/\((l.drop p).take n).all (·.dis.free)then some (.agg (((l.drop p).take n).map AV.dis),fr,H)else none
   |none=>none
  |some l,some false=>match l[p]? with
   |some v=>if v.dis.free then(if inB B d then some (v,fr,H.set i (l.set p v.dis))else some (v.dis,fr,H))else none
   |none=>none
  |_,_=>none
 | .elt l=>match trow P t with
  |some true=>if tsz P t=some l.length then some (.agg l,fr,H)else none
  |some false=>match l with
   |[v]=>some (v,fr,H)
   |_=>none
  |none=>none
 |_=>none
def astore(P:Program)(t:TypeId)(y:Operand)(fr:List AV)(H:Hp):AV->Option (AV×List AV×Hp)
 | .ptr (some (i,p))=>match H[i]?,acells (aeval fr y)with
  |some l,some cs=>if tsz P t=some cs.length/\p+cs.length<=l.length then some (.raw undef,fdis fr y,H.set i (setR l p cs))else none
  |_,_=>none
 |_=>none
def abase(k:Nat):AV->Option (List (List AV))
 | .sl true k' rows=>if k'=k then some rows else none
 | .nil=>some []
 |_=>none
def asrc(P:Program)(t:TypeId)(k:Nat):AV->Option (List (List AV))
 | .sl _ k' rows=>if k'=k/\(tsl P t).isSome then some rows else none
 | .nil=>if(tsl P t).isSome then some []else none
 | .str l=>if k=1/\tstr P t then some (bts l)else none
 |_=>none
def qgm(P:Program)(t':TypeId)(k:Nat)(H:Hp):AV->Option (List (List AV))
 | .bx i q n _ k'=>match H[i]? with
  |some l=>if(k=1/\k'=1/\(tsl P t').isSome)/\q+n<=l.length/\((l.drop q).take n).all (·.free)=true then some (((l.drop q).take n).map fun x=>[x])else none
  |none=>none
 |_=>none
def aappend(P:Program)(t t':TypeId)(x y:Operand)(fr:List AV)(H:Hp):Option (AV×List AV×Hp):=match tsl P t with
 |some e=>match tsz P e,tby P e,tzc P e with
  |some k,some b,some z=>match abase k (aeval fr x),(asrc P t' k (aeval fr y)).or (qgm P t' k H (aeval fr y))with
   |some rows,some rows'=>if(z.length=k/\0<k)/\rows.length+rows'.length<=maxLen/\(rows.length+rows'.length)*b<=140737488355328 then some (.sl true k (rows++rows'),fdis fr x,H)else none
   |_,_=>none
  |_,_,_=>none
 |none=>none
def abuiltin(P:Program)(b:Builtin)(xs:List Operand)(ts:List TypeId)(fr:List AV)(H:Hp):Option (AV×List AV×Hp):=match b,xs,ts with
 | .len,[x],[t]=>(alen P t (aeval fr x)).map fun v=>(v,fr,H)
 | .append,[x,y],[t,t']=>aappend P t t' x y fr H
 | .min,[x,y],_=>match aeval fr x,aeval fr y with
  | .int k a,.int _ b=>some (.int k (if b<a then b else a),fr,H)
  |_,_=>none
 | .max,[x,y],_=>match aeval fr x,aeval fr y with
  | .int k a,.int _ b=>some (.int k (if b>a then b else a),fr,H)
  |_,_=>none
 |_,_,_=>none
def amake(P:Program)(t:TypeId)(l c:AV):Option AV:=match tsl P t,l,c with
 |some e,.int _ l,.int _ c=>match tzc P e,tsz P e,tby P e with
  |some z,some k,some b=>if z.length=k/\0<k/\0<=l/\l<=c/\(b:Int)*c<=140737488355328/\c<=9223372036854775807 then some (.sl true k (List.replicate l.toNat z))else none
  |_,_,_=>none
 |_,_,_=>none
def qgQ(P:Program)(s d:TypeId)(x:AV):Option AV:=match x with
 | .str l=>if tstr P s&&tbytes P d then some (.sl true 1 (bts l))else none
 |_=>none
def alit(P:Program)(t:TypeId)(n:Nat)(parts:List (Nat×AV)):Option AV:=match tsl P t with
 |some e=>match tzc P e,tsz P e with
  |some z,some k=>if z.length=k/\0<k/\n*k<=16777216/\parts.map (·.1)=List.range n then(arows k (parts.map (·.2))).map (.sl true k)else none
  |_,_=>none
 |none=>none
def amkf(fn:Fn)(first caps:List AV):Option AV:=match fn,first,caps with
 | .func _,[],[.tup [_]]=>none
 | .func f,[],caps=>some (.fn f caps)
 | .func f,[x],[]=>some (.fn f [.tup [x]])
 |_,_,_=>none
def aop(P:Program)(B:List Tmp)(fr:List AV)(H:Hp)(o:Oper):Option (AV×List AV×Hp):=match o.op with
 | .assign x=>some (aeval fr x,fdis fr x,H)
 | .move x=>if inB B o.dst then some (aeval fr x,fdis fr x,H)else some ((aeval fr x).dis,fr,H)
 | .pick c a b=>match aeval fr c with
  | .bool t=>some ((if t then aeval fr a else aeval fr b).dis,fr,H)
  |_=>none
 | .alloc t=>(tzc P t).map fun l=>(.ptr (some (H.length,0)),fr,H++[l])
 | .box t x=>(acells (aeval fr x)).map fun l=>(.ptr (some (H.length,0)),fdis fr x,H++[l])
 | .build t parts=>(abuild P t (parts.toList.map fun p=>(p.1,aeval fr p.2))).map fun v=>(v,fr,H)
 | .buildSlice t n parts=>(alit P t n (parts.toList.map fun p=>(p.1,aeval fr p.2))).map fun v=>(v,fr,H)
 | .load t x=>aload P B o.dst t fr H (aeval fr x)
 | .store t x y=>astore P t y fr H (aeval fr x)
 | .nilCheck x=>(anil (aeval fr x)).map fun v=>(v,fr,H)
 | .binOp op t x y _=>(abin P op t (aeval fr x) (aeval fr y)).map fun v=>(v,fr,H)
 | .unOp op _ x=>(aun op (aeval fr x)).map fun v=>(v,fr,H)
 | .convert s d x=>((qgQ P s d (aeval fr x)).or (aconv P s d (aeval fr x))).map fun v=>(v,fr,H)
 | .makeSlice t l c=>(amake P t (aeval fr l) (aeval fr c)).map fun v=>(v,fr,H)
 | .slice t x lo hi mx=>(aslice P t (aeval fr x) (lo.map (aeval fr)) (hi.map (aeval fr)) (mx.map (aeval fr))).map fun v=>(v,fr,H)
 | .fieldAddr t x f=>(afaddr P t (aeval fr x) f).map fun v=>(v,fr,H)
 | .field t x f=>(afield P t (aeval fr x) f).map fun v=>(v,fr,H)
 | .indexAddr t x i=>(aixaddr P t (aeval fr x) (aeval fr i)).map fun v=>(v,fr,H)
 | .index t x i=>(aix P t (aeval fr x) (aeval fr i)).map fun v=>(v,fr,H)
 | .extract x i=>(aextract (aeval fr x) i).map fun v=>(v,fr,H)
 | .makeFunc fn first caps=>(amkf fn (first.toList.map fun x=>(aeval fr x).dis) (caps.toList.map fun x=>(aeval fr x).dis)).map fun v=>(v,fr,H)
 | .call c=>match c.callee with
  | .builtin b=>abuiltin P b c.args.toList c.argTypes.toList fr H
  |_=>none
 |_=>none
section
variable {P:Program}{E:Env}{W:World}{F:Nat->Prop}{Rd0:Nat->Nat->Prop}{w w':World}{β β':Nat->Nat}{Rd Rd':Nat->Nat->Prop}{Ow Ow':Nat->Option Hold}{fr:List AV}{H:Hp}{tmps:Array Value}{N:Nat}
theorem qem(v:Value):Got w β Rd N (cval0 v) v:=by
 unfold cval0;split
 ·exact Got.int
 ·exact Got.bool
 ·split
  ·rename_i h;exact qdL rfl h
  ·exact⟨.raw _,.raw _,rfl⟩
 ·exact⟨.ptr0,.ptr0,rfl⟩
 ·exact⟨.nil,.nil,rfl⟩
 ·exact⟨.raw _,.raw _,rfl⟩
theorem qnl(v:Value)(h:v.oneCell'=true):(cval0 v).one=true:=by
 unfold cval0;split<;>try rfl
 ·split
  ·rfl
  ·exact h
 ·exact h
theorem qbD(l:List Value)(h:l.all (·.oneCell')=true):(∀x∈l.map cval0,x.free=true/\x.one=true)/\(∀(j:Nat) (x:AV) (u:Value),(l.map cval0)[j]? =some x->l[j]? =some u->Rel w β Rd x u)/\∀x∈l.map cval0,Bnd N x:=by
 have h':=List.all_eq_true.1 h;refine⟨fun x hx=>?_,fun j x u hx hu=>?_,fun x hx=>?_⟩
 ·obtain⟨v,hv,rfl⟩:=List.mem_map.1 hx;exact⟨(qem (w:=w) (β:=β) (Rd:=Rd) (N:=N) v).free,qnl v (h' v hv)⟩
 ·rw[List.getElem?_map,hu]at hx;cases hx;exact(qem (N:=N) u).rel
 ·obtain⟨v,hv,rfl⟩:=List.mem_map.1 hx;exact(qem (w:=w) (β:=β) (Rd:=Rd) v).bnd
theorem qhq(v:Value):Got w β Rd N (cval v) v:=by
 unfold cval;split
 ·rename_i cs;split
  ·rename_i h;obtain⟨h1,h2,h3⟩:=qbD (w:=w) (β:=β) (Rd:=Rd) (N:=N) cs.toList h;exact⟨.agg _ _ (by simp) h1 (fun j x u hx hu=>h2 j x u hx (by simpa using hu)),.agg _ h3,rfl⟩
  ·exact⟨.raw _,.raw _,rfl⟩
 ·exact qem v
theorem S3.eval(h:S3 E W F Rd0 w β Rd Ow fr H tmps){a:Act}(ha:a.tmps=tmps)(x:Operand):Rel w β Rd (aeval fr x) (a.eval x)/\Bnd H.length (aeval fr x)/\(aeval fr x).dis.free=true:=by
 cases x with
 |tmp t=>
  show Rel w β Rd (fr.getD t (.raw undef)) (a.tmps.getD t undef)/\_;rw[ha];by_cases ht:t<fr.length
  ·have h1:fr[t]? =some fr[t]:=zqD ht;have ht2:t<tmps.size:=h.ff.len▸ht;have h2:tmps[t]? =some tmps[t]:=zqM ht2;obtain⟨r1,r2,_⟩:=h.ff.rel t _ _ h1 h2;have e1:aeval fr (.tmp t)=fr[t]:=by simp[aeval,List.getD,h1]
   have e2:fr.getD t (.raw undef)=fr[t]:=e1;rw[e1,e2,show tmps.getD t undef=tmps[t]by simp[Array.getD,ht2]];exact⟨r1,r2,h.ne _ (qak h1)⟩
  ·have e1:aeval fr (.tmp t)= .raw undef:=by simp[aeval,List.getD,List.getElem?_eq_none (Nat.le_of_not_lt ht)]
   have e2:fr.getD t (.raw undef)= .raw undef:=e1;have ht2:¬t<tmps.size:=h.ff.len▸ht;rw[e1,e2,show tmps.getD t undef=undef by simp[Array.getD,ht2]];exact⟨.raw _,.raw _,rfl⟩
 |const v=>
  have:=qhq (w:=w) (β:=β) (Rd:=Rd) (N:=H.length) v;refine⟨this.rel,this.bnd,?_⟩;have hf:=this.free;show(cval v).dis.free=true;cases hc:cval v<;>rw[hc]at hf<;>simp_all [AV.dis,AV.free]
 |global g=>exact⟨.raw _,.raw _,rfl⟩
 |func f=>exact⟨.fn f [] #[] rfl (by simp) (by simp) (by simp),.fn f [] (by simp),rfl⟩
theorem qaR{x:AV}(h:x.free=true):x.dis.free=true:=by cases x<;>simp_all [AV.dis,AV.free]
theorem qoK{x:AV}(h:x.dis.free=true)(v:Value):own0 x.dis v=none:=qaw h v
theorem S3.take(h:S3 E W F Rd0 w β Rd Ow fr H tmps){a:Act}(ha:a.tmps=tmps)(x:Operand)(k':Option Hold):
  ∃Ow',S3 E W F Rd0 w β Rd Ow' (fdis fr x) H tmps/\∀g,own0 (aeval fr x) (a.eval x)=some g->Ow' g=k':=by
 have hfree:∀v:AV,v.free=true->∀g c,own0 v c=some g->False:=fun v hv g c hg=>by rw[qaw hv]at hg;cases hg
 cases x with
 |tmp t=>
  by_cases ht:t<fr.length
  ·have h1:fr[t]? =some fr[t]:=zqD ht;have ht2:t<tmps.size:=h.ff.len▸ht;have h2:tmps[t]? =some tmps[t]:=zqM ht2;have e1:fr.getD t (.raw undef)=fr[t]:=by simp[List.getD,h1]
   have e2:a.eval (.tmp t)=tmps[t]:=by show a.tmps.getD t undef=_;rw[ha];simp[Array.getD,ht2]
   have hlg:=h.letgo t h1;have ef:fdis fr (.tmp t)=fr.set t (fr[t]).dis:=by show fr.set t (fr.getD t (.raw undef)).dis=_;rw[e1]
   have ee:aeval fr (.tmp t)=fr[t]:=e1;rw[ef,ee,e2];obtain⟨r1,r2,r3⟩:=h.ff.rel t _ _ h1 h2;by_cases hg:∃g,own0 fr[t] tmps[t]=some g
   ·obtain⟨g,hg⟩:=hg;have hOg:=r3 g hg;refine⟨_,hlg.relabel hOg k' (fun s x u hx hu he=>?_) (fun i j l x u T cs hl hx hc hu he=>?_),fun g' hg'=>?_⟩
    ·have:=(hlg.ff.rel s x u hx hu).2.2 g he;rw[hOg]at this;cases this;rw[zqO ht]at hx;cases hx;rw[qoK (h.ne _ (qak h1))]at he;cases he
    ·obtain⟨T',cs',c1,c2,c3⟩:=hlg.hr.box i l hl;rw[hc]at c1;cases c1;have:=(c3 j x u hx hu).2.2 g he;rw[hOg]at this;cases this
    ·rw[hg]at hg';cases hg';exact qdR _ _ _
   ·exact⟨Ow,hlg,fun g' hg'=>absurd ⟨g',hg'⟩ hg⟩
  ·refine⟨Ow,?_,fun g hg=>?_⟩
   ·have:fdis fr (.tmp t)=fr:=List.set_eq_of_length_le (Nat.le_of_not_lt ht);rw[this];exact h
   ·have e1:aeval fr (.tmp t)= .raw undef:=by simp[aeval,List.getD,List.getElem?_eq_none (Nat.le_of_not_lt ht)]
    rw[e1]at hg;cases hg
 |const v=>exact⟨Ow,h,fun g hg=>(hfree _ (qhq (w:=w) (β:=β) (Rd:=Rd) (N:=0) v).free g _ hg).elim⟩
 |global g=>exact⟨Ow,h,fun g hg=>by cases hg⟩
 |func f=>exact⟨Ow,h,fun g hg=>by cases hg⟩
theorem S3.takeCell(h:S3 E W F Rd0 w β Rd Ow fr H tmps){i p:Nat}{l:List AV}{v:AV}{T:TypeId}{cs:Array Value}{c:Value}(hl:H[i]? =some l)(hv:l[p]? =some v)(hb:w.heap[β i]? =some (.cells cs T (0,0)))(hc:cs[p]? =some c)(hd:v.dis.free=true)(k':Option Hold):
  ∃Ow',S3 E W F Rd0 w β Rd Ow' fr (H.set i (l.set p v.dis)) tmps/\∀g,own0 v c=some g->Ow' g=k':=by
 have hi:i<H.length:=(zqC.1 hl).1;have hp:p<l.length:=(zqC.1 hv).1;have hlen:(H.set i (l.set p v.dis)).length=H.length:=by simp
 have h1:S3 E W F Rd0 w β Rd Ow fr (H.set i (l.set p v.dis)) tmps:=by
  refine⟨⟨fun i' l' hl'=>?_,by rw[hlen];exact h.hr.inj,by rw[hlen];exact h.hr.sep,h.hr.ows,h.hr.rds,fun l' hl' x hx=>?_,by rw[hlen];exact h.hr.fix,fun i' l' t hl' h0=>(by
   by_cases hii:i=i'
   ·subst hii;rw[zqO hi]at hl';cases hl';by_cases hp0:p=0
    ·subst hp0;rw[zqO hp]at h0;have:=Option.some.inj h0;rw[this]at hd;cases hd
    ·rw[zqF hp0]at h0;exact h.hr.bld i l t hl h0
   ·rw[zqF hii]at hl'
    exact h.hr.bld i' l' t hl' h0)⟩,by rw[hlen];exact h.ff,by rw[hlen];exact h.fo,h.ne⟩
  ·by_cases hii:i=i'
   ·subst hii;rw[zqO hi]at hl';cases hl';obtain⟨T',cs',c1,c2,c3⟩:=h.hr.box i l hl;refine⟨T',cs',c1,by simpa using c2,fun j x u hx hu=>?_⟩;by_cases hj:p=j
    ·subst hj;rw[zqO hp]at hx;cases hx;obtain⟨r1,r2,r3⟩:=c3 p v u hv hu;refine⟨r1.dis,by cases v<;>simp_all [AV.dis,AV.one],fun g hg=>?_⟩;rw[qaw hd]at hg;cases hg
    ·rw[zqF hj]at hx;exact c3 j x u hx hu
   ·rw[zqF hii]at hl';exact h.hr.box i' l' hl'
  ·rw[hlen];rcases List.mem_or_eq_of_mem_set hl' with h2|h2
   ·exact h.hr.bnd l' h2 x hx
   ·subst h2;rcases List.mem_or_eq_of_mem_set hx with h3|h3
    ·exact h.hr.bnd l (qak hl) x h3
    ·rw[h3];exact(h.hr.bnd l (qak hl) v (qak hv)).dis
 by_cases hg:∃g,own0 v c=some g
 ·obtain⟨g,hg⟩:=hg;obtain⟨T',cs',c1,c2,c3⟩:=h.hr.box i l hl;rw[hb]at c1;cases c1;have hOg:=(c3 p v c hv hc).2.2 g hg;refine⟨_,h1.relabel hOg k' (fun s x u hx hu he=>?_) (fun i' j l' x u T'' cs'' hl' hx hc' hu he=>?_),fun g' hg'=>?_⟩
  ·have:=(h1.ff.rel s x u hx hu).2.2 g he;rw[hOg]at this;cases this
  ·obtain⟨T3,cs3,d1,d2,d3⟩:=h1.hr.box i' l' hl';rw[hc']at d1;cases d1;have:=(d3 j x u hx hu).2.2 g he;rw[hOg]at this;cases this;rw[zqO hi]at hl';cases hl';rw[zqO hp]at hx;cases hx;rw[qaw hd]at he;cases he
  ·rw[hg]at hg';cases hg';exact qdR _ _ _
 ·exact⟨Ow,h1,fun g' hg'=>absurd ⟨g',hg'⟩ hg⟩
theorem qeq{x:AV}{l:List AV}{c:Value}(h:acells x=some l)(hx:Rel w β Rd x c)(hB:Bnd N x)(hd:x.dis.free=true):c.cells.size=l.length/\(∀u∈c.cells.toList,u.oneCell'=true)/\
  ∀(j:Nat) y u,l[j]? =some y->c.cells.toList[j]? =some u->Rel w β Rd y u/\y.one=true/\Bnd N y/\(∀g,own0 y u=some g->own0 x c=some g/\j=0):=by
 have single:∀x:AV,x.one=true->l=[x]->Rel w β Rd x c->Bnd N x->c.cells.size=l.length/\(∀u∈c.cells.toList,u.oneCell'=true)/\
   ∀(j:Nat) y u,l[j]? =some y->c.cells.toList[j]? =some u->Rel w β Rd y u/\y.one=true/\Bnd N y/\(∀g,own0 y u=some g->own0 x c=some g/\j=0):=by
  intro x h1 hl hx hB;have hone:=hx.oneCell h1;have hcs:c.cells= #[c]:=by cases c<;>first|rfl|simp[Value.oneCell']at hone
  rw[hl,hcs];refine⟨rfl,fun u hu=>by simp at hu;rw[hu];exact hone,fun j y u hy hu=>?_⟩;cases j with
  |zero=>simp at hy hu;subst hy;subst hu;exact⟨hx,h1,hB,fun g hg=>⟨hg,rfl⟩⟩
  |succ j=>simp at hy
 cases x with
 |agg l'=>
  cases h;cases hx with
  |agg _ vs hl hf hr=>
   cases hB with
   |agg _ hB=>
    refine⟨hl,fun u hu=>?_,fun j y u hy hu=>?_⟩
    ·obtain⟨j,hj⟩:=List.getElem?_of_mem hu;have hj':j<l.length:=by have:=(zqC.1 hj).1;simp[Value.cells]at this;omega
     have hy:l[j]? =some l[j]:=zqD hj';exact(hr j _ u hy (by simpa[Value.cells]using hj)).oneCell (hf _ (qak hy)).2
    ·refine⟨hr j y u hy (by simpa[Value.cells]using hu),(hf y (qak hy)).2,hB y (qak hy),fun g hg=>?_⟩;rw[qaw (hf y (qak hy)).1]at hg;cases hg
 |tup l'=>cases h
 |raw v=>
  simp only[acells]at h;split at h
  ·rename_i h1;cases h;exact single _ h1 rfl hx hB
  ·cases h
 |_=>cases h;exact single _ rfl rfl hx hB
end
end Go.Proofs.YtnnhdehmlkkfjaaGreatDoor
