/- Part 4 of the texts below the law. -/
import Derived.Test.YtnnhdehmlkkfjaaGreatDoorPb3
import Derived.Scope
import Derived.KernelRfl
import Derived.Test.YtnnhdehmlkkfjaaGreatDoorProg
set_option maxRecDepth 100000
set_option maxHeartbeats 16000000
set_option linter.unusedVariables false
set_option linter.unusedSimpArgs false
namespace Go.Proofs.YtnnhdehmlkkfjaaGreatDoor
open Go Go.RowKit
abbrev OpR:=Option (AV×Option Operand×Hp)
def eload(P:Program)(B:List Tmp)(d:Option Tmp)(t:TypeId)(H:Hp):AV->OpR
 | .ptr (some (i,p))=>match H[i]?,trow P t with
  |some l,some true=>match tsz P t with
   |some n=>if p+n<=l.length/\((l.drop p).take n).all (·.dis.free)then some (.agg (((l.drop p).take n).map AV.dis),none,H)else none
   |none=>none
  |some l,some false=>match l[p]? with
   |some v=>if v.dis.free then(if inB B d then some (v,none,H.set i (l.set p v.dis))else some (v.dis,none,H))else none
   |none=>none
  |_,_=>none
 | .elt l=>match trow P t with
  |some true=>if tsz P t=some l.length then some (.agg l,none,H)else none
  |some false=>match l with
   |[v]=>some (v,none,H)
   |_=>none
  |none=>none
 |_=>none
def estore(P:Program)(t:TypeId)(y:Operand)(Y:AV)(H:Hp):AV->OpR
 | .ptr (some (i,p))=>match H[i]?,acells Y with
  |some l,some cs=>if tsz P t=some cs.length/\p+cs.length<=l.length then some (.raw undef,some y,H.set i (setR l p cs))else none
  |_,_=>none
 |_=>none
def eappend(P:Program)(t t':TypeId)(x:Operand)(X Y:AV)(H:Hp):OpR:=match tsl P t with
 |some e=>match tsz P e,tby P e,tzc P e with
  |some k,some b,some z=>match abase k X,(asrc P t' k Y).or (qgm P t' k H Y)with
   |some rows,some rows'=>if(z.length=k/\0<k)/\rows.length+rows'.length<=maxLen/\(rows.length+rows'.length)*b<=140737488355328 then some (.sl true k (rows++rows'),some x,H)else none
   |_,_=>none
  |_,_,_=>none
 |none=>none
def ebuiltin(P:Program)(b:Builtin)(xs:List Operand)(ts:List TypeId)(ρ:Operand->AV)(H:Hp):OpR:=match b,xs,ts with
 | .len,[x],[t]=>(alen P t (ρ x)).map fun v=>(v,none,H)
 | .append,[x,y],[t,t']=>eappend P t t' x (ρ x) (ρ y) H
 | .min,[x,y],_=>match ρ x,ρ y with
  | .int k a,.int _ b=>some (.int k (if b<a then b else a),none,H)
  |_,_=>none
 | .max,[x,y],_=>match ρ x,ρ y with
  | .int k a,.int _ b=>some (.int k (if b>a then b else a),none,H)
  |_,_=>none
 |_,_,_=>none
def eop(P:Program)(B:List Tmp)(ρ:Operand->AV)(H:Hp)(o:Oper):OpR:=match o.op with
 | .assign x=>some (ρ x,some x,H)
 | .move x=>if inB B o.dst then some (ρ x,some x,H)else some ((ρ x).dis,none,H)
 | .pick c a b=>match ρ c with
  | .bool t=>some ((if t then ρ a else ρ b).dis,none,H)
  |_=>none
 | .alloc t=>(tzc P t).map fun l=>(.ptr (some (H.length,0)),none,H++[l])
 | .box t x=>(acells (ρ x)).map fun l=>(.ptr (some (H.length,0)),some x,H++[l])
 | .build t parts=>(abuild P t (parts.toList.map fun p=>(p.1,ρ p.2))).map fun v=>(v,none,H)
 | .buildSlice t n parts=>(alit P t n (parts.toList.map fun p=>(p.1,ρ p.2))).map fun v=>(v,none,H)
 | .load t x=>eload P B o.dst t H (ρ x)
 | .store t x y=>estore P t y (ρ y) H (ρ x)
 | .nilCheck x=>(anil (ρ x)).map fun v=>(v,none,H)
 | .binOp op t x y _=>(abin P op t (ρ x) (ρ y)).map fun v=>(v,none,H)
 | .unOp op _ x=>(aun op (ρ x)).map fun v=>(v,none,H)
 | .convert s d x=>((qgQ P s d (ρ x)).or (aconv P s d (ρ x))).map fun v=>(v,none,H)
 | .makeSlice t l c=>(amake P t (ρ l) (ρ c)).map fun v=>(v,none,H)
 | .slice t x lo hi mx=>(aslice P t (ρ x) (lo.map ρ) (hi.map ρ) (mx.map ρ)).map fun v=>(v,none,H)
 | .fieldAddr t x f=>(afaddr P t (ρ x) f).map fun v=>(v,none,H)
 | .field t x f=>(afield P t (ρ x) f).map fun v=>(v,none,H)
 | .indexAddr t x i=>(aixaddr P t (ρ x) (ρ i)).map fun v=>(v,none,H)
 | .index t x i=>(aix P t (ρ x) (ρ i)).map fun v=>(v,none,H)
 | .extract x i=>(aextract (ρ x) i).map fun v=>(v,none,H)
 | .makeFunc fn first caps=>(amkf fn (first.toList.map fun x=>(ρ x).dis) (caps.toList.map fun x=>(ρ x).dis)).map fun v=>(v,none,H)
 | .call c=>match c.callee with
  | .builtin b=>ebuiltin P b c.args.toList c.argTypes.toList ρ H
  |_=>none
 |_=>none
def qhl(fr:List AV):Option Operand->List AV
 |none=>fr
 |some x=>fdis fr x
def fin(fr:List AV)(r:OpR):Option (AV×List AV×Hp):=r.map fun(v,x,H)=>(v,qhl fr x,H)
theorem qmY{α:Type}(fr:List AV)(x:Option α)(g:α->AV)(H:α->Hp):fin fr (x.map fun v=>(g v,none,H v))=x.map fun v=>(g v,fr,H v):=by
 cases x<;>rfl
theorem qnP(P:Program)(t t':TypeId)(x y:Operand)(fr:List AV)(H:Hp):aappend P t t' x y fr H=fin fr (eappend P t t' x (aeval fr x) (aeval fr y) H):=by
 unfold aappend eappend;cases tsl P t with
 |none=>rfl
 |some e=>
  simp only;cases tsz P e with
  |none=>rfl
  |some k=>
   cases tby P e with
   |none=>rfl
   |some b=>
    cases tzc P e with
    |none=>rfl
    |some z=>
     simp only;cases abase k (aeval fr x)with
     |none=>rfl
     |some r=>
      cases (asrc P t' k (aeval fr y)).or (qgm P t' k H (aeval fr y))with
      |none=>rfl
      |some r'=>simp only;split<;>rfl
theorem qll(P:Program)(b:Builtin)(xs:List Operand)(ts:List TypeId)(fr:List AV)(H:Hp):abuiltin P b xs ts fr H=fin fr (ebuiltin P b xs ts (aeval fr) H):=by
 unfold abuiltin;split
 ·unfold ebuiltin;exact(qmY ..).symm
 ·unfold ebuiltin;exact qnP ..
 ·simp only[ebuiltin];split
  ·rename_i h1 h2;simp only[h1,h2];rfl
  ·rename_i h1;split
   ·rename_i h2 h3;exact absurd h3 (fun h3=>h1 _ _ _ _ h2 h3)
   ·rfl
 ·simp only[ebuiltin];split
  ·rename_i h1 h2;simp only[h1,h2];rfl
  ·rename_i h1;split
   ·rename_i h2 h3;exact absurd h3 (fun h3=>h1 _ _ _ _ h2 h3)
   ·rfl
 ·rename_i h1 h2 h3 h4;unfold ebuiltin;split<;>first|rfl|(exfalso;solve_by_elim)
theorem one_e(l:List AV)(fr:List AV)(H:Hp):(match l with|[v]=>some (v,fr,H)|_=>none)=fin fr (match l with|[v]=>some (v,(none:Option Operand),H)|_=>none):=by
 rcases l with _|⟨x,_|⟨y,l⟩⟩<;>rfl
theorem qrk(P:Program)(B:List Tmp)(d:Option Tmp)(t:TypeId)(fr:List AV)(H:Hp)(X:AV):aload P B d t fr H X=fin fr (eload P B d t H X):=by
 unfold aload;split
 ·unfold eload;simp only;split
  ·rename_i h1 h2;simp only[h1,h2];cases tsz P t with
   |none=>rfl
   |some n=>simp only;split<;>rfl
  ·rename_i l h1 h2;simp only[h1,h2];rename_i p _ _;cases l[p]? with
   |none=>rfl
   |some n=>simp only;split<;>(try split)<;>rfl
  ·rename_i h1 h2;split
   ·rename_i h3 h4;exact absurd h4 (fun h4=>h1 _ h3 h4)
   ·rename_i h3 h4;exact absurd h4 (fun h4=>h2 _ h3 h4)
   ·rfl
 ·unfold eload;simp only;split
  ·rename_i h1;simp only[h1];split<;>rfl
  ·rename_i h1;simp only[h1];exact one_e ..
  ·rename_i h1;simp only[h1];rfl
 ·rename_i h1 h2;unfold eload;split
  ·exact absurd rfl (h1 _ _)
  ·exact absurd rfl (h2 _)
  ·rfl
theorem qpt(P:Program)(t:TypeId)(y:Operand)(fr:List AV)(H:Hp)(X:AV):astore P t y fr H X=fin fr (estore P t y (aeval fr y) H X):=by
 unfold astore;split
 ·rename_i i p;unfold estore;simp only;cases H[i]? with
  |none=>rfl
  |some l=>
   cases acells (aeval fr y)with
   |none=>rfl
   |some cs=>simp only;split<;>rfl
 ·rename_i h1;unfold estore;split
  ·exact absurd rfl (h1 _ _)
  ·rfl
theorem qgf(P:Program)(B:List Tmp)(fr:List AV)(H:Hp)(o:Oper):aop P B fr H o=fin fr (eop P B (aeval fr) H o):=by
 unfold aop eop;cases o.op
 case call c=>
  simp only;cases c.callee<;>first|exact qll ..|rfl
 case load t x=>exact qrk ..
 case store t x y=>exact qpt ..
 case move x=>simp only;split<;>rfl
 case pick c a b=>simp only;cases aeval fr c<;>rfl
 case box t x=>simp only;cases acells (aeval fr x)<;>rfl
 all_goals first|rfl|exact(qmY ..).symm
theorem qgj{P:Program}{b:Builtin}{xs:List Operand}{ts:List TypeId}{ρ ρ':Operand->AV}{H:Hp}(hm:∀x∈xs,ρ' x=ρ x):ebuiltin P b xs ts ρ' H=ebuiltin P b xs ts ρ H:=by
 unfold ebuiltin;split
 ·rename_i x t;rw[hm x (by simp)]
 ·rename_i x y t t';rw[hm x (by simp),hm y (by simp)]
 ·rename_i x y;rw[hm x (by simp),hm y (by simp)]
 ·rename_i x y;rw[hm x (by simp),hm y (by simp)]
 ·rfl
theorem qm7(P:Program)(B:List Tmp){ρ ρ':Operand->AV}(H:Hp)(o:Oper)(h:∀x∈o.op.operands,ρ' x=ρ x):eop P B ρ' H o=eop P B ρ H o:=by
 unfold eop;cases ho:o.op<;>rw[ho]at h<;>simp only[Op.operands]at h
 case call c=>
  simp only;cases hc:c.callee<;>try rfl
  rename_i b;have hx:∀x∈c.args,ρ' x=ρ x:=fun x hx=>h x (by simp[Call.operands,hx]);have hm:∀x∈c.args.toList,ρ' x=ρ x:=fun x hx'=>hx x (by simpa using hx');exact qgj hm
 case build t ps=>
  simp only;rw[List.map_congr_left (fun p hp=>by rw[h p.2 (by simp;exact⟨p.1,by simpa using hp⟩)])]
 case buildSlice t n ps=>
  simp only;rw[List.map_congr_left (fun p hp=>by rw[h p.2 (by simp;exact⟨p.1,by simpa using hp⟩)])]
 case slice t x lo hi mx=>
  simp only;rw[h x (by simp)]
  have:lo.map ρ'=lo.map ρ/\hi.map ρ'=hi.map ρ/\mx.map ρ'=mx.map ρ:=by
   refine⟨?_,?_,?_⟩
   ·cases lo with
    |none=>rfl
    |some y=>simp only[Option.map_some,Option.some.injEq];exact h y (by simp)
   ·cases hi with
    |none=>rfl
    |some y=>simp only[Option.map_some,Option.some.injEq];exact h y (by simp)
   ·cases mx with
    |none=>rfl
    |some y=>simp only[Option.map_some,Option.some.injEq];exact h y (by simp)
  rw[this.1,this.2.1,this.2.2]
 case pick c a b=>simp only;rw[h c (by simp),h a (by simp),h b (by simp)]
 case assign x=>simp only;rw[h x (by simp)]
 case move x=>simp only;rw[h x (by simp)]
 case box t x=>simp only;rw[h x (by simp)]
 case load t x=>simp only;rw[h x (by simp)]
 case store t x y=>simp only;rw[h x (by simp),h y (by simp)]
 case nilCheck x=>simp only;rw[h x (by simp)]
 case binOp op t x y z=>simp only;rw[h x (by simp),h y (by simp)]
 case unOp op z x=>simp only;rw[h x (by simp)]
 case convert s d x=>simp only;rw[h x (by simp)]
 case makeSlice t l c=>simp only;rw[h l (by simp),h c (by simp)]
 case fieldAddr t x f=>simp only;rw[h x (by simp)]
 case field t x f=>simp only;rw[h x (by simp)]
 case indexAddr t x i=>simp only;rw[h x (by simp),h i (by simp)]
 case index t x i=>simp only;rw[h x (by simp),h i (by simp)]
 case extract x i=>simp only;rw[h x (by simp)]
 case makeFunc fn first caps=>
  simp only;rw[List.map_congr_left (l:=first.toList) (fun p hp=>by rw[h p (by simp at hp⊢;exact .inl hp)]),List.map_congr_left (l:=caps.toList) (fun p hp=>by rw[h p (by simp at hp⊢;exact .inr hp)])]
 all_goals rfl
def tmO:Operand->List Tmp
 | .tmp t=>[t]
 |_=>[]
def tkO(B:List Tmp)(o:Oper):List Tmp:=match o.op with
 | .assign x| .box _ x| .store _ _ x=>tmO x
 | .move x=>if inB B o.dst then tmO x else []
 | .call c=>match c.callee with
  | .builtin _=>(match c.args.toList with|x::_=>tmO x|[]=>[])
  |_=>[]
 |_=>[]
def kVal(B:List Tmp)(o:Oper):Bool:=match o.op with
 | .assign x=>(tmO x).isEmpty
 | .move _=>!inB B o.dst
 | .pick ..| .build ..| .buildSlice ..| .nilCheck ..| .binOp ..| .unOp ..| .convert ..| .makeSlice ..| .slice ..| .fieldAddr ..| .field ..| .indexAddr ..| .index ..| .extract ..| .makeFunc ..=>true
 | .call c=>match c.callee with
  | .builtin .len| .builtin .min| .builtin .max=>true
  |_=>false
 |_=>false
def kLd(B:List Tmp)(o:Oper):Bool:=match o.op with
 | .load ..=>!inB B o.dst
 |_=>false
def kSt(B:List Tmp)(o:Oper):Bool:=kVal B o||kLd B o||match o.op with
 | .assign _| .move _| .alloc _| .box ..| .load ..=>true
 | .call c=>(match c.callee with
  | .builtin _=>true
  |_=>false)
 |_=>false
def kCl(o:Oper):Bool:=match o.op with
 | .call c=>(match c.callee with
  | .value _=>true
  |_=>false)
 |_=>false
def kSo(o:Oper):Bool:=match o.op with
 | .store ..=>true
 |_=>false
def mvB(B:List Tmp)(o:Oper):Bool:=kVal B o||kLd B o
def mvOk(B:List Tmp)(all:Array Oper)(x y:Oper)(q p:Nat):Bool:=(tkO B y).all (fun t=>!(x.looksAt all).contains t)&&(kVal B x||(kLd B x&&(kSt B y||(kCl y&&(p==1||p==4||(p==2&&q==2)))||(kSo y&&p==2&&q==2))))
def isAl(o:Oper):Bool:=match o.op with
 | .alloc _=>o.guard.isNone
 |_=>false
def okP(B:List Tmp)(all:Array Oper)(x y:Oper)(px py:Nat):Bool:=x.apart all y&&(if mvB B y then mvOk B all y x py px else(mvOk B all x y px py||(isAl y&&(kCl x&&px==4))))
def regA(B:List Tmp)(pf:List Nat)(ops:Array Oper):Bool:=
 let M:=(Region.before ops).toList
 qiy ops&&qf7 M ops&&
 ((List.range ops.size).all fun j=>match ops[j]? with
  |some oj=>((List.range j).all fun i=>(M.getD j 0).testBit i||match ops[i]? with
   |some oi=>okP B ops oi oj (pf.getD i 0) (pf.getD j 0)
   |none=>false)
  |none=>false)
section
variable {P:Program}{B:List Tmp}{ρ ρ':Operand->AV}{H H' H1 H2:Hp}{o:Oper}{v:AV}{x:Option Operand}
theorem map3{α:Type}{y:Option α}{g:α->AV}{t:Option Operand}(h:(y.map fun v=>(g v,t,H))=some (v,x,H')):∃u,y=some u/\g u=v/\t=x/\H=H':=by
 cases y with
 |none=>cases h
 |some u=>simp only[Option.map_some,Option.some.injEq,Prod.mk.injEq]at h;exact⟨u,rfl,h⟩
theorem qpZ(h:eop P B ρ H o=some (v,x,H')):∀t,x=some (.tmp t)->t∈tkO B o:=by
 unfold eop at h;unfold tkO;cases ho:o.op<;>rw[ho]at h<;>simp only at h⊢
 case call c=>
  split at h
  ·rename_i b hb
   try rw[hb]
   unfold ebuiltin at h;split at h
   ·obtain⟨u,_,_,rfl,_⟩:=map3 h;intro t ht;cases ht
   ·rename_i y z t t' e1 e2;unfold eappend at h;rw[e1];split at h
    ·split at h
     ·split at h
      ·split at h
       ·cases h;intro t ht;cases ht;simp[tmO]
       ·cases h
      ·cases h
     ·cases h
    ·cases h
   ·split at h
    ·cases h;intro t ht;cases ht
    ·cases h
   ·split at h
    ·cases h;intro t ht;cases ht
    ·cases h
   ·cases h
  ·cases h
 case load t y=>
  unfold eload at h;split at h
  ·split at h
   ·split at h
    ·split at h
     ·cases h;intro t ht;cases ht
     ·cases h
    ·cases h
   ·split at h
    ·split at h
     ·split at h<;>(cases h;intro t ht;cases ht)
     ·cases h
    ·cases h
   ·cases h
  ·split at h
   ·split at h
    ·cases h;intro t ht;cases ht
    ·cases h
   ·split at h
    ·cases h;intro t ht;cases ht
    ·cases h
   ·cases h
  ·cases h
 case store t y z=>
  unfold estore at h;split at h
  ·split at h
   ·split at h
    ·cases h;intro t ht;cases ht;simp[tmO]
    ·cases h
   ·cases h
  ·cases h
 case assign y=>cases h;intro t ht;cases ht;simp[tmO]
 case move y=>
  split at h
  ·rename_i hb;cases h;intro t ht;cases ht;simp[tmO,hb]
  ·cases h;intro t ht;cases ht
 case pick c a b=>
  split at h
  ·cases h;intro t ht;cases ht
  ·cases h
 case box t y=>
  cases hq:acells (ρ y)with
  |none=>rw[hq]at h;cases h
  |some l=>rw[hq]at h;cases h;intro t ht;cases ht;simp[tmO]
 case alloc t=>
  cases hq:tzc P t with
  |none=>rw[hq]at h;cases h
  |some l=>rw[hq]at h;cases h;intro t ht;cases ht
 all_goals first
  |(obtain⟨u,_,_,rfl,_⟩:=map3 h;intro t ht;cases ht)
  |cases h
theorem qdl{b:Builtin}{xs:List Operand}{ts:List TypeId}(hk:b= .len\/b= .min\/b= .max)(h:ebuiltin P b xs ts ρ H=some (v,x,H')):H'=H/\(∀t,x≠some (.tmp t))/\∀H2,ebuiltin P b xs ts ρ H2=some (v,x,H2):=by
 unfold ebuiltin at h⊢;split at h
 ·obtain⟨u,e,rfl,rfl,rfl⟩:=map3 h;exact⟨rfl,fun s=>nofun,fun _=>by simp only[e];rfl⟩
 ·simp at hk
 ·split at h
  ·cases h;rename_i h1 h2;exact⟨rfl,fun s=>nofun,fun _=>by simp only[h1,h2]⟩
  ·cases h
 ·split at h
  ·cases h;rename_i h1 h2;exact⟨rfl,fun s=>nofun,fun _=>by simp only[h1,h2]⟩
  ·cases h
 ·cases h
theorem qhm(hk:kVal B o=true)(h:eop P B ρ H o=some (v,x,H')):H'=H/\(∀t,x≠some (.tmp t))/\∀H2,eop P B ρ H2 o=some (v,x,H2):=by
 unfold kVal at hk
 have go:∀{α:Type} {y:Option α} {g:α->AV} {t:Option Operand} {H:Hp},(∀s,t≠some (.tmp s))->(y.map fun v=>(g v,t,H))=some (v,x,H')->H'=H/\(∀t,x≠some (.tmp t))/\∀H2:Hp,(y.map fun v=>(g v,t,H2))=some (v,x,H2):=by
  intro α y g t H ht h;obtain⟨u,rfl,rfl,rfl,rfl⟩:=map3 h;exact⟨rfl,ht,fun _=>rfl⟩
 unfold eop at h⊢;cases ho:o.op<;>rw[ho]at h hk<;>simp only at h hk⊢<;>try (first|exact go (fun s=>nofun) h|(cases hk;done))
 case call c=>
  split at hk
  ·rename_i hb;rw[hb]at h⊢;simp only at h⊢;exact qdl (.inl rfl) h
  ·rename_i hb;rw[hb]at h⊢;simp only at h⊢;exact qdl (.inr (.inl rfl)) h
  ·rename_i hb;rw[hb]at h⊢;simp only at h⊢;exact qdl (.inr (.inr rfl)) h
  ·cases hk
 case assign y=>
  cases h;refine⟨rfl,fun t ht=>?_,fun _=>rfl⟩;cases ht;simp[tmO]at hk
 case move y=>
  have hb:inB B o.dst=false:=by simpa using hk
  rw[hb]at h;simp only[Bool.false_eq_true,if_false]at h;cases h;exact⟨rfl,fun s=>nofun,fun _=>by simp[hb]⟩
 case pick c a b=>
  split at h
  ·rename_i h1;cases h;exact⟨rfl,fun s=>nofun,fun _=>rfl⟩
  ·cases h
def preD(S:Nat->Prop)(H H':Hp):Prop:=∀(i:Nat) (l:List AV),S i->H[i]? =some l->∃l':List AV,H'[i]? =some l'/\l'.map AV.dis=l.map AV.dis
theorem qaT{S:Nat->Prop}(H:Hp):preD S H H:=fun i l _ h=>⟨l,h,rfl⟩
theorem qkK{S:Nat->Prop}(h:preD S H H1)(k:preD S H1 H2):preD S H H2:=fun i l hs hl=>by
 obtain⟨l1,h1,e1⟩:=h i l hs hl;obtain⟨l2,h2,e2⟩:=k i l1 hs h1;exact⟨l2,h2,e2.trans e1⟩
theorem qae(H:Hp):preH H H:=⟨[],by simp⟩
theorem preH.D{S:Nat->Prop}(h:preH H H1):preD S H H1:=fun i l _ hl=>by
 obtain⟨J,rfl⟩:=h;exact⟨l,by rw[zqA (zqC.1 hl).1];exact hl,rfl⟩
theorem qq6(x:AV):x.dis.dis=x.dis:=by cases x<;>rfl
def qp0(P:Program)(t:TypeId)(p:Nat)(L:List AV):Option AV:=match trow P t with
 |some true=>match tsz P t with
  |some n=>if p+n<=L.length/\((L.drop p).take n).all (·.free)then some (.agg ((L.drop p).take n))else none
  |none=>none
 |some false=>match L[p]? with
  |some v=>if v.free then some v else none
  |none=>none
 |none=>none
theorem qhn{d:Option Tmp}{t:TypeId}{i p:Nat}(hb:inB B d=false):eload P B d t H (.ptr (some (i,p)))=((H[i]?).bind fun l=>qp0 P t p (l.map AV.dis)).map fun v=>(v,none,H):=by
 unfold eload qp0;dsimp only
 generalize H[i]? =q
 cases q with
 |none=>rfl
 |some l=>
  simp only[Option.bind_some]
  generalize trow P t=r
  cases r with
  |none=>rfl
  |some b=>
   cases b with
   |true=>
    simp only
    generalize tsz P t=z
    cases z with
    |none=>rfl
    |some n=>
     simp only[List.length_map,<-List.map_drop,<-List.map_take,List.all_map,Function.comp_def];split<;>rfl
   |false=>
    simp only[List.getElem?_map]
    generalize l[p]? =z
    cases z with
    |none=>rfl
    |some v=>
     simp only[Option.map_some,hb,Bool.false_eq_true,if_false];split<;>rfl
theorem qm6{S:Nat->Prop}(hk:kLd B o=true)(hS:LA S ρ o)(h:eop P B ρ H o=some (v,x,H')):H'=H/\x=none/\∀H2,preD S H H2->eop P B ρ H2 o=some (v,none,H2):=by
 unfold kLd at hk;split at hk
 ·rename_i t y ho;have hb:inB B o.dst=false:=by simpa using hk
  unfold eop at h⊢;simp only[ho]at h⊢;by_cases hp:∃i p,ρ y= .ptr (some (i,p))
  ·obtain⟨i,p,hp⟩:=hp;have hSi:S i:=by simpa only[LA,ho,hp]using hS
   rw[hp,qhn hb]at h;cases hl:H[i]? with
   |none=>rw[hl]at h;cases h
   |some l=>
    rw[hl]at h;obtain⟨u,e,rfl,rfl,rfl⟩:=map3 h;refine⟨rfl,rfl,fun H2 hH=>?_⟩;obtain⟨l',h1,h2⟩:=hH i l hSi hl;rw[hp,qhn hb,h1];rw[Option.bind_some]at e⊢;rw[h2,e];rfl
  ·unfold eload at h⊢;split at h
   ·rename_i i p heq;exact absurd ⟨i,p,heq⟩ hp
   ·split at h
    ·rename_i h1;split at h
     ·rename_i h2;cases h;refine⟨rfl,rfl,fun H2 hH=>?_⟩;rw[if_pos h2]
     ·cases h
    ·rename_i h1;split at h
     ·cases h;exact⟨rfl,rfl,fun H2 hH=>by simp only[h1]⟩
     ·cases h
    ·cases h
   ·cases h
 ·cases hk
theorem qjj{S:Nat->Prop}(hk:kLd B o=true)(hS:LA S ρ o)(hH:preD S H H2)(hb:∀y∈o.op.operands,Bnd H.length (ρ y))(h:eop P B ρ H2 o=some (v,x,H')):eop P B ρ H o=some (v,none,H):=by
 unfold kLd at hk;split at hk
 ·rename_i t y ho;have hbB:inB B o.dst=false:=by simpa using hk
  have hy:=hb y (by rw[ho];simp[Op.operands]);unfold eop at h⊢;simp only[ho]at h⊢;by_cases hp:∃i p,ρ y= .ptr (some (i,p))
  ·obtain⟨i,p,hp⟩:=hp;have hSi:S i:=by simpa only[LA,ho,hp]using hS
   rw[hp]at hy;have hi:i<H.length:=by cases hy;assumption
   have hl:H[i]? =some H[i]:=zqD hi;obtain⟨l',h1,h2⟩:=hH i _ hSi hl;rw[hp,qhn hbB,h1,Option.bind_some,h2]at h;rw[hp,qhn hbB,hl,Option.bind_some];obtain⟨u,e,rfl,rfl,rfl⟩:=map3 h;rw[e];rfl
  ·unfold eload at h⊢;split at h
   ·rename_i i p heq;exact absurd ⟨i,p,heq⟩ hp
   ·split at h
    ·rename_i h1;split at h
     ·rename_i h2;cases h;simp only[h1,h2,if_true]
     ·cases h
    ·rename_i h1;split at h
     ·cases h;simp only[h1]
     ·cases h
    ·cases h
   ·cases h
 ·cases hk
theorem eop_st{S:Nat->Prop}(hk:kSt B o=true)(h:eop P B ρ H o=some (v,x,H')):preD S H H':=by
 unfold kSt at hk;simp only[Bool.or_eq_true]at hk;rcases hk with(hk|hk)|hk
 ·rw[(qhm hk h).1];exact qaT _
 ·rw[(qm6 (S:=fun _=>True) hk (by unfold LA;split<;>(try split)<;>trivial) h).1];exact qaT _
 ·unfold eop at h;cases ho:o.op<;>rw[ho]at h hk<;>simp only at h hk<;>try (cases hk;done)
  case call c=>
   split at h
   ·rename_i b hb;unfold ebuiltin at h;split at h
    ·obtain⟨u,_,_,_,rfl⟩:=map3 h;exact qaT _
    ·unfold eappend at h;split at h
     ·split at h
      ·split at h
       ·split at h
        ·cases h;exact qaT _
        ·cases h
       ·cases h
      ·cases h
     ·cases h
    ·split at h
     ·cases h;exact qaT _
     ·cases h
    ·split at h
     ·cases h;exact qaT _
     ·cases h
    ·cases h
   ·cases h
  case load t y=>
   unfold eload at h;split at h
   ·split at h
    ·split at h
     ·split at h
      ·cases h;exact qaT _
      ·cases h
     ·cases h
    ·split at h
     ·split at h
      ·split at h
       ·rename_i i p heq _ _ l hl htr _ u hu h1 h2;cases h;intro j m _ hm;by_cases hij:j=i
        ·subst hij;rw[hl]at hm;cases hm;refine⟨_,zqO (zqC.1 hl).1,?_⟩;rw[List.map_set,qq6];refine List.ext_getElem? fun q=>?_;by_cases hq:q=p
         ·subst hq;rw[zqO (by rw[List.length_map];exact(zqC.1 hu).1),List.getElem?_map,hu];rfl
         ·rw[zqF (Ne.symm hq)]
        ·exact⟨m,by rw[zqF (Ne.symm hij)];exact hm,rfl⟩
       ·cases h;exact qaT _
      ·cases h
     ·cases h
    ·cases h
   ·split at h
    ·split at h
     ·cases h;exact qaT _
     ·cases h
    ·split at h
     ·cases h;exact qaT _
     ·cases h
    ·cases h
   ·cases h
  case assign y=>cases h;exact qaT _
  case move y=>split at h<;>(cases h;exact qaT _)
  case alloc t=>
   cases hq:tzc P t with
   |none=>rw[hq]at h;cases h
   |some l=>rw[hq]at h;cases h;exact preH.D ⟨_,rfl⟩
  case box t y=>
   cases hq:acells (ρ y)with
   |none=>rw[hq]at h;cases h
   |some l=>rw[hq]at h;cases h;exact preH.D ⟨_,rfl⟩
end
section
variable {P:Program}{B:List Tmp}{ρ ρ':Operand->AV}{H H' H1 H2:Hp}{o:Oper}{v:AV}{x:Option Operand}{all:Array Oper}{fr fr' fr1 fr2:List AV}{E:Env}{W:World}{F:Nat->Prop}{Rd0:Nat->Nat->Prop}{w:World}{β0:Nat->Nat}{n:Nat}{ds:List Deferred}
def Agr(all:Array Oper)(o:Oper)(fr fr':List AV):Prop:=∀t∈o.looksAt all,fr'[t]? =fr[t]?
theorem Agr.refl:Agr all o fr fr:=fun _ _=>rfl
theorem Agr.trans(h:Agr all o fr fr1)(k:Agr all o fr1 fr2):Agr all o fr fr2:=fun t ht=>(k t ht).trans (h t ht)
theorem Agr.symm(h:Agr all o fr fr'):Agr all o fr' fr:=fun t ht=>(h t ht).symm
theorem qds{t:Tmp}(h:Operand.tmp t∈o.op.operands):t∈o.looksAt all:=by
 unfold Oper.looksAt;exact List.mem_append_left _ (List.mem_filterMap.2 ⟨.tmp t,by simpa using h,rfl⟩)
theorem Agr.eval(h:Agr all o fr fr'):∀x∈o.op.operands,aeval fr' x=aeval fr x:=by
 intro x hx;cases x with
 |tmp t=>
  show fr'.getD t _=fr.getD t _;simp only[List.getD,h t (qds hx)]
 |_=>rfl
theorem Agr.wanted(h:Agr all o fr fr'):qbb all fr' o=qbb all fr o:=by
 unfold qbb;cases hg:o.guard with
 |none=>rfl
 |some g=>
  obtain⟨j,want⟩:=g;simp only
  have:qeN all fr' j=qeN all fr j:=by
   unfold qeN;cases hd:(all[j]?).bind (·.dst)with
   |none=>rfl
   |some d=>
    simp only;rw[h d ?_];unfold Oper.looksAt;refine List.mem_append_right _ ?_;simp[hg,hd]
  rw[this]
theorem Agr.call(h:Agr all o fr fr'):acall fr' o=acall fr o:=by
 unfold acall;cases ho:o.op<;>try rfl
 rename_i c;simp only;cases hc:c.callee<;>try rfl
 rename_i x;have hx:=h.eval;rw[ho]at hx;simp only;rw[hx x (by simp[Op.operands,Call.operands,hc])]
 have:(c.args.toList.map fun y=>(aeval fr' y).dis)=c.args.toList.map fun y=>(aeval fr y).dis:=List.map_congr_left fun y hy=>by
  rw[hx y (by simp[Op.operands,Call.operands];right;simpa using hy)]
 rw[this]
theorem Agr.eop(h:Agr all o fr fr'):eop P B (aeval fr') H o=eop P B (aeval fr) H o:=qm7 P B H o h.eval
theorem qep{d:Option Tmp}{t:Tmp}(h:∀e,d=some e->e≠t):(aput fr d v)[t]? =fr[t]? :=by
 cases d with
 |none=>rfl
 |some e=>exact zqF (h e rfl)
theorem qpc{y:Operand}{t:Tmp}(h:∀e,y= .tmp e->e≠t):(fdis fr y)[t]? =fr[t]? :=by
 cases y with
 |tmp e=>exact zqF (h e rfl)
 |_=>rfl
theorem qm4{y:Option Operand}{t:Tmp}(h:∀e,y=some (.tmp e)->e≠t):(qhl fr y)[t]? =fr[t]? :=by
 cases y with
 |none=>rfl
 |some y=>exact qpc fun e he=>h e (by rw[he])
theorem qge{d e:Option Tmp}{u:AV}(h:∀t,d=some t->e≠some t):aput (aput fr d v) e u=aput (aput fr e u) d v:=by
 cases d with
 |none=>rfl
 |some d=>cases e with
  |none=>rfl
  |some e=>exact List.set_comm _ _ (fun he=>h d rfl (by rw[he]))
theorem qm3{d:Option Tmp}{y:Operand}(h:∀t,d=some t->y≠ .tmp t):fdis (aput fr d v) y=aput (fdis fr y) d v:=by
 cases d with
 |none=>rfl
 |some d=>cases y with
  |tmp e=>
   have hne:d≠e:=fun he=>h d rfl (by rw[he]);show(fr.set d v).set e ((fr.set d v).getD e (.raw undef)).dis=(fr.set e (fr.getD e (.raw undef)).dis).set d v;have:(fr.set d v).getD e (.raw undef)=fr.getD e (.raw undef):=by simp only[List.getD,zqF hne]
   rw[this];exact List.set_comm _ _ hne
  |_=>rfl
theorem qk4{d:Option Tmp}{y:Option Operand}(h:∀t,d=some t->y≠some (.tmp t)):qhl (aput fr d v) y=aput (qhl fr y) d v:=by
 cases y with
 |none=>rfl
 |some y=>exact qm3 fun t ht e=>h t ht (by rw[e])
theorem qok {t : Tmp} (h : t ∈ tkO B o) : t ∈ o.looksAt all := by
  have tm : ∀ (y : Operand), t ∈ tmO y → y = .tmp t := fun y hy => by
    cases y <;> simp [tmO] at hy
    rw [hy]
  unfold tkO at h
  split at h
  · rename_i y ho; exact qds (by rw [ho, ← tm _ h]; simp [Op.operands])
  · rename_i y ho; exact qds (by rw [ho, ← tm _ h]; simp [Op.operands])
  · rename_i y ho; exact qds (by rw [ho, ← tm _ h]; simp [Op.operands])
  · rename_i y ho
    split at h
    · exact qds (by rw [ho, ← tm _ h]; simp [Op.operands])
    · cases h
  · rename_i c ho
    split at h
    · split at h
      · rename_i y l e
        have : y ∈ c.args := by have : y ∈ c.args.toList := by rw [e]; simp
                                simpa using this
        exact qds (by rw [ho, ← tm _ h]; simp [Op.operands, Call.operands, this])
      · cases h
    · cases h
  · cases h
def DS(q:Nat)(S:Nat->Prop):Nat->Prop:=fun i=>q=2->S i
theorem qry{p:Nat}{S:Nat->Prop}(h:LP p S fr o):LA (DS p S) (aeval fr) o:=by
 by_cases hp:p=2
 ·subst hp;have h:=h.1;unfold LA at*;split at h
  ·split at h
   ·exact fun _=>h
   ·trivial
  ·trivial
 ·unfold LA;split
  ·split
   ·exact fun h=>absurd h hp
   ·trivial
  ·trivial
theorem Agr.LP{p:Nat}{S:Nat->Prop}(ha:Agr all o fr fr')(h:LP p S fr o):Go.Proofs.YtnnhdehmlkkfjaaGreatDoor.LP p S fr' o:=by
 unfold Go.Proofs.YtnnhdehmlkkfjaaGreatDoor.LP at*;split at h
 ·refine⟨?_,?_⟩
  ·have h:=h.1;unfold LA at*;split at h
   ·rename_i y ho;rw[ha.eval y (by rw[ho];simp[Op.operands])];exact h
   ·trivial
  ·have h:=h.2;unfold SA at*;split at h
   ·rename_i y _ ho;rw[ha.eval y (by rw[ho];simp[Op.operands])];exact h
   ·trivial
 ·trivial
structure Res (S:Nat->Prop) (B:List Tmp) (p:Nat) (o:Oper) (fr:List AV) (H:Hp) (fr':List AV) (H':Hp):Prop where
 fr:∀t,t∉tkO B o->o.dst≠some t->fr'[t]? =fr[t]?
 h:∀q,(kSt B o=true\/(kCl o=true/\(p=1\/p=4\/(p=2/\q=2)))\/(kSo o=true/\p=2/\q=2))->preD (DS q S) H H'
theorem qdK{f:FuncId}{az:List AV}(h:acall fr o=some (f,az)):kCl o=true/\kSt B o=false:=by
 unfold acall at h;split at h
 ·rename_i c ho;split at h
  ·rename_i y hc;simp[kCl,kSt,kVal,kLd,ho,hc]
  ·cases h
 ·cases h
theorem qiw(h:mvB B o=true):acall fr o=none:=by
 cases hc:acall fr o with
 |none=>rfl
 |some r=>
  obtain⟨f,az⟩:=r;have:=(qdK (B:=B) hc).2;unfold kSt at this;unfold mvB at h;rw[h]at this;cases this
theorem qdn{p:Nat}{K K':List AV->Hp->Prop}(h:vop P E B all p o K fr H)(hk:∀fr' H',Res E.S B p o fr H fr' H'->K fr' H'->K' fr' H'):vop P E B all p o K' fr H:=by
 have put:∀(fr1:List AV) (u:AV) (t:Tmp),o.dst≠some t->(aput fr1 o.dst u)[t]? =fr1[t]? :=fun fr1 u t ht=>qep fun e he hte=>ht (by rw[he,hte]);unfold vop qdA at*;split at h
 ·unfold qdP at*;split at h
  ·rename_i f az hc;refine VPC.mono h fun u H' k4 k1 hq=>hk _ _ ⟨fun t _ h2=>put _ _ t h2,fun q hp=>?_⟩ hq;rcases hp with hp|⟨_,hp|hp|⟨hp,hp2⟩⟩|⟨hp,_⟩
   ·rw[(qdK hc).2]at hp;cases hp
   ·have h1:=k1 (by rw[hp];decide);rw[hp]at h1;exact preH.D h1
   ·rw[k4 hp];exact qaT _
   ·have h1:=k1 (by rw[hp];decide);rw[hp]at h1;intro i l hs hl;exact⟨l,(h1.2 i (hs hp2) (zqC.1 hl).1).trans hl,rfl⟩
   ·exfalso;have h1:=(qdK (B:=B) hc).1;unfold kCl at h1;unfold kSo at hp;split at hp
    ·rename_i ho;rw[ho]at h1;cases h1
    ·cases hp
  ·have hLP:=h.1;refine⟨h.1,?_⟩;replace h:=h.2;rw[qgf]at h⊢;unfold qgl fin at*;cases he:eop P B (aeval fr) H o with
   |none=>rw[he]at h;exact h.elim
   |some r=>
    obtain⟨u,y,H'⟩:=r;rw[he]at h;refine hk _ _ ⟨fun t h1 h2=>?_,fun q hp=>?_⟩ h
    ·rw[put _ _ t h2];exact qm4 fun e hye het=>h1 (het▸qpZ he e hye)
    ·rcases hp with hp|hp|⟨hp,hp2,hq2⟩
     ·exact eop_st hp he
     ·exfalso;rename_i hn;unfold eop at he;unfold kCl at hp;split at hp
      ·rename_i c ho;split at hp
       ·rename_i z hz;rw[ho]at he;simp only[hz]at he;cases he
       ·cases hp.1
      ·cases hp.1
     ·subst hp2;have hs:=hLP.2;unfold kSo at hp;split at hp
      ·rename_i t y z ho;unfold SA at hs;unfold eop at he;rw[ho]at hs he;simp only at hs he;unfold estore at he;split at he
       ·rename_i i pp hy;rw[hy]at hs;split at he
        ·split at he
         ·cases he;intro j l hj hl;refine⟨l,?_,rfl⟩;rw[zqF (fun e=>hs (by rw[e];exact hj hq2))];exact hl
         ·cases he
        ·cases he
       ·cases he
      ·cases hp
 ·exact hk _ _ ⟨fun t _ h2=>put _ _ t h2,fun _ _=>qaT _⟩ h
 ·exact h
theorem qlD{p:Nat}{K:List AV->Hp->Prop}{d:Option Tmp}(hd:∀e,d=some e->e∉o.looksAt all/\o.dst≠some e):
  vop P E B all p o K (aput fr d v) H↔vop P E B all p o (fun fr' H'=>K (aput fr' d v) H') fr H:=by
 have hA:Agr all o fr (aput fr d v):=fun t ht=>qep fun e he het=>(hd e he).1 (het▸ht);have hc:∀(fr1:List AV) (u:AV),aput (aput fr1 d v) o.dst u=aput (aput fr1 o.dst u) d v:=fun fr1 u=>qge fun t ht=>(hd t ht).2;unfold vop;have hL:LP p E.S (aput fr d v) o↔LP p E.S fr o:=⟨hA.symm.LP,hA.LP⟩
 rw[hA.wanted,hA.call,qgf,qgf,hA.eop,hL];unfold qdA;split
 ·unfold qdP;split
  ·simp only[hc]
  ·cases he:eop P B (aeval fr) H o with
   |none=>exact Iff.rfl
   |some r=>
    obtain⟨u,y,H'⟩:=r;have hf:qhl (aput fr d v) y=aput (qhl fr y) d v:=qk4 fun t ht hy=>(hd t ht).1 (qok (qpZ he t hy));simp only[fin,qgl,Option.map_some,hf,hc]
 ·rw[hc]
 ·exact Iff.rfl
def Val(P:Program)(S:Nat->Prop)(p:Nat)(B:List Tmp)(all:Array Oper)(o:Oper)(v:AV)(fr:List AV)(H:Hp):Prop:=
 (qbb all fr o=some true/\LP p S fr o/\∃x,(∀t,x≠some (.tmp t))/\eop P B (aeval fr) H o=some (v,x,H))\/(qbb all fr o=some false/\v= .raw undef)
theorem qgJ{x:Option Operand}(h:∀t,x≠some (.tmp t)):qhl fr x=fr:=by
 cases x with
 |none=>rfl
 |some y=>cases y with
  |tmp t=>exact absurd rfl (h t)
  |_=>rfl
theorem qjF{p:Nat}{K:List AV->Hp->Prop}(hm:mvB B o=true)(hv:Val P E.S p B all o v fr H)(h:K (aput fr o.dst v) H):vop P E B all p o K fr H:=by
 unfold vop;rcases hv with⟨h1,hL,x,h2,h3⟩|⟨h1,rfl⟩
 ·rw[h1,qgR,qiw hm,qdz,qgf,h3];refine⟨hL,?_⟩;show K (aput (qhl fr x) o.dst v) H;rw[qgJ h2];exact h
 ·rw[h1,qjv];exact h
theorem qfj{p:Nat}{K:List AV->Hp->Prop}(hm:mvB B o=true)(h:vop P E B all p o K fr H):∃v,Val P E.S p B all o v fr H/\K (aput fr o.dst v) H:=by
 unfold vop qdA at h;split at h
 ·rename_i hw;rw[qiw hm,qdz,qgf]at h;obtain⟨hL,h⟩:=h;cases he:eop P B (aeval fr) H o with
  |none=>rw[he]at h;exact h.elim
  |some r=>
   obtain⟨u,y,H'⟩:=r;rw[he]at h;have h:K (aput (qhl fr y) o.dst u) H':=h
   have key:H'=H/\∀t,y≠some (.tmp t):=by
    unfold mvB at hm;rw[Bool.or_eq_true]at hm;rcases hm with hm|hm
    ·obtain⟨a,b,_⟩:=qhm hm he;exact⟨a,b⟩
    ·obtain⟨a,b,_⟩:=qm6 hm (qry hL) he;exact⟨a,by rw[b];exact fun t=>nofun⟩
   obtain⟨rfl,hy⟩:=key;rw[qgJ hy]at h;exact⟨u,.inl ⟨hw,hL,y,hy,he⟩,h⟩
 ·rename_i hw;exact⟨_,.inr ⟨hw,rfl⟩,h⟩
 ·exact h.elim
theorem Val.later{S:Nat->Prop}{p:Nat}(hm:mvB B o=true)(ha:Agr all o fr fr')(hH:kVal B o=true\/preD (DS p S) H H')(hv:Val P S p B all o v fr H):Val P S p B all o v fr' H':=by
 rcases hv with⟨h1,hL,x,h2,h3⟩|⟨h1,h2⟩
 ·refine .inl ⟨ha.wanted.trans h1,ha.LP hL,?_⟩;rw[ha.eop];by_cases hk:kVal B o=true
  ·exact⟨x,h2,(qhm hk h3).2.2 H'⟩
  ·unfold mvB at hm;simp only[hk,Bool.false_or]at hm;exact⟨none,fun t=>nofun,(qm6 hm (qry hL) h3).2.2 H' (hH.resolve_left hk)⟩
 ·exact .inr ⟨ha.wanted.trans h1,h2⟩
theorem Val.back{S:Nat->Prop}{p:Nat}(hm:mvB B o=true)(ha:Agr all o fr fr')(hH:kVal B o=true\/preD (DS p S) H H')(hb:∀y,Bnd H.length (aeval fr y))(hv:Val P S p B all o v fr' H'):Val P S p B all o v fr H:=by
 rcases hv with⟨h1,hL,x,h2,h3⟩|⟨h1,h2⟩
 ·have hL':=ha.symm.LP hL;refine .inl ⟨ha.wanted.symm.trans h1,hL',?_⟩;rw[ha.eop]at h3;by_cases hk:kVal B o=true
  ·exact⟨x,h2,(qhm hk h3).2.2 H⟩
  ·unfold mvB at hm;simp only[hk,Bool.false_or]at hm;exact⟨none,fun t=>nofun,qjj hm (qry hL') (hH.resolve_left hk) (fun y _=>hb y) h3⟩
 ·exact .inr ⟨ha.wanted.symm.trans h1,h2⟩
def atl(P:Program)(E:Env)(B:List Tmp)(all:Array Oper)(pf:List Nat)(K:List AV->Hp->Prop):List Nat->List AV->Hp->Prop
 |[],fr,H=>K fr H
 |i::l,fr,H=>match all[i]? with
  |some o=>vop P E B all (pf.getD i 0) o (atl P E B all pf K l) fr H
  |none=>atl P E B all pf K l fr H
variable {pf:List Nat}{K:List AV->Hp->Prop}
theorem qa1{i:Nat}{l:List Nat}(hi:all[i]? =some o):atl P E B all pf K (i::l) fr H=vop P E B all (pf.getD i 0) o (atl P E B all pf K l) fr H:=by
 rw[atl,hi]
theorem qdf{x y:Oper}{q p:Nat}(h:mvOk B all x y q p=true):(∀t∈tkO B y,t∉x.looksAt all)/\mvB B x=true/\(kVal B x=true\/kSt B y=true\/(kCl y=true/\(p=1\/p=4\/(p=2/\q=2)))\/(kSo y=true/\p=2/\q=2)):=by
 unfold mvOk at h;simp only[Bool.and_eq_true,Bool.or_eq_true,List.all_eq_true,Bool.not_eq_true',beq_iff_eq]at h;obtain⟨h1,h2⟩:=h;refine⟨fun t ht hx=>?_,?_,?_⟩
 ·have:=h1 t ht;simp[hx]at this
 ·unfold mvB;rcases h2 with h|h<;>simp[h]
 ·rcases h2 with h|⟨h,(h'|h')|h'⟩
  ·exact .inl h
  ·exact .inr (.inl h')
  ·exact .inr (.inr (.inl ⟨h'.1,or_assoc.1 h'.2⟩))
  ·exact .inr (.inr (.inr ⟨h'.1.1,h'.1.2,h'.2⟩))
theorem Res.agr{S:Nat->Prop}{y:Oper}{p:Nat}(hr:Res S B p y fr H fr' H')(hap:o.apart all y=true)(hm:∀t∈tkO B y,t∉o.looksAt all):Agr all o fr fr':=fun t ht=>
 hr.fr t (fun h=>hm t h ht) (fun h=>(Oper.apart_spec hap).2.2 t h ht)
theorem qmO{j:Nat}{oj:Oper}{m:List Nat}(hj:all[j]? =some oj):∀(l:List Nat) {fr:List AV} {H:Hp},
  (∀i∈l,∃oi,all[i]? =some oi/\oi.apart all oj=true/\mvOk B all oi oj (pf.getD i 0) (pf.getD j 0)=true)->atl P E B all pf K (l++j::m) fr H->vop P E B all (pf.getD j 0) oj (atl P E B all pf K (l++m)) fr H:=by
 intro l
 induction l with
 |nil=>intro fr H _ h;rwa[List.nil_append,qa1 hj]at h
 |cons i l ih=>
  intro fr H hl h;obtain⟨oi,hi,hap,hok⟩:=hl i (List.mem_cons_self ..);obtain⟨h1,h2,h3⟩:=qdf hok;rw[List.cons_append,qa1 hi]at h;obtain⟨v,hv,h⟩:=qfj h2 h;have h:=ih (fun k hk=>hl k (List.mem_cons_of_mem _ hk)) h;have h:=(qlD (fun e he=>⟨(Oper.apart_spec hap).1 e he,(Oper.apart_spec hap).2.1 e he⟩)).1 h;refine qdn h fun fr' H' hr hk=>?_;rw[List.cons_append,qa1 hi];exact qjF h2 (hv.later h2 (hr.agr hap h1) (h3.imp id (hr.h _))) hk
theorem qk2{j:Nat}{oj:Oper}{m:List Nat}(hj:all[j]? =some oj)(hm:mvB B oj=true):∀(l:List Nat) {fr:List AV} {H:Hp},
  (∀i∈l,∃oi,all[i]? =some oi/\oi.apart all oj=true/\mvOk B all oj oi (pf.getD j 0) (pf.getD i 0)=true)->Val P E.S (pf.getD j 0) B all oj v fr H->atl P E B all pf K (l++j::m) fr H->atl P E B all pf K (l++m) (aput fr oj.dst v) H:=by
 intro l
 induction l with
 |nil=>
  intro fr H _ hv h;rw[List.nil_append,qa1 hj]at h;obtain⟨u,hu,h⟩:=qfj hm h
  have:u=v:=by
   rcases hu with⟨a1,_,x,a2,a3⟩|⟨a1,a2⟩<;>rcases hv with⟨b1,_,y,b2,b3⟩|⟨b1,b2⟩
   ·rw[a3]at b3;cases b3;rfl
   ·rw[a1]at b1;cases b1
   ·rw[a1]at b1;cases b1
   ·rw[a2,b2]
  rw[this]at h;exact h
 |cons i l ih=>
  intro fr H hl hv h;obtain⟨oi,hi,hap,hok⟩:=hl i (List.mem_cons_self ..);obtain⟨h1,h2,h3⟩:=qdf hok;have hpa:=qgP hap;rw[List.cons_append,qa1 hi]at h⊢;refine(qlD (fun e he=>⟨(Oper.apart_spec hpa).1 e he,(Oper.apart_spec hpa).2.1 e he⟩)).2 ?_;exact qdn h fun fr' H' hr hk=>ih (fun k hk=>hl k (List.mem_cons_of_mem _ hk)) (hv.later hm (hr.agr hpa h1) (h3.imp id (hr.h _))) hk
theorem qcd{i:Nat}{p:Nat}{KC:Act->World->Prop}{Q:Exit->Act->World->Prop}{a:Act}(hi:all[i]? =some o)(hs:St ds E W F Rd0 β0 n fr H a w)(hv:vop P E B all p o K fr H)
  (hKK:∀fr H a w,St ds E W F Rd0 β0 n fr H a w->K fr H->KC a w):wpOp P all Q i KC a w:=by
 have:=qpN (Q:=Q) hs hv hKK;unfold wpOp;simp only[hi];split
 ·rename_i h;rw[if_pos h]at this;exact .inl this
 ·rename_i h;rw[if_neg h]at this;exact this
theorem qk1{j:Nat}{oj:Oper}{m:List Nat}(hj:all[j]? =some oj)(hm:mvB B oj=true){fr0:List AV}{H0:Hp}(hb:∀y,Bnd H0.length (aeval fr0 y)):∀(l:List Nat) {fr:List AV} {H:Hp} {a:Act} {w:World},
  (∀i∈l,∃oi,all[i]? =some oi/\oi.apart all oj=true/\mvOk B all oj oi (pf.getD j 0) (pf.getD i 0)=true)->Agr all oj fr0 fr->(kVal B oj=true\/preD (DS (pf.getD j 0) E.S) H0 H)->St ds E W F Rd0 β0 n fr H a w->
   atl P E B all pf K (l++j::m) fr H->∃v,Val P E.S (pf.getD j 0) B all oj v fr0 H0:=by
 intro l
 induction l with
 |nil=>
  intro fr H a w _ ha hH hs h;rw[List.nil_append,qa1 hj]at h;obtain⟨u,hu,h⟩:=qfj hm h;exact⟨u,hu.back hm ha hH hb⟩
 |cons i l ih=>
  intro fr H a w hl ha hH hs h;obtain⟨oi,hi,hap,hok⟩:=hl i (List.mem_cons_self ..);obtain⟨h1,h2,h3⟩:=qdf hok;have hpa:=qgP hap;rw[List.cons_append,qa1 hi]at h;have h':=qdn (K':=fun fr' H'=>Res E.S B (pf.getD i 0) oi fr H fr' H'/\atl P E B all pf K (l++j::m) fr' H') h fun fr' H' hr hk=>⟨hr,hk⟩
  have:=qcd (Q:=QF) (KC:=fun a w=>∃fr' H',St ds E W F Rd0 β0 n fr' H' a w/\Res E.S B (pf.getD i 0) oi fr H fr' H'/\atl P E B all pf K (l++j::m) fr' H') hi hs h' fun fr H a w hs hk=>⟨fr,H,hs,hk⟩
  obtain⟨a',w',_,fr',H',hs',hr,hk⟩:=qpS hi this;refine ih (fun k hk=>hl k (List.mem_cons_of_mem _ hk)) (ha.trans (hr.agr hpa h1)) ?_ hs' hk;rcases hH with hH|hH
  ·exact .inl hH
  ·exact h3.imp id fun h=>qkK hH (hr.h _ h)
theorem qmG(h:isAl o=true):(∃t,o.op= .alloc t)/\o.guard=none:=by
 unfold isAl at h;split at h
 ·rename_i t ho;exact⟨⟨t,ho⟩,by simpa using h⟩
 ·cases h
theorem qgg{t:TypeId}{p:Nat}{K:List AV->Hp->Prop}(ho:o.op= .alloc t)(hg:o.guard=none):vop P E B all p o K fr H↔∃cs,tzc P t=some cs/\K (aput fr o.dst (.ptr (some (H.length,0)))) (H++[cs]):=by
 have hw:qbb all fr o=some true:=by unfold qbb;rw[hg]
 have hc:acall fr o=none:=by unfold acall;rw[ho]
 have hL:LP p E.S fr o:=by
  unfold LP;split
  ·exact⟨by unfold LA;rw[ho];trivial,by unfold SA;rw[ho];trivial⟩
  ·trivial
 have ha:aop P B fr H o=(tzc P t).map fun l=>(.ptr (some (H.length,0)),fr,H++[l]):=by unfold aop;rw[ho]
 unfold vop;rw[hw,qgR,hc,qdz,ha];cases hz:tzc P t with
 |none=>exact⟨fun h=>h.2.elim,fun⟨cs,h,_⟩=>by cases h⟩
 |some cs=>exact⟨fun h=>⟨cs,rfl,h.2⟩,fun⟨cs',h,hk⟩=>by cases h;exact⟨hL,hk⟩⟩
theorem qnJ(hk:kCl o=true):aop P B fr H o=none:=by
 unfold kCl at hk;split at hk
 ·rename_i c ho;split at hk
  ·rename_i z hz;unfold aop;rw[ho];simp only[hz]
  ·cases hk
 ·cases hk
theorem qo4{j:Nat}{oj:Oper}{m:List Nat}{t:TypeId}(hj:all[j]? =some oj)(ho:oj.op= .alloc t)(hg:oj.guard=none):∀(l:List Nat) {fr:List AV} {H:Hp} {a:Act} {w:World},
  (∀i∈l,∃oi,all[i]? =some oi)->St ds E W F Rd0 β0 n fr H a w->atl P E B all pf K (l++j::m) fr H->∃cs,tzc P t=some cs:=by
 intro l
 induction l with
 |nil=>
  intro fr H a w _ hs h;rw[List.nil_append,qa1 hj,qgg ho hg]at h;obtain⟨cs,h,_⟩:=h;exact⟨cs,h⟩
 |cons i l ih=>
  intro fr H a w hl hs h;obtain⟨oi,hi⟩:=hl i (List.mem_cons_self ..);rw[List.cons_append,qa1 hi]at h;have:=qcd (Q:=QF) (KC:=fun a w=>∃fr' H',St ds E W F Rd0 β0 n fr' H' a w/\atl P E B all pf K (l++j::m) fr' H') hi hs h fun fr H a w hs hk=>⟨fr,H,hs,hk⟩
  obtain⟨a',w',_,fr',H',hs',hk⟩:=qpS hi this;exact ih (fun k hk=>hl k (List.mem_cons_of_mem _ hk)) hs' hk
theorem qo5{j:Nat}{oj:Oper}{m:List Nat}{t:TypeId}{cs:List AV}(hj:all[j]? =some oj)(ho:oj.op= .alloc t)(hg:oj.guard=none)(hz:tzc P t=some cs):∀(l:List Nat) {fr:List AV} {H:Hp},
  (∀i∈l,∃oi,all[i]? =some oi/\oi.apart all oj=true/\(mvOk B all oi oj (pf.getD i 0) (pf.getD j 0)=true\/(kCl oi=true/\pf.getD i 0=4)))->
   atl P E B all pf K (l++j::m) fr H->atl P E B all pf K (l++m) (aput fr oj.dst (.ptr (some (H.length,0)))) (H++[cs]):=by
 intro l
 induction l with
 |nil=>
  intro fr H _ h;rw[List.nil_append,qa1 hj,qgg ho hg]at h;obtain⟨cs',h1,h⟩:=h;rw[hz]at h1;cases h1;exact h
 |cons i l ih=>
  intro fr H hl h;obtain⟨oi,hi,hap,hok⟩:=hl i (List.mem_cons_self ..);have ih':=fun{fr:List AV} {H:Hp}=>ih (fr:=fr) (H:=H) (fun k hk=>hl k (List.mem_cons_of_mem _ hk));have hA:Agr all oi fr (aput fr oj.dst (.ptr (some (H.length,0)))):=fun s hs=>qep fun e he het=>(Oper.apart_spec hap).2.2 e he (het▸hs);have hcm:∀(u v:AV),aput (aput fr oi.dst u) oj.dst v=aput (aput fr oj.dst v) oi.dst u:=fun u v=>qge fun s hs=>(Oper.apart_spec hap).2.1 s hs;rw[List.cons_append,qa1 hi]at h⊢;rcases hok with hok|⟨hk,h4⟩
  ·obtain⟨h1,h2,h3⟩:=qdf hok;obtain⟨v,hv,h⟩:=qfj h2 h;have h:=ih' h;rw[hcm]at h;exact qjF h2 (hv.later h2 hA (.inr (preH.D ⟨[cs],rfl⟩))) h
  ·rw[h4]at h⊢;unfold vop at h⊢;rw[hA.wanted,hA.call,qnJ hk];rw[qnJ hk]at h;unfold qdA at h⊢;split at h
   ·unfold qdP at h⊢;split at h
    ·rename_i f ax hc;intro J;have h:=h ([cs]++J);rw[<-List.append_assoc]at h;refine h.mono fun v H' hq=>⟨hq.1,?_⟩
     have:=ih' hq.2;rw[hcm]at this;exact this
    ·exact h.2.elim
   ·have:=ih' h;rw[hcm]at this;exact this
   ·exact h.elim
theorem qfS{j:Nat}{oj:Oper}{l m:List Nat}{a:Act}(hj:all[j]? =some oj)(hl:∀i∈l,∃oi,all[i]? =some oi/\okP B all oi oj (pf.getD i 0) (pf.getD j 0)=true)(hs:St ds E W F Rd0 β0 n fr H a w)
  (h:atl P E B all pf K (l++j::m) fr H):vop P E B all (pf.getD j 0) oj (atl P E B all pf K (l++m)) fr H:=by
 by_cases hm:mvB B oj=true
 ·have hl':∀i∈l,∃oi,all[i]? =some oi/\oi.apart all oj=true/\mvOk B all oj oi (pf.getD j 0) (pf.getD i 0)=true:=fun i hi=>by
   obtain⟨oi,h1,h2⟩:=hl i hi;unfold okP at h2;rw[Bool.and_eq_true,if_pos hm]at h2;exact⟨oi,h1,h2⟩
  have hb:∀y,Bnd H.length (aeval fr y):=fun y=>by
   obtain⟨_,_,β,Rd,Ow,hS,_⟩:=hs;exact(hS.eval rfl y).2.1
  obtain⟨v,hv⟩:=qk1 hj hm hb l hl' Agr.refl (.inr (qaT H)) hs h;exact qjF hm hv (qk2 hj hm l hl' hv h)
 ·have hl2:∀i∈l,∃oi,all[i]? =some oi/\oi.apart all oj=true/\(mvOk B all oi oj (pf.getD i 0) (pf.getD j 0)=true\/(isAl oj=true/\kCl oi=true/\pf.getD i 0=4)):=fun i hi=>by
   obtain⟨oi,h1,h2⟩:=hl i hi;unfold okP at h2;rw[Bool.and_eq_true,if_neg hm,Bool.or_eq_true,Bool.and_eq_true,Bool.and_eq_true,beq_iff_eq]at h2;exact⟨oi,h1,h2.1,h2.2⟩
  by_cases hal:isAl oj=true
  ·obtain⟨⟨t,ho⟩,hg⟩:=qmG hal;obtain⟨cs,hz⟩:=qo4 hj ho hg l (fun i hi=>by obtain⟨oi,h1,_⟩:=hl2 i hi;exact⟨oi,h1⟩) hs h
   exact(qgg ho hg).2 ⟨cs,hz,qo5 hj ho hg hz l (fun i hi=>by
    obtain⟨oi,h1,h2,h3⟩:=hl2 i hi
    exact⟨oi,h1,h2,h3.imp _root_.id fun h=>h.2⟩) h⟩
  ·refine qmO hj l (fun i hi=>?_) h;obtain⟨oi,h1,h2,h3⟩:=hl2 i hi;exact⟨oi,h1,h2,h3.resolve_right fun h=>hal h.1⟩
theorem qlZ(h:regA B pf all=true):qiy all=true/\qf7 (Region.before all).toList all=true/\∀(i j:Nat) (oi oj:Oper),i<j->all[i]? =some oi->all[j]? =some oj->((Region.before all).toList.getD j 0).testBit i=false->okP B all oi oj (pf.getD i 0) (pf.getD j 0)=true:=by
 unfold regA at h;simp only[Bool.and_eq_true,List.all_eq_true,List.mem_range]at h;obtain⟨⟨h1,h2⟩,h3⟩:=h;refine⟨h1,h2,fun i j oi oj hij hi hj hb=>?_⟩;have:=h3 j (Array.getElem?_eq_some_iff.1 hj).1;rw[hj]at this;simp only[List.all_eq_true,List.mem_range]at this;have:=this i hij;rw[hb,hi]at this;simpa using this
theorem qlj {Q : Exit → Act → World → Prop} (hB : regA B pf all = true) (hK : ∀ fr H a w, St ds E W F Rd0 β0 n fr H a w → K fr H → Q .normal a w) :
    ∀ (fuel : Nat) (listed : Array Bool) (fr : List AV) (H : Hp) (a : Act) (w : World), listed.size = all.size → qiF all listed → (qaA all.size listed).length = fuel → St ds E W F Rd0 β0 n fr H a w →
      atl P E B all pf K (qaA all.size listed) fr H → wpAny P .any all Q fuel listed a w := by
  obtain ⟨hb, hc, hsw⟩ := qlZ hB
  intro fuel
  induction fuel with
  | zero =>
    intro listed fr H a w hs hcl hf hst h
    have h0 := List.eq_nil_of_length_eq_zero hf
    rw [h0] at h
    refine ⟨?_, hK _ _ _ _ hst h⟩
    rcases hr : Region.ready .any all listed with _ | ⟨x, r⟩
    · rfl
    · exfalso
      have hx : x ∈ Region.ready .any all listed := by rw [hr]; exact List.mem_cons_self ..
      rw [mem_ready] at hx
      obtain ⟨h1, o, ho, _⟩ := hx
      have : x ∈ qaA all.size listed := qaV.2 ⟨(Array.getElem?_eq_some_iff.1 ho).1, h1⟩
      rw [h0] at this
      cases this
  | succ fuel ih =>
    intro listed fr H a w hs hcl hf hst h
    have getf : ∀ j, j < all.size → listed.getD j false = listed.getD j true := fun j hj => by
      simp [Array.getD, hs, hj]
    refine ⟨fun hr => ?_, fun j hj => ?_⟩
    · exfalso
      rcases hl : qaA all.size listed with _ | ⟨x, r⟩
      · rw [hl] at hf; cases hf
      · have hx : x ∈ qaA all.size listed := by rw [hl]; exact List.mem_cons_self ..
        obtain ⟨h1, h2⟩ := qaV.1 hx
        have : x ∈ Region.ready .any all listed := by
          rw [mem_ready]
          refine ⟨h2, _, zqM h1, fun e he hbe => ?_⟩
          have hex := qeo hb (zqM h1) he hbe
          cases hle : listed.getD e.on false
          · exfalso
            have hle' : listed.getD e.on true = false := by rw [← getf _ (by omega)]; exact hle
            have hm : e.on ∈ qaA all.size listed := qaV.2 ⟨by omega, hle'⟩
            have hsorted : (qaA all.size listed).Pairwise (· < ·) := List.Pairwise.sublist List.filter_sublist List.pairwise_lt_range
            rw [hl] at hm hsorted
            rcases List.mem_cons.1 hm with h' | h'
            · omega
            · have := (List.pairwise_cons.1 hsorted).1 _ h'
              omega
          · rfl
        rw [hr] at this
        cases this
    · have hj' := hj
      rw [mem_ready] at hj'
      obtain ⟨h1, o, ho, hall⟩ := hj'
      have hlt : j < all.size := (Array.getElem?_eq_some_iff.1 ho).1
      obtain ⟨l, m, e1, e2, e3⟩ := qiY (p := fun i => !listed.getD i true) hlt (by simp only [h1]; rfl)
      have e1' : qaA all.size listed = l ++ j :: m := e1
      rw [e1'] at h
      have hset : qaA all.size (listed.setIfInBounds j true) = l ++ m := by
        rw [← e3]
        unfold qaA
        apply List.filter_congr
        intro x hx
        by_cases hxj : x = j
        · subst hxj
          simp [Array.getD, hs, hlt]
        · rw [getD_set_ne true (Ne.symm hxj)]
          simp [hxj]
      have h2 := qfS ho (fun i hi => by
        obtain ⟨hij, hil⟩ := e2 i hi
        have hio : all[i]? = some all[i] := zqM (by omega)
        refine ⟨_, hio, hsw i j _ o hij hio ho ?_⟩
        cases hbit : ((Region.before all).toList.getD j 0).testBit i
        · rfl
        · exfalso
          have := qcW hb hc hcl j o ho hall i hij hbit
          rw [getf i (by omega)] at this
          rw [this] at hil
          exact absurd hil (by simp)) hst h
      refine qcd ho hst h2 fun fr' H' a' w' hst' h' => ?_
      refine ih _ fr' H' a' w' (by simpa using hs) ?_ ?_ hst' (by rw [hset]; exact h')
      · intro k ok hok hk e he hbe
        by_cases hkj : k = j
        · subst hkj
          obtain rfl : ok = o := by rw [ho] at hok; simpa using hok.symm
          exact getD_set_true (hall e he hbe)
        · rw [getD_set_ne false (Ne.symm hkj)] at hk
          exact getD_set_true (hcl k ok hok hk e he hbe)
      · rw [hset]
        rw [e1'] at hf
        simp only [zqK, zqL] at hf ⊢
        omega
theorem qjs:∀(c:List Oper) (k:Nat) (pu:List Nat) {fr:List AV} {H:Hp},(∀p∈pu,p≠3)->(∀j,j<c.length->all[k+j]? =c[j]?)->(∀j,pu.getD j 0=pf.getD (k+j) 0)->vcl P E B all K pu c fr H->atl P E B all pf K (List.range' k c.length) fr H
 |[],k,pu,fr,H,_,_,_,h=>by rw[vcl]at h;exact h
 |o::c,k,pu,fr,H,h3,hk,hp,h=>by
  have h0:all[k]? =some o:=hk 0 (by simp);rw[zqL,List.range'_succ,qa1 h0];rw[vcl]at h
  rw[if_neg (by
   cases pu with
   |nil=>simp
   |cons q pu=>exact h3 q (by simp))]at h
  have:pu.headD 0=pf.getD k 0:=by
   have:=hp 0;cases pu<;>simpa using this
  rw[<-this];refine qdn h fun fr' H' _ h'=>qjs c (k+1) pu.tail (fun p hp=>h3 p (List.mem_of_mem_tail hp)) (fun j hj=>?_) (fun j=>?_) h'
  ·have:=hk (j+1) (by simp;omega);rw[Nat.add_assoc,Nat.add_comm 1 j];simpa using this
  ·have:=hp (j+1);rw[Nat.add_assoc,Nat.add_comm 1 j,<-this];cases pu<;>simp
theorem St.drew'{a:Act}(h:St ds E W F Rd0 β0 n fr H a w):St ds E W F Rd0 β0 n fr H a w.drew:=by
 obtain⟨h1,h2,β,Rd,Ow,hS,hβ⟩:=h;exact⟨h1,h2,β,Rd,Ow,hS.drew,hβ⟩
theorem qkF{id:Nat}{Q:Exit->Act->World->Prop}{a:Act}(hm:P.follows .mixedOrders=true)(hB:regA B pf all=true)(h3:∀p∈pf,p≠3)(hs:St ds E W F Rd0 β0 n fr H a w)(h:vcl P E B all K pf all.toList fr H)
  (hK:∀fr H a w,St ds E W F Rd0 β0 n fr H a w->K fr H->Q .normal a w):(Code.region id all true).wp P Q a w:=by
 refine wp_region_any hm ?_;have hrep:∀i,i<all.size->(Array.replicate all.size false).getD i true=false:=fun i hi=>by simp[Array.getD,hi]
 have hto:qaA all.size (Array.replicate all.size false)=List.range' 0 all.size:=by
  unfold qaA;rw[List.filter_eq_self.2 (fun i hi=>by rw[hrep i (by simpa using hi)];rfl),List.range_eq_range']
 refine qlj hB hK _ _ fr H a _ (by simp) ?_ ?_ hs.drew' ?_
 ·intro j o _ hl;exfalso
  have:(Array.replicate all.size false).getD j false=false:=by
   simp only[Array.getD];split<;>simp
  rw[this]at hl;cases hl
 ·rw[hto];simp
 ·rw[hto];have:=qjs (all:=all) (pf:=pf) all.toList 0 pf h3 (fun j hj=>by simp) (fun j=>by simp) h;simpa using this
end
def noCl(o:Oper):Bool:=match o.op with
 | .call _=>false
 |_=>true
def swP(n i k:Nat):List Nat:=List.range i++k::(List.range' i (k-i)++List.range' (k+1) (n-k-1))
def twoP(i k:Nat)(B:List Tmp)(pf:List Nat)(ops:Array Oper):Bool:=
 let M:=(Region.before ops).toList
 qiy ops&&qf7 M ops&&decide (i<k)&&decide (k<ops.size)&&((List.range ops.size).all fun j=>j==i||match ops[j]? with
  |some o=>noCl o
  |none=>true)&&((List.range ops.size).all fun j=>!(decide (i<j)&&decide (j<k))||(M.getD j 0).testBit i)&&
 ((List.range ops.size).all fun j=>match ops[j]? with
  |some oj=>((List.range j).all fun x=>(M.getD j 0).testBit x||(x==i&&j==k)||match ops[x]? with
   |some ox=>okP B ops ox oj (pf.getD x 0) (pf.getD j 0)
   |none=>false)
  |none=>false)
theorem qlR{σ:List Nat}(hn:σ.Nodup){k:Nat}(hk:k∈σ){p:Nat->Bool}(hp:p k=true):∃a b,σ=a++k::b/\σ.filter p=a.filter p++k::b.filter p/\σ.filter (fun i=>p i&&decide (i≠k))=a.filter p++b.filter p:=by
 obtain⟨a,b,rfl⟩:=List.append_of_mem hk;rw[List.nodup_append]at hn;obtain⟨_,h2,h3⟩:=hn;rw[List.nodup_cons]at h2;refine⟨a,b,rfl,?_,?_⟩
 ·rw[List.filter_append,List.filter_cons_of_pos hp]
 ·rw[List.filter_append,List.filter_cons_of_neg (by simp)];congr 1
  ·refine List.filter_congr fun x hx=>?_;have:x≠k:=fun e=>h3 x hx k (by simp) e;simp[this]
  ·refine List.filter_congr fun x hx=>?_;have:x≠k:=fun e=>h2.1 (e▸hx);simp[this]
theorem qkI{n i k:Nat}(h1:i<k)(h2:k<n):List.range n=List.range i++(List.range' i (k-i)++k::List.range' (k+1) (n-k-1)):=by
 obtain⟨d,rfl⟩:∃d,k=i+d:=⟨k-i,by omega⟩
 obtain⟨e,rfl⟩:∃e,n=i+d+(e+1):=⟨n-(i+d)-1,by omega⟩
 rw[show i+d-i=d by omega,show i+d+(e+1)-(i+d)-1=e by omega];rw[List.range_add,List.range_add,List.append_assoc];congr 1;have e1:List.map (fun x=>i+x) (List.range d)=List.range' i d:=by rw[List.range_eq_range',List.map_add_range',Nat.add_zero]
 have e2:List.map (fun x=>i+d+x) (List.range (e+1))=(i+d)::List.range' (i+d+1) e:=by
  rw[List.range_eq_range',List.map_add_range',Nat.add_zero,List.range'_succ]
 rw[e1,e2]
theorem qjH {n i k : Nat} (h1 : i < k) : (swP n i k).Pairwise fun x y => (x < y ∧ ¬ (x = i ∧ y = k)) ∨ (x = k ∧ i ≤ y ∧ y < k) := by
  unfold swP
  rw [List.pairwise_append]
  refine ⟨List.pairwise_lt_range.imp_of_mem fun {x y} hx hy h => ?_, ?_, ?_⟩
  · rw [List.mem_range] at hx hy
    exact .inl ⟨h, by omega⟩
  · rw [List.pairwise_cons, List.pairwise_append]
    refine ⟨fun y hy => ?_, ?_, ?_, ?_⟩
    · rcases List.mem_append.1 hy with hy | hy
      · rw [List.mem_range'_1] at hy; exact .inr ⟨rfl, by omega, by omega⟩
      · rw [List.mem_range'_1] at hy; exact .inl ⟨by omega, by omega⟩
    · refine List.Pairwise.imp_of_mem (R := (· < ·)) (fun {x y} hx hy h => ?_) (by exact List.pairwise_lt_range')
      rw [List.mem_range'_1] at hx hy
      exact .inl ⟨h, by omega⟩
    · refine List.Pairwise.imp_of_mem (R := (· < ·)) (fun {x y} hx hy h => ?_) (by exact List.pairwise_lt_range')
      rw [List.mem_range'_1] at hx hy
      exact .inl ⟨h, by omega⟩
    · intro x hx y hy
      rw [List.mem_range'_1] at hx hy
      exact .inl ⟨by omega, by omega⟩
  · intro x hx y hy
    rw [List.mem_range] at hx
    rcases List.mem_cons.1 hy with rfl | hy
    · exact .inl ⟨by omega, by omega⟩
    rcases List.mem_append.1 hy with hy | hy
    · rw [List.mem_range'_1] at hy; exact .inl ⟨by omega, by omega⟩
    · rw [List.mem_range'_1] at hy; exact .inl ⟨by omega, by omega⟩
theorem qhK{n i k:Nat}(h1:i<k):(swP n i k).Nodup:=(qjH h1).imp fun{x y} h=>by omega
theorem qiN{n i k j:Nat}(h1:i<k)(h2:k<n):j∈swP n i k↔j<n:=by
 unfold swP;rw[List.mem_append,List.mem_cons,List.mem_append,List.mem_range,List.mem_range'_1,List.mem_range'_1];omega
theorem qon{n i k:Nat}(h1:i<k)(h2:k<n)(p:Nat->Bool)(hp:p k=false):(swP n i k).filter p=(List.range n).filter p:=by
 rw[qkI h1 h2];unfold swP;rw[List.filter_append,List.filter_append,List.filter_cons_of_neg (by simp[hp]),List.filter_append,List.filter_append,List.filter_cons_of_neg (by simp[hp])]
section
variable {P:Program}{B:List Tmp}{o:Oper}{all:Array Oper}{fr:List AV}{H:Hp}{E:Env}{W:World}{F:Nat->Prop}{Rd0:Nat->Nat->Prop}{w:World}{β0:Nat->Nat}{n:Nat}{pf:List Nat}{K:List AV->Hp->Prop}{ds:List Deferred}
theorem qn9{p:Nat}{K1 K2:List AV->Hp->Prop}(hn:noCl o=true)(h1:vop P E B all p o K1 fr H)(h2:vop P E B all p o K2 fr H):vop P E B all p o (fun fr H=>K1 fr H/\K2 fr H) fr H:=by
 have hc:acall fr o=none:=by
  unfold acall;unfold noCl at hn;split at hn
  ·cases hn
  ·split
   ·rename_i h1 _ c h2;exact absurd h2 (h1 c)
   ·rfl
 have e:∀K,vop P E B all p o K fr H=qdA (qbb all fr o) (LP p E.S fr o/\qgl (aop P B fr H o) fun v fr' H'=>K (aput fr' o.dst v) H') (K (aput fr o.dst (.raw undef)) H):=fun K=>by
  unfold vop;rw[hc,qdz]
 rw[e]at h1 h2⊢;cases hw:qbb all fr o with
 |none=>rw[hw]at h1;exact h1.elim
 |some b=>
  rw[hw]at h1 h2;cases b with
  |false=>exact⟨h1,h2⟩
  |true=>
   obtain⟨g1,g2⟩:=h1;obtain⟨_,g3⟩:=h2;refine⟨g1,?_⟩;cases ha:aop P B fr H o with
   |none=>rw[ha]at g2;exact g2.elim
   |some x=>
    rw[ha]at g2 g3;obtain⟨v,fr',H'⟩:=x;exact⟨g2,g3⟩
theorem qfo{i k:Nat}(h:twoP i k B pf all=true):qiy all=true/\qf7 (Region.before all).toList all=true/\(i<k/\k<all.size)/\(∀(j:Nat) (o:Oper),j≠i->all[j]? =some o->noCl o=true)/\(∀j,i<j->j<k->((Region.before all).toList.getD j 0).testBit i=true)/\
  ∀(x j:Nat) (ox oj:Oper),x<j->all[x]? =some ox->all[j]? =some oj->((Region.before all).toList.getD j 0).testBit x=false->¬(x=i/\j=k)->okP B all ox oj (pf.getD x 0) (pf.getD j 0)=true:=by
 unfold twoP at h;simp only[Bool.and_eq_true,List.all_eq_true,List.mem_range,decide_eq_true_eq]at h;obtain⟨⟨⟨⟨⟨⟨h1,h2⟩,h3⟩,h3'⟩,h4⟩,h4'⟩,h5⟩:=h;refine⟨h1,h2,⟨h3,h3'⟩,fun j o hne ho=>?_,fun j hj1 hj2=>?_,fun x j ox oj hxj hx hj hb hne=>?_⟩
 ·have:=h4 j (Array.getElem?_eq_some_iff.1 ho).1;rw[ho]at this;simp only[Bool.or_eq_true,beq_iff_eq]at this;exact this.resolve_left hne
 ·have:=h4' j (by omega);simp only[Bool.or_eq_true,Bool.not_eq_true',Bool.and_eq_false_imp,decide_eq_true_eq,decide_eq_false_iff_not]at this;rcases this with a|a
  ·exact absurd hj2 (a hj1)
  ·exact a
 ·have:=h5 j (Array.getElem?_eq_some_iff.1 hj).1;rw[hj]at this;simp only[List.all_eq_true,List.mem_range]at this;have:=this x hxj;rw[hb,hx]at this;simp only[Bool.false_or,Bool.or_eq_true,Bool.and_eq_true,beq_iff_eq]at this;exact this.resolve_left hne
theorem qoh {i kk : Nat} {Q : Exit → Act → World → Prop} (hB : twoP i kk B pf all = true) (hK : ∀ fr H a w, St ds E W F Rd0 β0 n fr H a w → K fr H → Q .normal a w) :
    ∀ (fuel : Nat) (listed : Array Bool) (fr : List AV) (H : Hp) (a : Act) (w : World), listed.size = all.size → qiF all listed → (qaA all.size listed).length = fuel → St ds E W F Rd0 β0 n fr H a w →
      atl P E B all pf K (qaA all.size listed) fr H → (listed.getD i true = false → listed.getD kk true = false → atl P E B all pf K ((swP all.size i kk).filter fun x => !listed.getD x true) fr H) → wpAny P .any all Q fuel listed a w := by
  obtain ⟨hb, hc, ⟨hik, hi1⟩, hnc, hbt, hsw⟩ := qfo hB
  intro fuel
  induction fuel with
  | zero =>
    intro listed fr H a w hs hcl hf hst h _
    have h0 := List.eq_nil_of_length_eq_zero hf
    rw [h0] at h
    refine ⟨?_, hK _ _ _ _ hst h⟩
    rcases hr : Region.ready .any all listed with _ | ⟨x, r⟩
    · rfl
    · exfalso
      have hx : x ∈ Region.ready .any all listed := by rw [hr]; exact List.mem_cons_self ..
      rw [mem_ready] at hx
      obtain ⟨h1, o, ho, _⟩ := hx
      have : x ∈ qaA all.size listed := qaV.2 ⟨(Array.getElem?_eq_some_iff.1 ho).1, h1⟩
      rw [h0] at this
      cases this
  | succ fuel ih =>
    intro listed fr H a w hs hcl hf hst h h'
    have getf : ∀ j, j < all.size → listed.getD j false = listed.getD j true := fun j hj => by
      simp [Array.getD, hs, hj]
    refine ⟨fun hr => ?_, fun j hj => ?_⟩
    · exfalso
      rcases hl : qaA all.size listed with _ | ⟨x, r⟩
      · rw [hl] at hf; cases hf
      · have hx : x ∈ qaA all.size listed := by rw [hl]; exact List.mem_cons_self ..
        obtain ⟨h1, h2⟩ := qaV.1 hx
        have : x ∈ Region.ready .any all listed := by
          rw [mem_ready]
          refine ⟨h2, _, zqM h1, fun e he hbe => ?_⟩
          have hex := qeo hb (zqM h1) he hbe
          cases hle : listed.getD e.on false
          · exfalso
            have hle' : listed.getD e.on true = false := by rw [← getf _ (by omega)]; exact hle
            have hm : e.on ∈ qaA all.size listed := qaV.2 ⟨by omega, hle'⟩
            have hsorted : (qaA all.size listed).Pairwise (· < ·) := List.Pairwise.sublist List.filter_sublist List.pairwise_lt_range
            rw [hl] at hm hsorted
            rcases List.mem_cons.1 hm with h' | h'
            · omega
            · have := (List.pairwise_cons.1 hsorted).1 _ h'
              omega
          · rfl
        rw [hr] at this
        cases this
    · have hj' := hj
      rw [mem_ready] at hj'
      obtain ⟨h1, o, ho, hall⟩ := hj'
      have hlt : j < all.size := (Array.getElem?_eq_some_iff.1 ho).1
      have hpj : (!listed.getD j true) = true := by rw [h1]; rfl
      have hset : ∀ σ : List Nat, (∀ x ∈ σ, x < all.size) → (σ.filter fun x => !(listed.setIfInBounds j true).getD x true) = σ.filter fun x => (!listed.getD x true) && decide (x ≠ j) := fun σ hσ => by
        apply List.filter_congr
        intro x hx
        by_cases hxj : x = j
        · subst hxj
          simp [Array.getD, hs, hlt]
        · rw [getD_set_ne true (Ne.symm hxj)]
          simp [hxj]
      have setT : ∀ x, listed.getD x true = true → (listed.setIfInBounds j true).getD x true = true := fun x hx => by
        by_cases hxj : x = j
        · subst hxj
          simp [Array.getD, hs, hlt]
        · rw [getD_set_ne true (Ne.symm hxj)]; exact hx
      have move : ∀ (σ : List Nat), σ.Nodup → (∀ x, x ∈ σ ↔ x < all.size) → (∀ a b x, σ = a ++ j :: b → x ∈ a → listed.getD x true = false → x < j ∧ ¬ (x = i ∧ j = kk)) → atl P E B all pf K (σ.filter fun x => !listed.getD x true) fr H →
          vop P E B all (pf.getD j 0) o (atl P E B all pf K (σ.filter fun x => (!listed.getD x true) && decide (x ≠ j))) fr H := fun σ hn hmem hlo h => by
        obtain ⟨l, m, e0, e1, e2⟩ := qlR hn ((hmem j).2 hlt) (p := fun x => !listed.getD x true) hpj
        rw [e1] at h
        rw [e2]
        refine qfS ho (fun x hx => ?_) hst h
        obtain ⟨hx1, hx2⟩ := List.mem_filter.1 hx
        have hxl : listed.getD x true = false := by simpa using hx2
        obtain ⟨hxj, hne⟩ := hlo l m x e0 hx1 hxl
        have hxo : all[x]? = some all[x] := zqM (by omega)
        refine ⟨_, hxo, hsw x j _ o hxj hxo ho ?_ hne⟩
        cases hbit : ((Region.before all).toList.getD j 0).testBit x
        · rfl
        · exfalso
          have := qcW hb hc hcl j o ho hall x hxj hbit
          rw [getf x (by omega), hxl] at this
          cases this
      have hmem0 : ∀ x, x ∈ List.range all.size ↔ x < all.size := fun x => List.mem_range
      have hmem1 : ∀ x, x ∈ swP all.size i kk ↔ x < all.size := fun x => qiN hik hi1
      have ord0 : ∀ a b x, List.range all.size = a ++ j :: b → x ∈ a → x < j := fun a b x e hx => by
        have hp : (List.range all.size).Pairwise (· < ·) := List.pairwise_lt_range
        rw [e, List.pairwise_append] at hp
        exact hp.2.2 x hx j (by simp)
      have ord1 : ∀ a b x, swP all.size i kk = a ++ j :: b → x ∈ a → (x < j ∧ ¬ (x = i ∧ j = kk)) ∨ (x = kk ∧ i ≤ j ∧ j < kk) := fun a b x e hx => by
        have hp := qjH (n := all.size) hik
        rw [e, List.pairwise_append] at hp
        exact hp.2.2 x hx j (by simp)
      have next : ∀ {fr' H' a' w'}, St ds E W F Rd0 β0 n fr' H' a' w' → atl P E B all pf K (qaA all.size (listed.setIfInBounds j true)) fr' H' →
          ((listed.setIfInBounds j true).getD i true = false → (listed.setIfInBounds j true).getD kk true = false → atl P E B all pf K ((swP all.size i kk).filter fun x => !(listed.setIfInBounds j true).getD x true) fr' H') → wpAny P .any all Q fuel (listed.setIfInBounds j true) a' w' := fun {fr' H' a' w'} hst' k0 k1 => by
        refine ih _ fr' H' a' w' (by simpa using hs) ?_ ?_ hst' k0 k1
        · intro k ok hok hk e he hbe
          by_cases hkj : k = j
          · subst hkj
            obtain rfl : ok = o := by rw [ho] at hok; simpa using hok.symm
            exact getD_set_true (hall e he hbe)
          · rw [getD_set_ne false (Ne.symm hkj)] at hk
            exact getD_set_true (hcl k ok hok hk e he hbe)
        · obtain ⟨l, m, e0, e1, e2⟩ := qlR List.nodup_range ((hmem0 j).2 hlt) (p := fun x => !listed.getD x true) hpj
          have e3 : qaA all.size (listed.setIfInBounds j true) = l.filter (fun x => !listed.getD x true) ++ m.filter (fun x => !listed.getD x true) := (hset _ fun x hx => (hmem0 x).1 hx).trans e2
          have e4 : qaA all.size listed = l.filter (fun x => !listed.getD x true) ++ j :: m.filter (fun x => !listed.getD x true) := e1
          rw [e4] at hf
          rw [e3]
          simp only [zqK, zqL] at hf ⊢
          omega
      have hset0 := hset (List.range all.size) fun x hx => (hmem0 x).1 hx
      have hset1 := hset (swP all.size i kk) fun x hx => (hmem1 x).1 hx
      by_cases hsp : j = kk ∧ listed.getD i true = false
      · obtain ⟨hji, hil⟩ := hsp
        have h2 := move (swP all.size i kk) (qhK hik) hmem1 (fun a b x e hx _ => (ord1 a b x e hx).resolve_right (by omega)) (h' hil (hji ▸ h1))
        refine qcd ho hst h2 fun fr' H' a' w' hst' k => next hst' ?_ (fun _ hk => ?_)
        · show atl P E B all pf K ((List.range all.size).filter fun x => !(listed.setIfInBounds j true).getD x true) fr' H'
          rw [hset0]
          rw [qon hik hi1 _ (by simp [hji])] at k
          exact k
        · exfalso
          rw [← hji] at hk
          simp [Array.getD, hs, hlt] at hk
      · have h2 := move (List.range all.size) List.nodup_range hmem0 (fun a b x e hx hxl => ⟨ord0 a b x e hx, fun hh => hsp ⟨hh.2, hh.1 ▸ hxl⟩⟩) h
        by_cases hij : j = i ∨ listed.getD i true = true ∨ listed.getD kk true = true
        · refine qcd ho hst h2 fun fr' H' a' w' hst' k => next hst' (by
            show atl P E B all pf K ((List.range all.size).filter fun x => !(listed.setIfInBounds j true).getD x true) fr' H'
            rw [hset0]; exact k) (fun hk1 hk2 => ?_)
          exfalso
          rcases hij with hij | hij | hij
          · rw [← hij] at hk1
            simp [Array.getD, hs, hlt] at hk1
          · rw [setT _ hij] at hk1; cases hk1
          · rw [setT _ hij] at hk2; cases hk2
        · have g1 : j ≠ i := fun e => hij (.inl e)
          have g2 : listed.getD i true = false := by cases hh : listed.getD i true with
            | true => exact absurd (.inr (.inl hh)) hij
            | false => rfl
          have g3 : listed.getD kk true = false := by cases hh : listed.getD kk true with
            | true => exact absurd (.inr (.inr hh)) hij
            | false => rfl
          have hnot : ¬ (i < j ∧ j < kk) := fun hh => by
            have := qcW hb hc hcl j o ho hall i hh.1 (hbt j hh.1 hh.2)
            rw [getf i (by omega), g2] at this
            cases this
          have h3 := move (swP all.size i kk) (qhK hik) hmem1 (fun a b x e hx _ => (ord1 a b x e hx).resolve_right (by omega)) (h' g2 g3)
          refine qcd ho hst (qn9 (hnc j o g1 ho) h2 h3) fun fr' H' a' w' hst' k => next hst' (by
            show atl P E B all pf K ((List.range all.size).filter fun x => !(listed.setIfInBounds j true).getD x true) fr' H'
            rw [hset0]; exact k.1) (fun _ _ => by rw [hset1]; exact k.2)
theorem qiU{i kk id:Nat}{Q:Exit->Act->World->Prop}{a:Act}(hm:P.follows .mixedOrders=true)(hB:twoP i kk B pf all=true)(hs:St ds E W F Rd0 β0 n fr H a w)(h0:atl P E B all pf K (List.range all.size) fr H)(h1:atl P E B all pf K (swP all.size i kk) fr H)
  (hK:∀fr H a w,St ds E W F Rd0 β0 n fr H a w->K fr H->Q .normal a w):(Code.region id all true).wp P Q a w:=by
 refine wp_region_any hm ?_;have hrep:∀i,i<all.size->(Array.replicate all.size false).getD i true=false:=fun i hi=>by simp[Array.getD,hi]
 have hto:qaA all.size (Array.replicate all.size false)=List.range all.size:=by
  unfold qaA;rw[List.filter_eq_self.2 (fun i hi=>by rw[hrep i (by simpa using hi)];rfl)]
 obtain⟨_,_,⟨hik,hi1⟩,_,_,_⟩:=qfo hB
 have hto1:((swP all.size i kk).filter fun x=>!(Array.replicate all.size false).getD x true)=swP all.size i kk:=
  List.filter_eq_self.2 (fun x hx=>by rw[hrep x ((qiN hik hi1).1 hx)];rfl)
 refine qoh hB hK _ _ fr H a _ (by simp) ?_ ?_ hs.drew' (by rw[hto];exact h0) (fun _ _=>by rw[hto1];exact h1)
 ·intro j o _ hl;exfalso
  have:(Array.replicate all.size false).getD j false=false:=by
   simp only[Array.getD];split<;>simp
  rw[this]at hl;cases hl
 ·rw[hto];simp
end
def opsQ(all:Array Oper):List Nat->List Oper
 |[]=>[]
 |i::l=>match all[i]? with
  |some o=>o::opsQ all l
  |none=>opsQ all l
def puQ(pf:List Nat)(l:List Nat):List Nat:=l.map fun i=>pf.getD i 0
theorem qnG{P:Program}{E:Env}{B:List Tmp}{all:Array Oper}{pf:List Nat}{K:List AV->Hp->Prop}:∀(l:List Nat) {fr:List AV} {H:Hp},(∀p∈pf,p≠3)->(∀i∈l,i<all.size)->vcl P E B all K (puQ pf l) (opsQ all l) fr H->atl P E B all pf K l fr H
 |[],fr,H,_,_,h=>h
 |i::l,fr,H,h3,hl,h=>by
  have hi:all[i]? =some all[i]! :=by
   have:=hl i (List.mem_cons_self ..);simp[this]
  unfold opsQ at h;rw[hi]at h;rw[qa1 hi]
  have hne:pf.getD i 0≠3:=by
   rw[List.getD_eq_getElem?_getD];cases hp:pf[i]? with
   |none=>simp
   |some q=>simpa using h3 q (zqH hp)
  simp only[puQ,List.map_cons]at h;rw[vcl]at h;rw[if_neg (by simpa using hne)]at h;exact qdn h fun fr' H' _ h'=>qnG l h3 (fun j hj=>hl j (List.mem_cons_of_mem _ hj)) h'
def qlP(m:Nat)(B:List Tmp)(pf:List Nat)(ops:Array Oper):Bool:=
 let M:=(Region.before ops).toList
 qiy ops&&qf7 M ops&&decide (m<=ops.size)&&((pf.take m).all fun p=>p !=3)&&
 ((List.range ops.size).all fun j=>match ops[j]? with
  |some oj=>((List.range j).all fun x=>(M.getD j 0).testBit x||match ops[x]? with
   |some ox=>(decide (j<m)&&okP B ops ox oj (pf.getD x 0) (pf.getD j 0))||(decide (x<m)&&decide (m<=j)&&pf.getD j 0==3&&qbT oj&&ox.apart ops oj&&mvOk B ops ox oj (pf.getD x 0) 2&&(match ox.dst with|some d=>decide (8<=d)|none=>true))
   |none=>false)
  |none=>false)
section
variable {P:Program}{B:List Tmp}{o:Oper}{all:Array Oper}{fr:List AV}{H:Hp}{E:Env}{W:World}{F:Nat->Prop}{Rd0:Nat->Nat->Prop}{w:World}{β0:Nat->Nat}{n:Nat}{pf:List Nat}{K:List AV->Hp->Prop}{ds:List Deferred}
theorem qgq{m:Nat}(h:qlP m B pf all=true):qiy all=true/\qf7 (Region.before all).toList all=true/\m<=all.size/\(∀p∈pf.take m,p≠3)/\
  ∀(x j:Nat) (ox oj:Oper),x<j->all[x]? =some ox->all[j]? =some oj->((Region.before all).toList.getD j 0).testBit x=false->(j<m/\okP B all ox oj (pf.getD x 0) (pf.getD j 0)=true)\/(x<m/\m<=j/\pf.getD j 0=3/\qbT oj=true/\ox.apart all oj=true/\mvOk B all ox oj (pf.getD x 0) 2=true/\∀d,ox.dst=some d->8<=d):=by
 unfold qlP at h;simp only[Bool.and_eq_true,List.all_eq_true,List.mem_range,decide_eq_true_eq]at h;obtain⟨⟨⟨⟨h1,h2⟩,h3⟩,h4⟩,h5⟩:=h;refine⟨h1,h2,h3,fun p hp=>by simpa using h4 p hp,fun x j ox oj hxj hx hj hb=>?_⟩;have:=h5 j (Array.getElem?_eq_some_iff.1 hj).1;rw[hj]at this;simp only[List.all_eq_true,List.mem_range]at this;have:=this x hxj;rw[hb,hx]at this;simp only[Bool.false_or,Bool.or_eq_true,Bool.and_eq_true,decide_eq_true_eq,beq_iff_eq]at this;rcases this with q|⟨⟨⟨⟨⟨⟨q1,q2⟩,q3⟩,q4⟩,q5⟩,q6⟩,q7⟩
 ·exact .inl q
 ·exact .inr ⟨q1,q2,q3,q4,q5,q6,fun d hd=>by rw[hd]at q7;simpa using q7⟩
theorem qhy(h:qbT o=true):abx P fr H o=none:=by
 unfold qbT at h;split at h
 ·rename_i c ho;split at h
  ·rename_i y hc;unfold abx;rw[ho];simp only[hc]
  ·cases h
 ·cases h
theorem qqc{T T':List AV->Hp->Prop}(ha:qbT o=true)(h:vx P E all o T fr H)(hk:∀v H',(KP 2 E.S H H'\/H'=H)->T (aput fr o.dst v) H'->T' (aput fr o.dst v) H'):vx P E all o T' fr H:=by
 unfold vx qdA at*;split at h
 ·unfold qdP at*;split at h
  ·exact h.mono (fun v H' k=>⟨k.1,hk v H' (.inl k.1) k.2⟩) (fun _ _ h=>h)
  ·rw[qhy ha]at h;exact h.elim
 ·exact hk _ _ (.inr rfl) h
 ·exact h.elim
theorem vx_put{T:List AV->Hp->Prop}{d:Option Tmp}{v:AV}(ha:qbT o=true)(hd:∀e,d=some e->e∉o.looksAt all/\o.dst≠some e)(hd8:∀e,d=some e->8<=e)(h:vx P E all o T (aput fr d v) H):vx P E all o (fun fr' H'=>T (aput fr' d v) H') fr H:=by
 have hA:Agr all o fr (aput fr d v):=fun t ht=>qep fun e he het=>(hd e he).1 (het▸ht);have hc:∀(fr1:List AV) (u:AV),aput (aput fr1 d v) o.dst u=aput (aput fr1 o.dst u) d v:=fun fr1 u=>qge fun t ht=>(hd t ht).2
 have h8:(aput fr d v).take 8=fr.take 8:=by
  cases d with
  |none=>rfl
  |some e=>exact List.take_set_of_le (hd8 e rfl)
 unfold vx at*;rw[hA.wanted,hA.call,qhy ha,h8]at h;rw[qhy ha];simp only[hc]at h;exact h
theorem qo3{T:List AV->Hp->Prop}{oj:Oper}(ha:qbT oj=true):∀(l:List Nat) {fr:List AV} {H:Hp},
  (∀i∈l,∃oi,all[i]? =some oi/\oi.apart all oj=true/\mvOk B all oi oj (pf.getD i 0) 2=true/\∀d,oi.dst=some d->8<=d)->atl P E B all pf (vx P E all oj T) l fr H->vx P E all oj (atl P E B all pf T l) fr H:=by
 intro l
 induction l with
 |nil=>intro fr H _ h;exact h
 |cons i l ih=>
  intro fr H hl h;obtain⟨oi,hi,hap,hok,h8⟩:=hl i (List.mem_cons_self ..);obtain⟨h1,h2,h3⟩:=qdf hok;rw[qa1 hi]at h;obtain⟨v,hv,h⟩:=qfj h2 h;have h:=ih (fun k hk=>hl k (List.mem_cons_of_mem _ hk)) h;have h:=vx_put ha (fun e he=>⟨(Oper.apart_spec hap).1 e he,(Oper.apart_spec hap).2.1 e he⟩) h8 h;refine qqc ha h fun u H' hr hk=>?_;rw[qa1 hi];refine qjF h2 (hv.later h2 (fun t ht=>qep fun e he het=>(Oper.apart_spec hap).2.2 e he (het▸ht)) ?_) hk;rcases hr with hr|rfl
  ·rcases h3 with h3|h3|⟨_,h3|h3|⟨_,h3⟩⟩|⟨h3,_⟩
   ·exact .inl h3
   ·exfalso;unfold qbT at ha;unfold kSt kVal kLd at h3;split at ha
    ·rename_i c ho;split at ha
     ·rename_i y hc;simp[ho,hc]at h3
     ·cases ha
    ·cases ha
   ·cases h3
   ·cases h3
   ·refine .inr fun k l hs hl=>?_;have hk2:=hr.2 k (hs h3) (zqC.1 hl).1;exact⟨l,hk2.trans hl,rfl⟩
   ·exfalso;unfold qbT at ha;unfold kSo at h3;split at ha
    ·rename_i c ho;simp[ho]at h3
    ·cases ha
  ·exact .inr (qaT _)
theorem qlA{i:Nat}{KC:Act->World->Prop}{Q:Exit->Act->World->Prop}{a:Act}(hi:all[i]? =some o)(hs:St ds E W F Rd0 β0 n fr H a w)(hv:vx P E all o K fr H)
  (hKK:∀fr H a w,St ds E W F Rd0 β0 n fr H a w->K fr H->KC a w) (hP:qbT o=false\/∀c H' w',St ds E W F Rd0 β0 n fr H' a w'->E.pan (fr.take 8) c H'->Q (.panic [{v:=c,recovered:=false}]) a w'):wpOp P all Q i KC a w:=by
 have:=vx_ok (E:=E) (Q:=Q) hs hv hKK hP;unfold wpOp;simp only[hi];split
 ·rename_i h;rw[if_pos h]at this;exact .inl this
 ·rename_i h;rw[if_neg h]at this;exact this
def tlV(P:Program)(E:Env)(B:List Tmp)(all:Array Oper)(pf:List Nat)(K:List AV->Hp->Prop)(j:Nat)(fr:List AV)(H:Hp):Prop:=vcl P E B all K (pf.drop j) (all.toList.drop j) fr H
theorem qeI(l:List Nat)(j:Nat):(l.drop j).headD 0=l.getD j 0:=by
 rw[List.headD_eq_head?_getD,List.head?_drop,List.getD_eq_getElem?_getD]
theorem qhC:∀(d k:Nat) {fr:List AV} {H:Hp},k+d<=all.size->(∀p∈pf.take (k+d),p≠3)->tlV P E B all pf K k fr H->atl P E B all pf (tlV P E B all pf K (k+d)) (List.range' k d) fr H
 |0,k,fr,H,_,_,h=>h
 |d+1,k,fr,H,hk,h3,h=>by
  have hlt:k<all.toList.length:=by simp;omega
  have h0:all[k]? =some all.toList[k]:=by rw[<-Array.getElem?_toList];exact zqD hlt
  rw[List.range'_succ,qa1 h0];unfold tlV at h;rw[List.drop_eq_getElem_cons hlt,vcl,qeI,List.tail_drop]at h
  have hne:pf.getD k 0≠3:=by
   rw[List.getD_eq_getElem?_getD];cases hp:pf[k]? with
   |none=>simp
   |some q=>exact h3 q (zqH (i:=k) (by rw[List.getElem?_take,if_pos (by omega)];exact hp))
  rw[if_neg hne]at h;refine qdn h fun fr' H' _ h'=>?_;have:=qhC d (k+1) (by omega) (by rw[show k+1+d=k+(d+1)by omega];exact h3) h';rw[show k+1+d=k+(d+1)by omega]at this;exact this
theorem qi6:∀{l:List Oper} {pf:List Nat} {t:Nat} {o:Oper},nopL pf l=true->l[t]? =some o->pf.getD t 0=3->qbT o=false
 |[],_,_,_,_,h,_=>by simp at h
 |o'::l,pf,0,o,h,ho,h3=>by
  unfold nopL at h;simp at ho;subst ho;have e:pf.headD 0=3:=by rw[<-h3];cases pf<;>rfl
  rw[Bool.and_eq_true,e]at h;simpa using h.1
 |o'::l,pf,t+1,o,h,ho,h3=>by
  unfold nopL at h;rw[Bool.and_eq_true]at h;exact qi6 h.2 (by simpa using ho) (by rw[<-h3];cases pf<;>rfl)
theorem qom {m : Nat} {Q : Exit → Act → World → Prop} (hB : qlP m B pf all = true) (hp : nopL pf all.toList = true ∨ ∀ fr H a w c, St ds E W F Rd0 β0 n fr H a w → E.pan (fr.take 8) c H → Q (.panic [{ v := c, recovered := false }]) a w) (hK : ∀ fr H a w, St ds E W F Rd0 β0 n fr H a w → K fr H → Q .normal a w) :
    ∀ (fuel : Nat) (listed : Array Bool) (fr : List AV) (H : Hp) (a : Act) (w : World), listed.size = all.size → qiF all listed → (qaA all.size listed).length = fuel → St ds E W F Rd0 β0 n fr H a w →
      (∃ (L : List Nat) (j : Nat), qaA all.size listed = L ++ List.range' j (all.size - j) ∧ (∀ x ∈ L, x < m) ∧ m ≤ j ∧ j ≤ all.size ∧ atl P E B all pf (tlV P E B all pf K j) L fr H) → wpAny P .any all Q fuel listed a w := by
  obtain ⟨hb, hc, hms, h3, hsw⟩ := qgq hB
  intro fuel
  induction fuel with
  | zero =>
    intro listed fr H a w hs hcl hf hst ⟨L, j, hL, hLm, hmj, hjn, h⟩
    have h0 := List.eq_nil_of_length_eq_zero hf
    rw [h0] at hL
    obtain ⟨rfl, hr0⟩ := List.append_eq_nil_iff.1 hL.symm
    have hj : j = all.size := by
      have := congrArg List.length hr0
      simp at this; omega
    subst hj
    replace h : tlV P E B all pf K all.size fr H := h
    unfold tlV at h
    have he : all.toList.drop all.size = [] := List.drop_eq_nil_of_le (by simp)
    rw [he, vcl] at h
    refine ⟨?_, hK _ _ _ _ hst h⟩
    rcases hr : Region.ready .any all listed with _ | ⟨x, r⟩
    · rfl
    · exfalso
      have hx : x ∈ Region.ready .any all listed := by rw [hr]; exact List.mem_cons_self ..
      rw [mem_ready] at hx
      obtain ⟨h1, o, ho, _⟩ := hx
      have : x ∈ qaA all.size listed := qaV.2 ⟨(Array.getElem?_eq_some_iff.1 ho).1, h1⟩
      rw [h0] at this
      cases this
  | succ fuel ih =>
    intro listed fr H a w hs hcl hf hst ⟨L, t, hL, hLm, hmj, hjn, h⟩
    have getf : ∀ j, j < all.size → listed.getD j false = listed.getD j true := fun j hj => by
      simp [Array.getD, hs, hj]
    have hsorted : (qaA all.size listed).Pairwise (· < ·) := List.Pairwise.sublist List.filter_sublist List.pairwise_lt_range
    refine ⟨fun hr => ?_, fun j hj => ?_⟩
    · exfalso
      rcases hl : qaA all.size listed with _ | ⟨x, r⟩
      · rw [hl] at hf; cases hf
      · have hx : x ∈ qaA all.size listed := by rw [hl]; exact List.mem_cons_self ..
        obtain ⟨h1, h2⟩ := qaV.1 hx
        have : x ∈ Region.ready .any all listed := by
          rw [mem_ready]
          refine ⟨h2, _, zqM h1, fun e he hbe => ?_⟩
          have hex := qeo hb (zqM h1) he hbe
          cases hle : listed.getD e.on false
          · exfalso
            have hle' : listed.getD e.on true = false := by rw [← getf _ (by omega)]; exact hle
            have hm : e.on ∈ qaA all.size listed := qaV.2 ⟨by omega, hle'⟩
            rw [hl] at hm hsorted
            rcases List.mem_cons.1 hm with h' | h'
            · omega
            · have := (List.pairwise_cons.1 hsorted).1 _ h'
              omega
          · rfl
        rw [hr] at this
        cases this
    · have hj' := hj
      rw [mem_ready] at hj'
      obtain ⟨h1, o, ho, hall⟩ := hj'
      have hlt : j < all.size := (Array.getElem?_eq_some_iff.1 ho).1
      have hjT : j ∈ qaA all.size listed := qaV.2 ⟨hlt, h1⟩
      have first : ∀ x, x < j → ((Region.before all).toList.getD j 0).testBit x = true → listed.getD x true = true := fun x hx hbit => by
        rw [← getf x (by omega)]
        exact qcW hb hc hcl j o ho hall x hx hbit
      have closed' : qiF all (listed.setIfInBounds j true) := fun k ok hok hk e he hbe => by
        by_cases hkj : k = j
        · subst hkj
          obtain rfl : ok = o := by rw [ho] at hok; simpa using hok.symm
          exact getD_set_true (hall e he hbe)
        · rw [getD_set_ne false (Ne.symm hkj)] at hk
          exact getD_set_true (hcl k ok hok hk e he hbe)
      have hset : qaA all.size (listed.setIfInBounds j true) = (qaA all.size listed).filter fun x => decide (x ≠ j) := by
        unfold qaA
        rw [List.filter_filter]
        apply List.filter_congr
        intro x hx
        by_cases hxj : x = j
        · subst hxj
          simp [Array.getD, hs, hlt]
        · rw [getD_set_ne true (Ne.symm hxj)]
          simp [hxj]
      have hnd : (qaA all.size listed).Nodup := hsorted.imp fun h => Nat.ne_of_lt h
      have hlen : (qaA all.size (listed.setIfInBounds j true)).length = fuel := by
        obtain ⟨l1, l2, hl12⟩ := List.append_of_mem hjT
        rw [hset, hl12]
        rw [hl12] at hnd hf
        rw [List.nodup_append] at hnd
        obtain ⟨_, n2, n3⟩ := hnd
        rw [List.nodup_cons] at n2
        rw [List.filter_append, List.filter_cons_of_neg (by simp), List.filter_eq_self.2 (fun x hx => by simpa using n3 x hx j (by simp)), List.filter_eq_self.2 (fun x hx => by
          have : x ≠ j := fun e => n2.1 (by rw [← e]; exact hx)
          simpa using this)]
        simp at hf ⊢
        omega
      have early : j ∈ L → wpOp P all Q j (fun a w => wpAny P .any all Q fuel (listed.setIfInBounds j true) a w) a w := fun hjL => by
        obtain ⟨l, m', rfl⟩ := List.append_of_mem hjL
        have hord : ∀ x ∈ l, x < j := fun x hx => by
          rw [hL, List.pairwise_append] at hsorted
          have := (List.pairwise_append.1 hsorted.1).2.2 x hx j (by simp)
          exact this
        have h2 := qfS ho (fun x hx => by
          have hxj := hord x hx
          refine ⟨_, zqM (by omega), ?_⟩
          have hxl := (qaV.1 (show x ∈ qaA all.size listed by rw [hL]; exact List.mem_append_left _ (List.mem_append_left _ hx))).2
          cases hbit : ((Region.before all).toList.getD j 0).testBit x
          · rcases hsw x j _ o hxj (zqM (by omega)) ho hbit with q | q
            · exact q.2
            · have := q.2.1; have := hLm j hjL; omega
          · rw [first x hxj hbit] at hxl; cases hxl) hst h
        refine qcd ho hst h2 fun fr' H' a' w' hst' h' => ?_
        refine ih _ fr' H' a' w' (by simpa using hs) closed' hlen hst' ⟨l ++ m', t, ?_, fun x hx => hLm x (by
          rcases List.mem_append.1 hx with q | q
          · exact List.mem_append_left _ q
          · exact List.mem_append_right _ (List.mem_cons_of_mem _ q)), hmj, hjn, h'⟩
        rw [hset, hL]
        rw [hL, List.nodup_append, List.nodup_append] at hnd
        obtain ⟨⟨n1, n2, n3⟩, n4, n5⟩ := hnd
        rw [List.nodup_cons] at n2
        rw [List.filter_append, List.filter_append, List.filter_cons_of_neg (by simp), List.filter_eq_self.2 (fun x hx => by simpa using n3 x hx j (by simp)), List.filter_eq_self.2 (fun x hx => by
          have : x ≠ j := fun e => n2.1 (by rw [← e]; exact hx)
          simpa using this), List.filter_eq_self.2 (fun x hx => by simpa using Ne.symm (n5 j (by simp) x hx))]
      by_cases hjL : j ∈ L
      · exact early hjL
      have htj : t = j := by
        rw [hL] at hjT
        have hjT := (List.mem_append.1 hjT).resolve_left hjL
        rw [List.mem_range'_1] at hjT
        rcases Nat.lt_or_ge t j with q | q
        · exfalso
          have ht : t ∈ qaA all.size listed := by rw [hL]; exact List.mem_append_right _ (by rw [List.mem_range'_1]; omega)
          have htl := (qaV.1 ht).2
          cases hbit : ((Region.before all).toList.getD j 0).testBit t
          · rcases hsw t j _ o q (zqM (by omega)) ho hbit with hh | hh
            · have := hh.1; omega
            · have := hh.1; omega
          · rw [first t q hbit] at htl; cases htl
        · omega
      subst htj
      have hlt' : t < all.toList.length := by simpa using hlt
      have hoe : all.toList[t] = o := by
        have : all.toList[t]? = some o := by rw [Array.getElem?_toList]; exact ho
        rw [zqD hlt'] at this
        cases this; rfl
      have next : ∀ fr' H' a' w', St ds E W F Rd0 β0 n fr' H' a' w' → atl P E B all pf (tlV P E B all pf K (t + 1)) L fr' H' → wpAny P .any all Q fuel (listed.setIfInBounds t true) a' w' := fun fr' H' a' w' hst' h' => by
        refine ih _ fr' H' a' w' (by simpa using hs) closed' hlen hst' ⟨L, t + 1, ?_, hLm, by omega, by omega, h'⟩
        rw [hset, hL, List.filter_append, List.filter_eq_self.2 (fun x hx => by have := hLm x hx; simp; omega), show all.size - t = (all.size - (t + 1)) + 1 by omega, List.range'_succ, List.filter_cons_of_neg (by simp), List.filter_eq_self.2 (fun x hx => by rw [List.mem_range'_1] at hx; simp; omega)]
      have tl3 : pf.getD t 0 = 3 → tlV P E B all pf K t = vx P E all o (tlV P E B all pf K (t + 1)) := fun h3' => by
        funext fr1 H1
        unfold tlV
        rw [List.drop_eq_getElem_cons hlt', hoe, vcl, List.tail_drop, if_pos (by rw [qeI]; exact h3')]
      by_cases hL0 : L = []
      · subst hL0
        replace h : tlV P E B all pf K t fr H := h
        replace next : ∀ fr' H' a' w', St ds E W F Rd0 β0 n fr' H' a' w' → tlV P E B all pf K (t + 1) fr' H' → wpAny P .any all Q fuel (listed.setIfInBounds t true) a' w' := next
        unfold tlV at h
        rw [List.drop_eq_getElem_cons hlt', hoe, vcl, List.tail_drop] at h
        split at h
        · rename_i h3'
          rw [qeI] at h3'
          exact qlA ho hst h next (hp.imp (fun h => qi6 h (by rw [Array.getElem?_toList]; exact ho) h3') fun h c H' w' hs' => h _ _ _ _ c hs')
        · exact qcd ho hst h next
      · have hpair : ∀ x ∈ L, pf.getD t 0 = 3 ∧ qbT o = true ∧ ∃ ox, all[x]? = some ox ∧ ox.apart all o = true ∧ mvOk B all ox o (pf.getD x 0) 2 = true ∧ ∀ d, ox.dst = some d → 8 ≤ d := fun x hx => by
          have hxm := hLm x hx
          have hxl := (qaV.1 (show x ∈ qaA all.size listed by rw [hL]; exact List.mem_append_left _ hx)).2
          cases hbit : ((Region.before all).toList.getD t 0).testBit x
          · rcases hsw x t _ o (by omega) (zqM (by omega)) ho hbit with hh | ⟨_, _, q1, q2, q3, q4, q5⟩
            · omega
            · exact ⟨q1, q2, _, zqM (by omega), q3, q4, q5⟩
          · rw [first x (by omega) hbit] at hxl; cases hxl
        obtain ⟨x, hx⟩ := List.exists_mem_of_ne_nil L hL0
        obtain ⟨g1, g2, _⟩ := hpair x hx
        rw [tl3 g1] at h
        exact qlA ho hst (qo3 g2 L (fun i hi => (hpair i hi).2.2) h) next (hp.imp (fun h => qi6 h (by rw [Array.getElem?_toList]; exact ho) g1) fun h c H' w' hs' => h _ _ _ _ c hs')
theorem qlY{m id:Nat}{Q:Exit->Act->World->Prop}{a:Act}(hm:P.follows .mixedOrders=true)(hB:qlP m B pf all=true)(hp:nopL pf all.toList=true\/∀fr H a w c,St ds E W F Rd0 β0 n fr H a w->E.pan (fr.take 8) c H->Q (.panic [{v:=c,recovered:=false}]) a w)(hs:St ds E W F Rd0 β0 n fr H a w)(h:vcl P E B all K pf all.toList fr H)
  (hK:∀fr H a w,St ds E W F Rd0 β0 n fr H a w->K fr H->Q .normal a w):(Code.region id all true).wp P Q a w:=by
 refine wp_region_any hm ?_;obtain⟨_,_,hms,h3,_⟩:=qgq hB;have hrep:∀i,i<all.size->(Array.replicate all.size false).getD i true=false:=fun i hi=>by simp[Array.getD,hi]
 have hto:qaA all.size (Array.replicate all.size false)=List.range all.size:=by
  unfold qaA;rw[List.filter_eq_self.2 (fun i hi=>by rw[hrep i (by simpa using hi)];rfl)]
 refine qom hB hp hK _ _ fr H a _ (by simp) ?_ ?_ hs.drew' ⟨List.range' 0 m,m,?_,fun x hx=>by rw[List.mem_range'_1]at hx;omega,Nat.le_refl _,hms,?_⟩
 ·intro j o _ hl;exfalso
  have:(Array.replicate all.size false).getD j false=false:=by
   simp only[Array.getD];split<;>simp
  rw[this]at hl;cases hl
 ·rw[hto];simp
 ·rw[hto,List.range_eq_range'];obtain⟨d,hd⟩:∃d,all.size=m+d:=⟨all.size-m,by omega⟩
  rw[hd,show m+d-m=d by omega,<-List.range'_append_1,Nat.zero_add]
 ·have:=qhC (P:=P) (E:=E) (B:=B) (all:=all) (pf:=pf) (K:=K) m 0 (fr:=fr) (H:=H) (by omega) (by simpa using h3) (by unfold tlV;simpa using h);simpa using this
end
def ndOf(ND:List (Nat×List Nat))(id:Nat):List Nat:=match ND with
 |[]=>[]
 |(i,l)::r=>if i=id then l else ndOf r id
def frzN:List Nat->Option Nat
 |5::m::_=>some m
 |_=>none
def qaN:List Nat->List Nat
 |5::_::r=>r
 |8::_::r=>r
 |9::r=>r
 |r=>r
def twoN:List Nat->Option (Nat×Nat)
 |7::i::k::_=>some (i,k)
 |_=>none
def tlN:List Nat->Option Nat
 |8::m::_=>some m
 |_=>none
def setN:List Nat->Bool
 |9::_=>true
 |_=>false
def qoM(ND:List (Nat×List Nat)):Bool:=ND.all fun p=>(frzN p.2).isNone
def qdG(B:List Tmp)(ND:List (Nat×List Nat)):Code->Bool
 | .region id ops draw=>match twoN (ndOf ND id)with
  |some (i,k)=>draw&&twoP i k B ((ndOf ND id).drop 3) ops&&((ndOf ND id).drop 3).all fun p=>p !=3
  |none=>match tlN (ndOf ND id)with
   |some m=>draw&&qlP m B (qaN (ndOf ND id)) ops
   |none=>!draw||(regA B (qaN (ndOf ND id)) ops&&(qaN (ndOf ND id)).all fun p=>p !=3)
 | .seq a b=>qdG B ND a&&qdG B ND b
 | .cond _ a b=>qdG B ND a&&qdG B ND b
 | .block _ a=>qdG B ND a
 | .loop a=>qdG B ND a
 | .scope a=>qdG B ND a
 |_=>true
def qd8(ND:List (Nat×List Nat)):Code->Bool
 | .region id ops _=>nopL (qaN (ndOf ND id)) ops.toList
 | .seq a b=>qd8 ND a&&qd8 ND b
 | .cond _ a b=>qd8 ND a&&qd8 ND b
 | .block _ a=>qd8 ND a
 | .loop a=>qd8 ND a
 | .scope a=>qd8 ND a
 |_=>true
def nil1(x y:AV):Prop:=y=x\/(x= .nil/\∃b k,y= .sl b k [])
def nilL:List AV->List AV->Prop
 |[],[]=>True
 |x::l,y::m=>nil1 x y/\nilL l m
 |_,_=>False
def nilH:Hp->Hp->Prop
 |[],[]=>True
 |x::l,y::m=>nilL x y/\nilH l m
 |_,_=>False
def qhz(x:AV)(p q:Prop):Prop:=match x with
 | .bool b=>(b=true->p)/\(b=false->q)
 |_=>False
@[congr] theorem qru {x y:AV} {p q:Prop} (h:x=y):qhz x p q=qhz y p q:=by rw[h]
theorem qlv(p q:Prop):qhz (.bool true) p q=p:=by simp[qhz]
theorem qjw(p q:Prop):qhz (.bool false) p q=q:=by simp[qhz]
def qpD(vcb:(Exit->List AV->Hp->Prop)->List AV->Hp->Prop)(K:Exit->List AV->Hp->Prop)(fr:List AV)(H:Hp):Prop:=
 ∃(I:List AV->Hp->Prop) (μ:List AV->Hp->Nat) (fr1:List AV) (H1:Hp),nilL fr fr1/\nilH H H1/\I fr1 H1/\∀fr H,I fr H->vcb (fun e fr' H'=>match e with
  | .normal=>∃fr1 H1,nilL fr' fr1/\nilH H' H1/\I fr1 H1/\μ fr1 H1<μ fr H
  |e=>K e fr' H') fr H
@[congr] theorem qrt {vcb:(Exit->List AV->Hp->Prop)->List AV->Hp->Prop} {K:Exit->List AV->Hp->Prop} {fr fr':List AV} {H H':Hp} (h1:fr=fr') (h2:H=H'):qpD vcb K fr H=qpD vcb K fr' H':=by rw[h1,h2]
def chop(k:Nat):Nat->List AV->List (List AV)
 |0,_=>[]
 |m+1,l=>l.take k::chop k m (l.drop k)
def frz(N:Nat)(l:List AV):AV->AV
 | .bx i q m c k=>if i=N then .sl false k (chop k m (l.drop q))else .bx i q m c k
 |x=>x
def okF(N:Nat)(l:List AV):AV->Prop
 | .bx i q m c k=>i<N\/(i=N/\0<k/\q+m*k<=l.length/\∀y∈(l.drop q).take (m*k),y.free=true/\Bnd N y)
 |x=>Bnd N x
def qfT(keep:List Nat)(N:Nat)(l:List AV)(y:Nat->AV):Nat->List AV->List AV
 |_,[]=>[]
 |t,x::r=>(if keep.contains t then frz N l x else y t)::qfT keep N l y (t+1) r
def VFrz(m0:Nat)(K:List AV->Hp->Prop)(fr:List AV)(H:Hp):Prop:=
 K fr H\/∃(keep:List Nat) (H1:Hp) (l:List AV),H=H1++[l]/\m0<=H1.length/\(∀l'∈H1,∀x∈l',Bnd H1.length x)/\(∀t∈keep,∀x,fr[t]? =some x->okF H1.length l x)/\∀y:Nat->AV,K (qfT keep H1.length l y 0 fr) H1
def vc(P:Program)(E:Env)(B:List Tmp)(ND:List (Nat×List Nat)):Code->(Exit->List AV->Hp->Prop)->List AV->Hp->Prop
 | .skip,K,fr,H=>K .normal fr H
 | .region id ops draw,K,fr,H=>match frzN (ndOf ND id)with
  |some m=>VFrz m (fun fr H=>vcl P E B ops (K .normal) (qaN (ndOf ND id)) ops.toList fr H) fr H
  |none=>match twoN (ndOf ND id)with
   |some (i,k)=>vcl P E B ops (K .normal) ((ndOf ND id).drop 3) ops.toList fr H/\vcl P E B ops (K .normal) (puQ ((ndOf ND id).drop 3) (swP ops.size i k)) (opsQ ops (swP ops.size i k)) fr H
   |none=>match setN (ndOf ND id)with
    |true=>∃S:Nat->Prop,vcl P {E with S:=S} B ops (K .normal) (qaN (ndOf ND id)) ops.toList fr H
    |false=>vcl P E B ops (K .normal) (qaN (ndOf ND id)) ops.toList fr H
 | .seq a b,K,fr,H=>vc P E B ND a (fun e fr H=>match e with
  | .normal=>vc P E B ND b K fr H
  |e=>K e fr H) fr H
 | .cond c x y,K,fr,H=>qhz (aeval fr c) (vc P E B ND x K fr H) (vc P E B ND y K fr H)
 | .block id c,K,fr,H=>vc P E B ND c (fun e fr H=>match e with
  | .exit id'=>if id'=id then K .normal fr H else K (.exit id') fr H
  |e=>K e fr H) fr H
 | .loop c,K,fr,H=>qpD (fun K fr H=>vc P E B ND c K fr H) K fr H
 | .scope c,K,fr,H=>vc P E B ND c (fun e fr H=>match e with
  | .goto _=>False
  |e=>K e fr H) fr H
 | .label _,K,fr,H=>K .normal fr H
 | .exit id,K,fr,H=>K (.exit id) fr H
 | .ret,K,fr,H=>K .ret fr H
 |_,_,_,_=>False
section
variable {P:Program}{E:Env}{W:World}{F:Nat->Prop}{Rd0:Nat->Nat->Prop}{w w':World}{β β0 β':Nat->Nat}{Rd Rd':Nat->Nat->Prop}{Ow Ow':Nat->Option Hold}{fr fr':List AV}{H H':Hp}{tmps:Array Value}{N n:Nat}{ds:List Deferred}
@[congr] theorem vc_congr {B:List Tmp} {ND:List (Nat×List Nat)} {c:Code} {K:Exit->List AV->Hp->Prop} {fr fr':List AV} {H H':Hp} (h1:fr=fr') (h2:H=H'):vc P E B ND c K fr H=vc P E B ND c K fr' H':=by rw[h1,h2]
theorem least{p:Nat->Prop}(h:∃k,p k):∃k,p k/\∀j,p j->k<=j:=by
 obtain⟨k,hk⟩:=h
 induction k using Nat.strongRecOn with
 |_ k ih=>
  by_cases hj:∃j,j<k/\p j
  ·obtain⟨j,h1,h2⟩:=hj;exact ih j h1 h2
  ·exact⟨k,hk,fun j h2=>Nat.le_of_not_lt fun h1=>hj ⟨j,h1,h2⟩⟩
theorem qea{x y:AV}{v:Value}(h:nil1 x y)(hr:Rel w β Rd x v)(hB:Bnd N x):Rel w β Rd y v/\Bnd N y/\(∀g,own0 y v=some g->own0 x v=some g)/\(x.one=true->y.one=true)/\(x.dis.free=true->y.dis.free=true):=by
 rcases h with rfl|⟨rfl,b,k,rfl⟩
 ·exact⟨hr,hB,fun _ h=>h,fun h=>h,fun h=>h⟩
 ·obtain rfl:=qgX hr;refine⟨.sl b k [] _ [] (by simp) (OSl.nil w k).toR (fun g o n c hv=>by cases hv) (fun _=>⟨OSl.nil w k,fun g o n c hv=>by cases hv⟩) (by simp) (fun j x u hx=>by simp at hx),.sl _ _ _ (by simp),fun g hg=>?_,fun _=>rfl,fun _=>rfl⟩;cases b<;>cases hg
theorem qdJ:∀{l m:List AV},nilL l m->l.length=m.length/\∀(i:Nat) y,m[i]? =some y->∃x,l[i]? =some x/\nil1 x y
 |[],[],_=>⟨rfl,fun i y hy=>by simp at hy⟩
 |x::l,y::m,h=>by
  obtain⟨h1,h2⟩:=qdJ h.2;refine⟨by simp[h1],fun i z hz=>?_⟩;cases i with
  |zero=>simp at hz;subst hz;exact⟨x,rfl,h.1⟩
  |succ i=>exact h2 i z (by simpa using hz)
 |[],_::_,h=>h.elim
 |_::_,[],h=>h.elim
theorem qi7:∀{l m:Hp},nilH l m->l.length=m.length/\∀(i:Nat) y,m[i]? =some y->∃x,l[i]? =some x/\nilL x y
 |[],[],_=>⟨rfl,fun i y hy=>by simp at hy⟩
 |x::l,y::m,h=>by
  obtain⟨h1,h2⟩:=qi7 h.2;refine⟨by simp[h1],fun i z hz=>?_⟩;cases i with
  |zero=>simp at hz;subst hz;exact⟨x,rfl,h.1⟩
  |succ i=>exact h2 i z (by simpa using hz)
 |[],_::_,h=>h.elim
 |_::_,[],h=>h.elim
theorem S3.nilTo{fr1:List AV}{H1:Hp}(h:S3 E W F Rd0 w β Rd Ow fr H tmps)(hf:nilL fr fr1)(hH:nilH H H1):S3 E W F Rd0 w β Rd Ow fr1 H1 tmps:=by
 obtain⟨e1,a1⟩:=qdJ hf;obtain⟨e2,a2⟩:=qi7 hH
 refine⟨⟨fun i l hl=>?_,by rw[<-e2];exact h.hr.inj,by rw[<-e2];exact h.hr.sep,h.hr.ows,h.hr.rds,fun l hl x hx=>?_,by rw[<-e2];exact h.hr.fix,fun i l t hl h0=>(by
   obtain⟨l0,hl0,hn⟩:=a2 i l hl;obtain⟨x0,hx0,hn1⟩:=(qdJ hn).2 0 _ h0;rcases hn1 with e|⟨_,_,_,e⟩
   ·rw[<-e]at hx0;exact h.hr.bld i l0 t hl0 hx0
   ·cases e)⟩,⟨by rw[<-e1];exact h.ff.len,fun t x u hx hu=>?_⟩,by rw[<-e2];exact h.fo,fun x hx=>?_⟩
 ·obtain⟨l0,hl0,hn⟩:=a2 i l hl;obtain⟨T,cs,c1,c2,c3⟩:=h.hr.box i l0 hl0;obtain⟨e3,a3⟩:=qdJ hn;refine⟨T,cs,c1,by rw[c2,e3],fun j x u hx hu=>?_⟩;obtain⟨x0,hx0,hnx⟩:=a3 j x hx;obtain⟨r1,r2,r3⟩:=c3 j x0 u hx0 hu;obtain⟨q1,q2,q3,q4,q5⟩:=qea hnx r1 (h.hr.bnd l0 (qak hl0) x0 (qak hx0));exact⟨q1,q4 r2,fun g hg=>r3 g (q3 g hg)⟩
 ·obtain⟨i,hi⟩:=List.getElem?_of_mem hl;obtain⟨l0,hl0,hn⟩:=a2 i l hi;obtain⟨j,hj⟩:=List.getElem?_of_mem hx;obtain⟨x0,hx0,hnx⟩:=(qdJ hn).2 j x hj;rw[<-e2];have:=h.hr.bnd l0 (qak hl0) x0 (qak hx0);rcases hnx with rfl|⟨rfl,b,k,rfl⟩
  ·exact this
  ·exact .sl _ _ _ (by simp)
 ·obtain⟨x0,hx0,hnx⟩:=a1 t x hx;obtain⟨r1,r2,r3⟩:=h.ff.rel t x0 u hx0 hu;obtain⟨q1,q2,q3,q4,q5⟩:=qea hnx r1 r2;exact⟨q1,by rw[<-e2];exact q2,fun g hg=>r3 g (q3 g hg)⟩
 ·obtain⟨i,hi⟩:=List.getElem?_of_mem hx;obtain⟨x0,hx0,hnx⟩:=a1 i x hi;have:=h.ne x0 (qak hx0);rcases hnx with rfl|⟨rfl,b,k,rfl⟩
  ·exact this
  ·rfl
theorem St.nilTo{a:Act}{fr1:List AV}{H1:Hp}(h:St ds E W F Rd0 β0 n fr H a w)(hf:nilL fr fr1)(hH:nilH H H1):St ds E W F Rd0 β0 n fr1 H1 a w:=by
 obtain⟨h1,h2,β,Rd,Ow,hS,hβ⟩:=h;exact⟨h1,by rw[<-(qi7 hH).1];exact h2,β,Rd,Ow,hS.nilTo hf hH,hβ⟩
theorem qa8:∀l,nilL l l
 |[]=>trivial
 |x::l=>⟨.inl rfl,qa8 l⟩
theorem qbl:∀l,nilH l l
 |[]=>trivial
 |x::l=>⟨qa8 x,qbl l⟩
theorem qkk(k:Nat):∀(m:Nat) (l:List AV),(chop k m l).length=m
 |0,_=>rfl
 |m+1,l=>by rw[chop,zqL,qkk k m]
theorem qkj(k:Nat):∀(m:Nat) (l:List AV),m*k<=l.length->∀r∈chop k m l,r.length=k
 |0,_,_,r,hr=>by cases hr
 |m+1,l,h,r,hr=>by
  rw[Nat.add_mul]at h;rw[chop]at hr;rcases List.mem_cons.1 hr with rfl|hr
  ·rw[zqJ];omega
  ·exact qkj k m (l.drop k) (by rw[zqI];omega) r hr
theorem qiu(k:Nat):∀(m:Nat) (l:List AV),(chop k m l).flatten=l.take (m*k)
 |0,_=>by simp[chop]
 |m+1,l=>by
  rw[chop,List.flatten_cons,qiu k m,Nat.add_mul,Nat.one_mul,Nat.add_comm,List.take_add]
theorem qht:∀(m:Nat) (l:List AV),m<=l.length->chop 1 m l=(l.take m).map fun x=>[x]
 |0,_,_=>rfl
 |m+1,[],h=>by simp at h
 |m+1,a::l,h=>by
  rw[chop];simp only[List.drop_one,List.tail_cons,List.take_succ_cons,List.map_cons,List.take_zero];rw[qht m l (by simpa using h)]
theorem qeg(keep:List Nat)(N:Nat)(l:List AV)(y:Nat->AV):∀(t:Nat) (fr:List AV),(qfT keep N l y t fr).length=fr.length
 |_,[]=>rfl
 |t,x::r=>by rw[qfT,zqL,zqL,qeg keep N l y (t+1) r]
theorem qhh(keep:List Nat)(N:Nat)(l:List AV)(y:Nat->AV):∀(t j:Nat) (fr:List AV) (x:AV),fr[j]? =some x->(qfT keep N l y t fr)[j]? =some (if keep.contains (t+j)then frz N l x else y (t+j))
 |_,_,[],x,h=>by simp at h
 |t,0,a::r,x,h=>by simp at h;subst h;simp[qfT]
 |t,j+1,a::r,x,h=>by
  rw[qfT,List.getElem?_cons_succ,qhh keep N l y (t+1) j r x (by simpa using h)];have:t+1+j=t+(j+1):=by omega
  rw[this]
theorem St.frz{a:Act}{H1:Hp}{l:List AV}(h:St ds E W F Rd0 β0 n fr (H1++[l]) a w)(hn:n<=H1.length)(hB:∀l'∈H1,∀x∈l',Bnd H1.length x)(keep:List Nat)(hk:∀t∈keep,∀x,fr[t]? =some x->okF H1.length l x):
  ∃y:Nat->AV,St ds E W F Rd0 β0 n (qfT keep H1.length l y 0 fr) H1 a w:=by
 obtain⟨hd,hnl,β,Rd,Ow,hS,hβ⟩:=h;have hlen:(H1++[l]).length=H1.length+1:=by simp
 have hat:∀i l',H1[i]? =some l'->(H1++[l])[i]? =some l':=fun i l' h=>by rw[zqA (zqC.1 h).1];exact h
 obtain⟨T,cs,b1,b2,b3⟩:=hS.hr.box H1.length l (by simp);obtain⟨s1,s2⟩:=hS.hr.sep H1.length (by simp);refine⟨fun t=> .raw (a.tmps.getD t undef),hd,hn,β,fun g o=>Rd g o\/g=β H1.length,Ow,?_,hβ⟩;have hR:∀g o,Rd g o->(Rd g o\/g=β H1.length)/\w.cell? ⟨g,o,none⟩=w.cell? ⟨g,o,none⟩:=fun g o h=>⟨.inl h,rfl⟩
 have hO:∀g k,Ow g=some k->w.heap[g]? =w.heap[g]? /\∀o,(Rd g o\/g=β H1.length)->Rd g o:=fun g k hg=>⟨rfl,fun o ho=>ho.elim id fun e=>by rw[e,s1]at hg;cases hg⟩
 refine⟨⟨fun i l' hl'=>?_,fun i j hi hj=>hS.hr.inj i j (by rw[hlen];omega) (by rw[hlen];omega),fun i hi=>?_,hS.hr.ows,fun g o h=>h.elim (hS.hr.rds g o) (fun e=>e▸qcq b1),hB,fun b hb=>?_,fun i l' t hl' h0=>hS.hr.bld i l' t (hat i l' hl') h0⟩,
  ⟨by rw[qeg];exact hS.ff.len,fun t x u hx hu=>?_⟩,⟨hS.fo.lt,hS.fo.same,hS.fo.own,fun b i hb hi=>hS.fo.box b i hb (by rw[hlen];omega),fun b o hb ho=>?_,hS.fo.os,hS.fo.tape,hS.fo.output,hS.fo.size,fun g o h=>⟨.inl (hS.fo.keep g o h).1,(hS.fo.keep g o h).2⟩⟩,fun x hx=>?_⟩
 ·obtain⟨T',cs',h1,h2,h3⟩:=hS.hr.box i l' (hat i l' hl');refine⟨T',cs',h1,h2,fun j x u hx hu=>?_⟩;obtain⟨r1,r2,r3⟩:=h3 j x u hx hu;exact⟨r1.move (hB l' (qak hl') x (qak hx)) hR (fun g hg=>hO g _ (r3 g hg)) (Nat.le_refl _) (fun _ _=>rfl),r2,r3⟩
 ·refine⟨(hS.hr.sep i (by rw[hlen];omega)).1,fun o ho=>ho.elim ((hS.hr.sep i (by rw[hlen];omega)).2 o) (fun e=>?_)⟩;have:=hS.hr.inj i H1.length (by rw[hlen];omega) (by rw[hlen];omega) e;omega
 ·obtain⟨f1,f2,f3,f4⟩:=hS.hr.fix b hb;exact⟨f1,f2,fun i hi=>f3 i (by rw[hlen];omega),f4⟩
 ·have htl:t<fr.length:=by have:=(zqC.1 hx).1;rw[qeg]at this;exact this
  obtain⟨x0,h0⟩:∃x0,fr[t]? =some x0:=⟨_,zqD htl⟩
  obtain⟨r1,r2,r3⟩:=hS.ff.rel t x0 u h0 hu;rw[qhh _ _ _ _ _ _ _ x0 h0,Nat.zero_add]at hx;by_cases ht:keep.contains t=true
  ·rw[if_pos ht]at hx;have hok:=hk t (by simpa using ht) x0 h0
   have plain:Bnd H1.length x0->Go.Proofs.YtnnhdehmlkkfjaaGreatDoor.frz H1.length l x0=x0->Rel w β (fun g o=>Rd g o\/g=β H1.length) x u/\Bnd H1.length x/\∀g,own0 x u=some g->Ow g=some (.slot t):=fun hb he=>by
    rw[he]at hx;cases hx;exact⟨r1.move hb hR (fun g hg=>hO g _ (r3 g hg)) (Nat.le_refl _) (fun _ _=>rfl),hb,r3⟩
   cases x0 with
   |bx i q m c k=>
    obtain⟨rfl,hmc,hcm⟩:=qhQ r1;rcases hok with hi|⟨rfl,hk0,hle,hcell⟩
    ·refine plain (.bx _ _ _ _ _ hi) ?_;show(if i=H1.length then _ else _)=_;rw[if_neg (by omega)]
    ·have e:Go.Proofs.YtnnhdehmlkkfjaaGreatDoor.frz H1.length l (.bx H1.length q m c k)= .sl false k (chop k m (l.drop q)):=if_pos rfl;rw[e]at hx;cases hx;have hfl:(chop k m (l.drop q)).flatten=(l.drop q).take (m*k):=qiu k m _;have hrow:=qkj k m (l.drop q) (by rw[zqI];omega);have hmem:∀r∈chop k m (l.drop q),∀y∈r,y∈(l.drop q).take (m*k):=fun r hr y hy=>by rw[<-hfl];exact List.mem_flatten.2 ⟨r,hr,hy⟩
     have hgo:∀(j:Nat) y v,((l.drop q).take (m*k))[j]? =some y->((cs.toList.drop q).take (m*k))[j]? =some v->Rel w β Rd y v/\y.one=true:=fun j y v hy hv=>by
      have hj:j<m*k:=by have:=(zqC.1 hy).1;rw[zqJ]at this;omega
      rw[zqG hj,zqN]at hy hv;obtain⟨d1,d2,_⟩:=b3 (q+j) y v hy (by rw[<-Array.getElem?_toList];exact hv);exact⟨d1,d2⟩
     have hxl:((cs.toList.drop q).take (m*k)).length=m*k:=by rw[zqJ,zqI,Array.length_toList,b2];omega
     have hone:∀y∈(l.drop q).take (m*k),y.one=true:=fun y hy=>by
      obtain⟨j,hj⟩:=List.getElem?_of_mem hy
      have hjl:j<((cs.toList.drop q).take (m*k)).length:=by
       have:=(zqC.1 hj).1;rw[zqJ]at this;rw[hxl];omega
      exact(hgo j y _ hj (zqD hjl)).2
     refine⟨.sl false k _ _ ((cs.toList.drop q).take (m*k)) hrow ?_ (fun g o n' c' e j _=>?_) (fun e=>by cases e) (fun r hr y hy=>⟨(hcell y (hmem r hr y hy)).1,hone y (hmem r hr y hy)⟩) (fun j y v hy hv=>?_),.sl _ _ _ (fun r hr y hy=>(hcell y (hmem r hr y hy)).2),fun g hg=>by cases hg⟩
     ·rw[qkk];refine⟨hxl,_,c,rfl,hmc,hcm,fun _=>⟨_,_,rfl,fun j hj=>?_⟩⟩;rw[qaX b1,zqG hj,zqN,Array.getElem?_toList]
     ·cases e;exact .inr rfl
     ·rw[hfl]at hy;have hym:y∈(l.drop q).take (m*k):=qak hy;exact(hgo j y v hy hv).1.move (hcell y hym).2 hR (fun g hg=>by rw[qaw (hcell y hym).1]at hg;cases hg) (Nat.le_refl _) (fun _ _=>rfl)
   |_=>exact plain hok rfl
  ·rw[if_neg ht]at hx;cases hx
   have hu':a.tmps.getD t undef=u:=by
    rw[Array.getD_eq_getD_getElem?,hu];rfl
   simp only[hu'];exact⟨.raw _,.raw _,fun g hg=>by cases hg⟩
 ·exact ho.elim (hS.fo.rd b o hb) (fun e=>absurd e.symm (hS.fo.box b H1.length hb (by rw[hlen];omega)))
 ·obtain⟨t,ht⟩:=List.getElem?_of_mem hx;have htl:t<fr.length:=by have:=(zqC.1 ht).1;rw[qeg]at this;exact this
  rw[qhh _ _ _ _ _ _ _ _ (zqD htl)]at ht;have hne:=hS.ne _ (List.getElem_mem htl);split at ht
  ·cases ht
   generalize fr[t]=x0 at hne
   unfold Go.Proofs.YtnnhdehmlkkfjaaGreatDoor.frz;split
   ·split<;>rfl
   ·exact hne
  ·cases ht;rfl
theorem HR.env{E':Env}(h0:E'.w0=E.w0)(hF:E'.Fix=E.Fix){w:World}{β:Nat->Nat}{Rd:Nat->Nat->Prop}{Ow:Nat->Option Hold}{H:Hp}(h:HR E w β Rd Ow H):HR E' w β Rd Ow H:=
 ⟨h.box,h.inj,h.sep,h.ows,h.rds,h.bnd,fun b hb=>by rw[h0];exact h.fix b (by rw[<-hF];exact hb),h.bld⟩
theorem St.env{E':Env}(h0:E'.w0=E.w0)(hF:E'.Fix=E.Fix){a:Act}(h:St ds E W F Rd0 β0 n fr H a w):St ds E' W F Rd0 β0 n fr H a w:=by
 obtain⟨h1,h2,β,Rd,Ow,hS,hβ⟩:=h;exact⟨h1,h2,β,Rd,Ow,⟨hS.hr.env h0 hF,hS.ff,hS.fo,hS.ne⟩,hβ⟩
open Classical in
theorem qqg{B:List Tmp}{ND:List (Nat×List Nat)}(hm:P.follows .mixedOrders=true)(hz:∀id m,frzN (ndOf ND id)=some m->n<=m):∀(c:Code) (K:Exit->List AV->Hp->Prop) (KC:Exit->Act->World->Prop) (fr:List AV) (H:Hp) (a:Act) (w:World),qdG B ND c=true->(qd8 ND c=true\/∀fr H a w cv,St ds E W F Rd0 β0 n fr H a w->E.pan (fr.take 8) cv H->KC (.panic [{v:=cv,recovered:=false}]) a w)->St ds E W F Rd0 β0 n fr H a w->vc P E B ND c K fr H->
  (∀e fr H a w,St ds E W F Rd0 β0 n fr H a w->K e fr H->KC e a w)->c.wp P KC a w:=by
 intro c
 induction c with
 |skip=>intro K KC fr H a w _ _ hs h hK;exact wp_skip (hK _ _ _ _ _ hs h)
 |region id ops draw=>
  intro K KC fr H a w hreg hp hs h hK;rw[vc]at h
  have main':∀E':Env,E'.w0=E.w0->E'.Fix=E.Fix->E'.pan=E.pan->twoN (ndOf ND id)=none->tlN (ndOf ND id)=none->∀fr H,St ds E W F Rd0 β0 n fr H a w->vcl P E' B ops (K .normal) (qaN (ndOf ND id)) ops.toList fr H->(Code.region id ops draw).wp P KC a w:=fun E' e0 eF eP htn htl fr H hs h=>by
   replace hs:=hs.env e0 eF;replace hK:∀e fr H a w,St ds E' W F Rd0 β0 n fr H a w->K e fr H->KC e a w:=fun e fr H a w hs hk=>hK e fr H a w (hs.env e0.symm eF.symm) hk;replace hp:qd8 ND (.region id ops draw)=true\/∀fr H a w cv,St ds E' W F Rd0 β0 n fr H a w->E'.pan (fr.take 8) cv H->KC (.panic [{v:=cv,recovered:=false}]) a w:=hp.imp (fun h=>h) fun h fr H a w cv hs hq=>h fr H a w cv (hs.env e0.symm eF.symm) (eP▸hq);cases draw with
   |false=>exact wp_region_list (qet (n:=n) (fun fr' H' a' w' hs' hk=>hK _ _ _ _ _ hs' hk) ops.toList _ fr H a w hp hs h)
   |true=>
    have hreg':regA B (qaN (ndOf ND id)) ops=true/\∀p∈qaN (ndOf ND id),p≠3:=by
     unfold qdG at hreg;rw[htn]at hreg;simp only[htl]at hreg;simpa using hreg
    exact qkF hm hreg'.1 hreg'.2 hs h (fun fr' H' a' w' hs' hk=>hK _ _ _ _ _ hs' hk)
  have main:=main' E rfl rfl rfl;split at h
  ·rename_i m hm2
   have htn:twoN (ndOf ND id)=none:=by
    unfold frzN at hm2;split at hm2
    ·rename_i hh;rw[hh];rfl
    ·cases hm2
   have htl:tlN (ndOf ND id)=none:=by
    unfold frzN at hm2;split at hm2
    ·rename_i hh;rw[hh];rfl
    ·cases hm2
   rcases h with h|⟨keep,H1,l,rfl,hm0,hB,hk,hall⟩
   ·exact main htn htl fr H hs h
   obtain⟨y,hs'⟩:=hs.frz (Nat.le_trans (hz id m hm2) hm0) hB keep hk;exact main htn htl _ _ hs' (hall y)
  ·rename_i hnone;split at h
   ·rename_i i k htn;unfold qdG at hreg;rw[htn]at hreg;simp only[Bool.and_eq_true,List.all_eq_true]at hreg;obtain⟨⟨hd,ht⟩,h3⟩:=hreg;subst hd;have h3':∀p∈(ndOf ND id).drop 3,p≠3:=fun p hp=>by simpa using h3 p hp
    obtain⟨_,_,⟨hik,hi1⟩,_,_,_⟩:=qfo ht;refine qiU hm ht hs ?_ (qnG _ h3' (fun j hj=>(qiN hik hi1).1 hj) h.2) (fun fr' H' a' w' hs' hk=>hK _ _ _ _ _ hs' hk);have:=qjs (all:=ops) (pf:=(ndOf ND id).drop 3) ops.toList 0 ((ndOf ND id).drop 3) h3' (fun j hj=>by simp) (fun j=>by simp) h.1;simpa[List.range_eq_range']using this
   ·rename_i htn;cases htl:tlN (ndOf ND id)with
    |none=>
     split at h
     ·obtain⟨S,h⟩:=h;exact main' {E with S:=S} rfl rfl rfl htn htl fr H hs h
     ·exact main htn htl fr H hs h
    |some m=>
     have hsn:setN (ndOf ND id)=false:=by
      unfold tlN at htl;split at htl
      ·rename_i hh;rw[hh];rfl
      ·cases htl
     rw[hsn]at h;unfold qdG at hreg;rw[htn]at hreg;simp only[htl,Bool.and_eq_true]at hreg;obtain⟨hd,ht⟩:=hreg;subst hd;exact qlY hm ht hp hs h (fun fr' H' a' w' hs' hk=>hK _ _ _ _ _ hs' hk)
 |seq x y ih1 ih2=>
  intro K KC fr H a w hreg hp hs h hK;rw[vc]at h;simp only[qdG,Bool.and_eq_true]at hreg;refine wp_seq (ih1 _ _ fr H a w hreg.1 (hp.imp (fun h=>by unfold qd8 at h;rw[Bool.and_eq_true]at h;exact h.1) id) hs h (fun e fr' H' a' w' hs' hk=>?_));cases e with
  |normal=>exact ih2 _ _ fr' H' a' w' hreg.2 (hp.imp (fun h=>by unfold qd8 at h;rw[Bool.and_eq_true]at h;exact h.2) id) hs' hk hK
  |_=>exact hK _ _ _ _ _ hs' hk
 |cond c x y ih1 ih2=>
  intro K KC fr H a w hreg hp hs h hK;rw[vc]at h;simp only[qdG,Bool.and_eq_true]at hreg;unfold qhz at h;split at h
  ·rename_i b hb;have hs':=hs;obtain⟨_,_,β,Rd,Ow,hS,_⟩:=hs';have hc:=(hS.eval rfl c).1;rw[hb]at hc;refine wp_cond (qbX hc) ?_;cases b with
   |true=>exact ih1 _ _ fr H a w hreg.1 (hp.imp (fun h=>by unfold qd8 at h;rw[Bool.and_eq_true]at h;exact h.1) id) hs (h.1 rfl) hK
   |false=>exact ih2 _ _ fr H a w hreg.2 (hp.imp (fun h=>by unfold qd8 at h;rw[Bool.and_eq_true]at h;exact h.2) id) hs (h.2 rfl) hK
  ·exact h.elim
 |block id c ih=>
  intro K KC fr H a w hreg hp hs h hK;rw[vc]at h;refine wp_block (ih _ _ fr H a w hreg (hp.imp (fun h=>h) fun h=>h) hs h (fun e fr' H' a' w' hs' hk=>?_));cases e with
  |exit id'=>
   simp only[Exit.inBlock];split
   ·rename_i he;simp only[he,if_true]at hk;exact hK _ _ _ _ _ hs' hk
   ·rename_i he;simp only[he,if_false]at hk;exact hK _ _ _ _ _ hs' hk
  |_=>exact hK _ _ _ _ _ hs' hk
 |loop c ih=>
  intro K KC fr H a w hreg hp hs h hK;rw[vc]at h;obtain⟨I,μ,fr1,H1,hn1,hn2,h0,hround⟩:=h;have hs:=hs.nilTo hn1 hn2
  let p:Act->World->Nat->Prop:=fun a w k=>∃fr H,St ds E W F Rd0 β0 n fr H a w/\I fr H/\μ fr H=k
  refine wp_loop (fun a w=>∃k,p a w k) (fun a w=>if h:∃k,p a w k then Classical.choose (least h)else 0) ⟨_,fr1,H1,hs,h0,rfl⟩ (fun a w hI=>?_);obtain⟨⟨fr,H,hs,hI',hμ⟩,_⟩:=Classical.choose_spec (least hI);refine ih _ _ fr H a w hreg (hp.imp (fun h=>h) fun h=>h) hs (hround fr H hI') (fun e fr' H' a' w' hs' hk=>?_);cases e with
  |normal=>
   obtain⟨fr1,H1,n1,n2,hk1,hk2⟩:=hk;have hp:p a' w' (μ fr1 H1):=⟨fr1,H1,hs'.nilTo n1 n2,hk1,rfl⟩
   refine⟨⟨_,hp⟩,?_⟩;rw[dif_pos hI,dif_pos ⟨_,hp⟩,<-hμ];exact Nat.lt_of_le_of_lt ((Classical.choose_spec (least ⟨_,hp⟩)).2 _ hp) hk2
  |_=>exact hK _ _ _ _ _ hs' hk
 |scope c ih=>
  intro K KC fr H a w hreg hp hs h hK;rw[vc]at h;refine wp_scope_straight (ih _ _ fr H a w hreg (hp.imp (fun h=>h) fun h=>h) hs h (fun e fr' H' a' w' hs' hk=>?_));cases e with
  |goto l=>exact hk.elim
  |_=>exact hK _ _ _ _ _ hs' hk
 |label l=>intro K KC fr H a w _ _ hs h hK;exact wp_label (hK _ _ _ _ _ hs h)
 |exit id=>intro K KC fr H a w _ _ hs h hK;exact wp_exit (hK _ _ _ _ _ hs h)
 |ret=>intro K KC fr H a w _ _ hs h hK;exact wp_ret (hK _ _ _ _ _ hs h)
 |_=>intro K KC fr H a w _ _ hs h hK;exact h.elim
end
def ares1(P:Program)(fr:List AV)(H:Hp):ResultVar->Option AV
 | .tmp t=>some (fr.getD t (.raw undef))
 | .cell a t=>match fr.getD a (.raw undef)with
  | .ptr p=>match aload P [] none t fr H (.ptr p)with
   |some (v,_)=>some v
   |none=>none
  |_=>none
def qiz(P:Program)(fr:List AV)(H:Hp):List ResultVar->Option (List AV)
 |[]=>some []
 |r::l=>match ares1 P fr H r,qiz P fr H l with
  |some v,some m=>some (v::m)
  |_,_=>none
def ares(P:Program)(fr:List AV)(H:Hp)(rs:List ResultVar):Option AV:=match rs with
 |[.tmp t]=>some (fr.getD t (.raw undef))
 |rs=>match qiz P fr H rs with
  |some [v]=>some v.dis
  |some l=>some (.tup (l.map AV.dis))
  |none=>none
def nilV(v0 v:AV):Prop:=nil1 v0 v\/∃l m,v0= .tup l/\v= .tup m/\nilL l m/\∀x∈m,x.free=true
def BndH(m:Nat)(H:Hp):Prop:=∀l∈H,∀x∈l,Bnd m x
def qcc(P:Program)(rs:List ResultVar)(n:Nat)(Q:AV->Hp->Prop):Exit->List AV->Hp->Prop
 | .normal,fr,H| .ret,fr,H=>∃v0 v H1 H' J,ares P fr H rs=some v0/\nilV v0 v/\nilH H H1/\H1=H'++J/\n<=H'.length/\BndH H'.length H'/\Bnd H'.length v/\Q v H'
 |_,_,_=>False
def okB0(P : Program)(B : List Tmp)(ND : List (Nat × List Nat))(fn : Func) : Bool := !(fn.name == "runtime.NumGoroutine") && P.follows .mixedOrders && (match fn.body with
 |some c=>qdG B ND c&&qd8 ND c
 |none=>false)
def okBX(P : Program)(B : List Tmp)(ND : List (Nat × List Nat))(fn : Func) : Bool := qoM ND && (!(fn.name == "runtime.NumGoroutine") && P.follows .mixedOrders && (match fn.body with
 |some c=>qdG B ND c
 |none=>false))
def okB(P:Program)(B:List Tmp)(ND:List (Nat×List Nat))(fn:Func):Bool:=qoM ND&&okB0 P B ND fn
section
variable {P:Program}{E:Env}{W:World}{F:Nat->Prop}{Rd0:Nat->Nat->Prop}{w w':World}{β β0 β':Nat->Nat}{Rd Rd':Nat->Nat->Prop}{Ow Ow':Nat->Option Hold}{fr fr':List AV}{H H':Hp}{tmps:Array Value}{N n:Nat}{ds:List Deferred}
theorem qpv{a:Act}(hS:S3 E W F Rd0 w β Rd Ow fr H a.tmps){r:ResultVar}{v:AV}(h:ares1 P fr H r=some v):∃c,(match r with
  | .tmp t=>pure (a.tmps.getD t undef)
  | .cell x t=>do loadVar t (<-asAddr (a.tmps.getD x undef)):Sem Value).run P w= .ok c w/\Rel w β Rd v c/\v.dis.free=true:=by
 unfold ares1 at h;split at h
 ·rename_i t;cases h;obtain⟨r1,r2,r3⟩:=hS.eval rfl (.tmp t);exact⟨_,rfl,r1,r3⟩
 ·rename_i x t;split at h
  ·rename_i p heq;have hx:Rel w β Rd (.ptr p) (a.tmps.getD x undef):=by have:=(hS.eval rfl (.tmp x)).1;rw[show aeval fr (.tmp x)= .ptr p from heq]at this;exact this
   split at h
   ·rename_i v' rest hl;cases h;obtain⟨fr2,H2⟩:=rest;have hl':aload P [] none t fr H (aeval fr (.tmp x))=some (v,fr2,H2):=by rw[show aeval fr (.tmp x)= .ptr p from heq];exact hl
    have key:=aload_val hS hl';obtain⟨c,h1,h2,h3⟩:=key;refine⟨c,?_,h2,h3⟩;cases p with
    |none=>simp[aload]at hl
    |some q=>
     obtain⟨i,o⟩:=q;have he:=qb4 hx;have h1':(Instr.loadAt t (a.tmps.getD x undef)).run P w= .ok c w:=h1;rw[he]at h1'⊢;simpa[Instr.loadAt,Instr.sureAddr,asAddr]using h1'
   ·cases h
  ·cases h
where
 aload_val {a:Act} (hS:S3 E W F Rd0 w β Rd Ow fr H a.tmps) {t:TypeId} {x:Operand} {v:AV} {fr':List AV} {H':Hp} (h:aload P [] none t fr H (aeval fr x)=some (v,fr',H')):∃c,(Instr.loadAt t (a.eval x)).run P w= .ok c w/\Rel w β Rd v c/\v.dis.free=true:=by
  obtain⟨hx1,hx2,hx3⟩:=hS.eval rfl x
  have single:∀(b p:Nat) (c:Value),trow P t=some false->w.cell? ⟨b,p,none⟩=some c->a.eval x= .pointer (some ⟨b,p,none⟩)->(Instr.loadAt t (a.eval x)).run P w= .ok c w:=fun b p c ht hc he=>by
   rw[he];simp[Instr.loadAt,Instr.sureAddr,loadVar,qdb ht,hc]
  unfold aload at h;split at h
  ·rename_i i p heq;rw[heq]at hx1 hx2;have he:a.eval x= .pointer (some ⟨β i,p,none⟩):=qb4 hx1;split at h
   ·rename_i l hl hrow;obtain⟨T,cs,h1,h2,h3⟩:=hS.hr.box i l hl;split at h
    ·rename_i n hn;split at h
     ·rename_i hcond;obtain⟨hle,hfr⟩:=hcond;cases h;have hlen:((cs.toList.drop p).take n).length=n:=by rw[zqJ,zqI];simp;omega
      obtain⟨d,hd1,hd2⟩:=qdW hrow
      have hrg:w.rangeAt (β i) p ((cs.toList.drop p).take n):=fun j u hu=>by
       have hj:j<n:=by have:=(zqC.1 hu).1;omega
       rw[zqG hj,zqN]at hu;rw[qaX h1];simpa using hu
      refine⟨_,by rw[he];exact run_loadAt_mid w (β i) p t ((cs.toList.drop p).take n) d hrg hd1 hd2 (by rw[hlen];exact hn),.agg _ _ (by simp;omega) (fun y hy=>?_) (fun j y u hy hu=>?_),rfl⟩
      ·obtain⟨z,hz,rfl⟩:=List.mem_map.1 hy;refine⟨List.all_eq_true.1 hfr z hz,?_⟩;obtain⟨j,hj⟩:=List.getElem?_of_mem (List.mem_of_mem_drop (List.mem_of_mem_take hz));have hj':j<cs.size:=by have:=(zqC.1 hj).1;omega
       have:=(h3 j z _ hj (zqM hj')).2.1;cases z<;>simp_all [AV.dis,AV.one]
      ·rw[List.getElem?_map]at hy;cases hz:((l.drop p).take n)[j]? with
       |none=>rw[hz]at hy;cases hy
       |some z=>
        rw[hz]at hy;simp at hy;subst hy;have hj:j<n:=by have:=(zqC.1 hz).1;rw[zqJ]at this;omega
        rw[zqG hj,zqN]at hz
        have hu':cs[p+j]? =some u:=by
         simp only[List.getElem?_toArray]at hu;rw[zqG hj,zqN]at hu;simpa using hu
        exact(h3 _ z u hz hu').1.dis
     ·cases h
    ·cases h
   ·rename_i l hl hrow;obtain⟨T,cs,h1,h2,h3⟩:=hS.hr.box i l hl;split at h
    ·rename_i y hy;have hp:p<cs.size:=by have:=(zqC.1 hy).1;omega
     have hc:cs[p]? =some cs[p]:=zqM hp;obtain⟨r1,r2,r3⟩:=h3 p y _ hy hc;have hrun:=single (β i) p cs[p] hrow ((qaX h1 p).trans hc) he;split at h
     ·rename_i hd;simp[inB]at h;obtain⟨rfl,_⟩:=h;exact⟨_,hrun,r1.dis,qbY hd⟩
     ·cases h
    ·cases h
   ·cases h
  ·rename_i l heq;rw[heq]at hx1 hx2;obtain⟨g,q,us,hxe,hl,hc,hf,hr⟩:=qiT hx1;split at h
   ·rename_i hrow;split at h
    ·rename_i hs;cases h;obtain⟨d,hd1,hd2⟩:=qdW hrow;have hrg:w.rangeAt g q us:=fun j u hu=>by rw[(hc j (zqC.1 hu).1).2];exact hu
     exact⟨_,by rw[hxe];exact run_loadAt_mid w g q t us d hrg hd1 hd2 (by rw[hl];exact hs),.agg _ _ (by simpa using hl) hf (fun j y u hy hu=>hr j y u hy (by simpa using hu)),rfl⟩
    ·cases h
   ·rename_i hrow;split at h
    ·rename_i y;cases h;have h0:=(hc 0 (by rw[hl];simp)).2;have hu:us[0]? =some (us[0]'(by rw[hl];simp)):=zqD _;rw[hu,Nat.add_zero]at h0;exact⟨_,single g q _ hrow h0 hxe,hr 0 v _ rfl hu,qaR (hf v (by simp)).1⟩
    ·cases h
   ·cases h
  ·cases h
theorem qhx{a:Act}(hS:S3 E W F Rd0 w β Rd Ow fr H a.tmps):∀(rs:List ResultVar) (l:List AV),qiz P fr H rs=some l->∃cs:List Value,(rs.mapM fun r=>(match r with
  | .tmp t=>pure (a.tmps.getD t undef)
  | .cell x t=>do loadVar t (<-asAddr (a.tmps.getD x undef)):Sem Value)).run P w= .ok cs w/\cs.length=l.length/\(∀x∈l,x.dis.free=true)/\∀(j:Nat) x u,l[j]? =some x->cs[j]? =some u->Rel w β Rd x u
 |[],l,h=>by cases h;exact⟨[],rfl,rfl,by simp,by simp⟩
 |r::rs,l,h=>by
  rw[qiz]at h;split at h
  ·rename_i v m h1 h2;cases h;obtain⟨c,hc,hr,hd⟩:=qpv hS h1;obtain⟨cs,i1,i2,i3,i4⟩:=qhx hS rs m h2;refine⟨c::cs,?_,by simp[i2],fun x hx=>?_,fun j x u hx hu=>?_⟩
   ·rw[List.mapM_cons,Sem.run_bind,hc];simp only[Result.andThen_ok];rw[Sem.run_bind,i1];rfl
   ·rcases List.mem_cons.1 hx with rfl|hx;exact hd;exact i3 x hx
   ·cases j with
    |zero=>simp at hx hu;subst hx;subst hu;exact hr
    |succ j=>exact i4 j x u (by simpa using hx) (by simpa using hu)
  ·cases h
theorem qhw{a:Act}(hS:S3 E W F Rd0 w β Rd Ow fr H a.tmps){fn:Func}{v:AV}(h:ares P fr H fn.results.toList=some v):∃c Ow' fr',(results fn a.tmps).run P w= .ok c w/\S3 E W F Rd0 w β Rd Ow' fr' H a.tmps/\Rel w β Rd v c/\v.dis.free=true/\∀g,own0 v c=some g->Ow' g=some (.slot 0):=by
 have hres:(results fn a.tmps)=(do
   let vs<-fn.results.mapM fun
    | .tmp t=>pure (a.tmps.getD t undef)
    | .cell x t=>do loadVar t (<-asAddr (a.tmps.getD x undef))
   pure (if h:vs.size=1 then vs[0]else .tuple vs)):=rfl
 unfold ares at h;split at h
 ·rename_i t hrs;cases h;have hr:fn.results= #[.tmp t]:=by simpa using congrArg List.toArray hrs
  obtain⟨r1,r2,r3⟩:=hS.eval rfl (.tmp t);obtain⟨Ow',hT,hO⟩:=hS.take rfl (.tmp t) (some (.slot 0));refine⟨_,Ow',_,?_,hT,r1,r3,hO⟩;rw[hres,hr];simp[Act.eval]
 ·rename_i hne;split at h
  ·rename_i x hl;cases h;obtain⟨cs,i1,i2,i3,i4⟩:=qhx hS fn.results.toList [x] hl
   match cs,i2 with
   |[c],_=>
    refine⟨c,Ow,fr,?_,hS,(i4 0 x c rfl rfl).dis,qbY (i3 x (by simp)),fun g hg=>by rw[qaw (i3 x (by simp))]at hg;cases hg⟩;rw[hres];rw[Sem.run_bind,Array.mapM_eq_mapM_toList,Sem.run_map,i1];simp
  ·rename_i l hne2 hl;cases h;obtain⟨cs,i1,i2,i3,i4⟩:=qhx hS fn.results.toList l hl;refine⟨.tuple cs.toArray,Ow,fr,?_,hS,.tup _ _ (by simp[i2]) (fun y hy=>?_) (fun j y u hy hu=>?_),rfl,fun g hg=>by cases hg⟩
   ·rw[hres];rw[Sem.run_bind,Array.mapM_eq_mapM_toList,Sem.run_map,i1]
    have hsz:¬cs.length=1:=by
     rw[i2];intro h1
     match l,h1 with
     |[x],_=>exact hne2 x rfl
    simp[hsz]
   ·obtain⟨x,hx,rfl⟩:=List.mem_map.1 hy;exact i3 x hx
   ·rw[List.getElem?_map]at hy;cases hx:l[j]? with
    |none=>rw[hx]at hy;cases hy
    |some x=>
     rw[hx]at hy;cases hy;exact(i4 j x u hx (by simpa using hu)).dis
  ·cases h
theorem qmg{v0 v:AV}{c:Value}(h:nilV v0 v)(hr:Rel w β Rd v0 c)(hd:v0.dis.free=true):Rel w β Rd v c/\v.dis.free=true/\∀g,own0 v c=some g->own0 v0 c=some g:=by
 rcases h with h|⟨l,m,rfl,rfl,hn,hf⟩
 ·rcases h with rfl|⟨rfl,b,k,rfl⟩
  ·exact⟨hr,hd,fun _ h=>h⟩
  ·obtain⟨q1,_,q3,_,q5⟩:=qea (N:=0) (.inr ⟨rfl,b,k,rfl⟩:nil1 .nil (.sl b k [])) hr .nil;exact⟨q1,q5 hd,q3⟩
 ·obtain⟨e1,a1⟩:=qdJ hn;cases hr with
  |tup _ vs hl hf0 hr=>
   refine⟨.tup m vs (by omega) hf (fun j x u hx hu=>?_),rfl,fun g hg=>by cases hg⟩;obtain⟨x0,hx0,hnx⟩:=a1 j x hx;have:=hr j x0 u hx0 hu;rcases hnx with rfl|⟨rfl,b,k,rfl⟩
   ·exact this
   ·exact(qea (N:=0) (.inr ⟨rfl,b,k,rfl⟩:nil1 .nil (.sl b k [])) this .nil).1
theorem qfG{f:FuncId}{fn:Func}{c:Code}(hf:P.funcs[f]? =some fn)(hb:fn.body=some c)(B:List Tmp)(ND:List (Nat×List Nat))(hok:okB0 P B ND fn=true){args:List AV}{Q:AV->Hp->Prop}
  (hz:∀id m,frzN (ndOf ND id)=some m->H.length<=m) (h:BndH H.length H->vc P E B ND c (qcc P fn.results.toList H.length Q) (args++List.replicate (fn.ntmps-args.length) (.raw undef)) H):PC P E f args H Q:=by
 unfold okB0 at hok;rw[hb]at hok;simp only[Bool.and_eq_true,Bool.not_eq_true']at hok;obtain⟨⟨hname,hm⟩,hreg,hpan⟩:=hok;refine⟨by simp[hasB,hf,hb,hname],fun w β Rd Ow cargs hr hcell hsz hargs=>?_⟩;refine calls_of_wp hf hb ?_
 have hS:S3 E w (fun b=>b<w.heap.size/\(∀i,i<H.length->β i≠b)/\Ow b=none) Rd w β Rd Ow (args++List.replicate (fn.ntmps-args.length) (.raw undef)) H (cargs++Array.replicate (fn.ntmps-cargs.size) undef):=by
  refine⟨hr,⟨by simp[hsz],fun t x u hx hu=>?_⟩,⟨fun b hb=>hb.1,fun _ _=>rfl,fun b hb=>hb.2.2,fun b i hb hi=>hb.2.1 i hi,fun _ _ _ h=>h,rfl,rfl,rfl,Nat.le_refl _,fun _ _ h=>⟨h,rfl⟩⟩,fun x hx=>?_⟩
  ·by_cases ht:t<args.length
   ·rw[zqA ht]at hx;rw[Array.getElem?_append_left (by omega)]at hu;obtain⟨r1,r2,r3⟩:=hargs t x u hx hu;exact⟨r1,r2,fun g hg=>by rw[qaw r3]at hg;cases hg⟩
   ·rw[zqB (by omega),List.getElem?_replicate]at hx;rw[Array.getElem?_append_right (by omega),Array.getElem?_replicate]at hu;split at hx
    ·cases hx;split at hu
     ·cases hu;exact⟨.raw _,.raw _,fun g hg=>by cases hg⟩
     ·cases hu
    ·cases hx
  ·rcases List.mem_append.1 hx with h1|h1
   ·obtain⟨j,hj⟩:=List.getElem?_of_mem h1;have hj':j<cargs.size:=by have:=(zqC.1 hj).1;omega
    exact qaR (hargs j x _ hj (zqM hj')).2.2
   ·rw[(List.mem_replicate.1 h1).2];rfl
 refine qqg (n:=H.length) (β0:=β) hm hz c _ _ _ H _ w hreg (.inl hpan) ⟨rfl,Nat.le_refl _,β,Rd,Ow,hS,fun _ _=>rfl⟩ (h hr.bnd) (fun e fr H1 a w' hs hk=>?_)
 have fin:∀v0 v H2 H' J,a.defers=[]->ares P fr H1 fn.results.toList=some v0->nilV v0 v->nilH H1 H2->H2=H'++J->H.length<=H'.length->BndH H'.length H'->Bnd H'.length v->Q v H'->
   a.defers=[]/\∃c,(results fn a.tmps).run P w'= .ok c w'/\∃c' v H' β' Rd' Ow',Ending.returned c= .returned c'/\Q v H'/\Post E w β Rd Ow H w' β' Rd' Ow' H' v c':=by
  intro v0 v H2 H' J hd hres hnv hnH hH hlen hbH hbv hq;obtain⟨_,_,β',Rd',Ow',hS',hβ⟩:=hs;obtain⟨c,Ow2,fr2,hrun,hS2,hrel0,hne0,hown0⟩:=qhw hS' hres;have hS2:=hS2.nilTo (qa8 _) hnH;obtain⟨hrel,hne,hown1⟩:=qmg hnv hrel0 hne0;have hown:∀g,own0 v c=some g->Ow2 g=some (.slot 0):=fun g hg=>hown0 g (hown1 g hg);have hsub:∀i l,H'[i]? =some l->H2[i]? =some l:=fun i l hl=>by rw[hH,zqA (zqC.1 hl).1];exact hl
  have hle:H'.length<=H2.length:=by rw[hH];simp
  refine⟨hd,c,hrun,c,v,H',β',Rd',Ow2,rfl,hq,⟨hrel,hbv,hown,hne,⟨fun i l hl=>hS2.hr.box i l (hsub i l hl),fun i j hi hj=>hS2.hr.inj i j (by omega) (by omega),fun i hi=>hS2.hr.sep i (by omega),hS2.hr.ows,hS2.hr.rds,hbH,fun b hb=>?_,fun i l t hl h0=>hS2.hr.bld i l t (hsub i l hl) h0⟩,
   hβ,hlen,fun g o hg=>hS2.fo.keep g o hg,fun b hb h1 h2=>?_,hS2.fo.os,hS2.fo.tape,hS2.fo.output,hS2.fo.size⟩⟩
  ·obtain⟨f1,f2,f3,f4⟩:=hS2.hr.fix b hb;exact⟨f1,f2,fun i hi=>f3 i (by omega),f4⟩
  ·have hF:b<w.heap.size/\(∀i,i<H.length->β i≠b)/\Ow b=none:=⟨hb,h1,h2⟩
   exact⟨hS2.fo.same b hF,hS2.fo.own b hF,fun i hi=>hS2.fo.box b i hF (by omega),fun o ho=>hS2.fo.rd b o hF ho⟩
 obtain⟨hd,_⟩:=hs;cases e with
 |normal=>
  obtain⟨v0,v,H2,H',J,h1,h2,h2',h3,h4,h5,h6,h7⟩:=hk;exact fin v0 v H2 H' J hd h1 h2 h2' h3 h4 h5 h6 h7
 |ret=>
  obtain⟨v0,v,H2,H',J,h1,h2,h2',h3,h4,h5,h6,h7⟩:=hk;exact fin v0 v H2 H' J hd h1 h2 h2' h3 h4 h5 h6 h7
 |_=>exact hk.elim
theorem qdr:∀{ND:List (Nat×List Nat)},qoM ND=true->∀id m,frzN (ndOf ND id)≠some m
 |[],_,id,m=>nofun
 |(i,l)::r,h,id,m=>by
  unfold qoM at h;rw[List.all_cons,Bool.and_eq_true]at h;unfold ndOf;split
  ·intro e;have:=h.1;simp only at this;rw[e]at this;cases this
  ·exact qdr (ND:=r) h.2 id m
theorem qab{f:FuncId}{fn:Func}{c:Code}(hf:P.funcs[f]? =some fn)(hb:fn.body=some c)(B:List Tmp)(ND:List (Nat×List Nat))(hok:okB P B ND fn=true){args:List AV}{Q:AV->Hp->Prop}
  (h:BndH H.length H->vc P E B ND c (qcc P fn.results.toList H.length Q) (args++List.replicate (fn.ntmps-args.length) (.raw undef)) H):PC P E f args H Q:=by
 unfold okB at hok;rw[Bool.and_eq_true]at hok;exact qfG hf hb B ND hok.2 (fun id m hm=>absurd hm (qdr hok.1 id m)) h
theorem PC.env{E':Env}(h0:E'.w0=E.w0)(hF:E'.Fix=E.Fix){f:FuncId}{args:List AV}{H:Hp}{Q:AV->Hp->Prop}(h:PC P E' f args H Q):PC P E f args H Q:=
 ⟨h.1,fun w β Rd Ow cargs h1 h2 h3 h4=>(h.2 w β Rd Ow cargs (h1.env h0 hF) h2 h3 h4).mono fun e w' ⟨c,v,H',β',Rd',Ow',he,hQ,hp⟩=>
  ⟨c,v,H',β',Rd',Ow',he,hQ,⟨hp.rel,hp.bnd,hp.own,hp.ne,hp.hr.env h0.symm hF.symm,hp.old,hp.len,hp.keep,hp.frame,hp.os,hp.tape,hp.output,hp.size⟩⟩⟩
theorem qoC{f:FuncId}{fn:Func}{c:Code}(hf:P.funcs[f]? =some fn)(hb:fn.body=some c)(B:List Tmp)(ND:List (Nat×List Nat))(hok:okBX P B ND fn=true){args:List AV}{Q:AV->Hp->Prop}{R:Value->Hp->Prop}(hR:∀l c H',E.pan l c H'->R c H')
  (h:BndH H.length H->vc P E B ND c (qcc P fn.results.toList H.length Q) (args++List.replicate (fn.ntmps-args.length) (.raw undef)) H):PX P E f args H Q R:=by
 unfold okBX at hok;rw[Bool.and_eq_true]at hok;have hz:∀id m,frzN (ndOf ND id)=some m->H.length<=m:=fun id m hm=>absurd hm (qdr hok.1 id m);replace hok:=hok.2;rw[hb]at hok;simp only[Bool.and_eq_true,Bool.not_eq_true']at hok;obtain⟨⟨hname,hm⟩,hreg⟩:=hok;refine⟨by simp[hasB,hf,hb,hname],fun w β Rd Ow cargs hr hcell hsz hargs=>?_⟩;refine calls_of_wp hf hb ?_
 have hS:S3 E w (fun b=>b<w.heap.size/\(∀i,i<H.length->β i≠b)/\Ow b=none) Rd w β Rd Ow (args++List.replicate (fn.ntmps-args.length) (.raw undef)) H (cargs++Array.replicate (fn.ntmps-cargs.size) undef):=by
  refine⟨hr,⟨by simp[hsz],fun t x u hx hu=>?_⟩,⟨fun b hb=>hb.1,fun _ _=>rfl,fun b hb=>hb.2.2,fun b i hb hi=>hb.2.1 i hi,fun _ _ _ h=>h,rfl,rfl,rfl,Nat.le_refl _,fun _ _ h=>⟨h,rfl⟩⟩,fun x hx=>?_⟩
  ·by_cases ht:t<args.length
   ·rw[zqA ht]at hx;rw[Array.getElem?_append_left (by omega)]at hu;obtain⟨r1,r2,r3⟩:=hargs t x u hx hu;exact⟨r1,r2,fun g hg=>by rw[qaw r3]at hg;cases hg⟩
   ·rw[zqB (by omega),List.getElem?_replicate]at hx;rw[Array.getElem?_append_right (by omega),Array.getElem?_replicate]at hu;split at hx
    ·cases hx;split at hu
     ·cases hu;exact⟨.raw _,.raw _,fun g hg=>by cases hg⟩
     ·cases hu
    ·cases hx
  ·rcases List.mem_append.1 hx with h1|h1
   ·obtain⟨j,hj⟩:=List.getElem?_of_mem h1;have hj':j<cargs.size:=by have:=(zqC.1 hj).1;omega
    exact qaR (hargs j x _ hj (zqM hj')).2.2
   ·rw[(List.mem_replicate.1 h1).2];rfl
 refine qqg (n:=H.length) (β0:=β) hm hz c _ _ _ H _ w hreg (.inr ?_) ⟨rfl,Nat.le_refl _,β,Rd,Ow,hS,fun _ _=>rfl⟩ (h hr.bnd) (fun e fr H1 a w' hs hk=>?_)
 ·intro fr H1 a w' cv hs hk;obtain⟨hd,hn,β',Rd',Ow',hS',hβ⟩:=hs;refine⟨hd,.inr ⟨cv,H1,β',Rd',Ow',rfl,hR _ _ _ hk,⟨.raw _,.raw _,fun g hg=>(by cases hg),rfl,hS'.hr,hβ,hn,fun g o hg=>hS'.fo.keep g o hg,fun b hb h1 h2=>?_,hS'.fo.os,hS'.fo.tape,hS'.fo.output,hS'.fo.size⟩⟩⟩;have hF:b<w.heap.size/\(∀i,i<H.length->β i≠b)/\Ow b=none:=⟨hb,h1,h2⟩
  exact⟨hS'.fo.same b hF,hS'.fo.own b hF,fun i hi=>hS'.fo.box b i hF hi,fun o ho=>hS'.fo.rd b o hF ho⟩
 have fin:∀v0 v H2 H' J,a.defers=[]->ares P fr H1 fn.results.toList=some v0->nilV v0 v->nilH H1 H2->H2=H'++J->H.length<=H'.length->BndH H'.length H'->Bnd H'.length v->Q v H'->
   a.defers=[]/\∃c,(results fn a.tmps).run P w'= .ok c w'/\((∃c' v H' β' Rd' Ow',Ending.returned c= .returned c'/\Q v H'/\Post E w β Rd Ow H w' β' Rd' Ow' H' v c')\/∃c' H' β' Rd' Ow',Ending.returned c= .panicked [{v:=c',recovered:=false}]/\R c' H'/\Post E w β Rd Ow H w' β' Rd' Ow' H' (.raw undef) undef):=by
  intro v0 v H2 H' J hd hres hnv hnH hH hlen hbH hbv hq;obtain⟨_,_,β',Rd',Ow',hS',hβ⟩:=hs;obtain⟨c,Ow2,fr2,hrun,hS2,hrel0,hne0,hown0⟩:=qhw hS' hres;have hS2:=hS2.nilTo (qa8 _) hnH;obtain⟨hrel,hne,hown1⟩:=qmg hnv hrel0 hne0;have hown:∀g,own0 v c=some g->Ow2 g=some (.slot 0):=fun g hg=>hown0 g (hown1 g hg);have hsub:∀i l,H'[i]? =some l->H2[i]? =some l:=fun i l hl=>by rw[hH,zqA (zqC.1 hl).1];exact hl
  have hle:H'.length<=H2.length:=by rw[hH];simp
  refine⟨hd,c,hrun,.inl ⟨c,v,H',β',Rd',Ow2,rfl,hq,⟨hrel,hbv,hown,hne,⟨fun i l hl=>hS2.hr.box i l (hsub i l hl),fun i j hi hj=>hS2.hr.inj i j (by omega) (by omega),fun i hi=>hS2.hr.sep i (by omega),hS2.hr.ows,hS2.hr.rds,hbH,fun b hb=>?_,fun i l t hl h0=>hS2.hr.bld i l t (hsub i l hl) h0⟩,
   hβ,hlen,fun g o hg=>hS2.fo.keep g o hg,fun b hb h1 h2=>?_,hS2.fo.os,hS2.fo.tape,hS2.fo.output,hS2.fo.size⟩⟩⟩
  ·obtain⟨f1,f2,f3,f4⟩:=hS2.hr.fix b hb;exact⟨f1,f2,fun i hi=>f3 i (by omega),f4⟩
  ·have hF:b<w.heap.size/\(∀i,i<H.length->β i≠b)/\Ow b=none:=⟨hb,h1,h2⟩
   exact⟨hS2.fo.same b hF,hS2.fo.own b hF,fun i hi=>hS2.fo.box b i hF (by omega),fun o ho=>hS2.fo.rd b o hF ho⟩
 obtain⟨hd,_⟩:=hs;cases e with
 |normal=>
  obtain⟨v0,v,H2,H',J,h1,h2,h2',h3,h4,h5,h6,h7⟩:=hk;exact fin v0 v H2 H' J hd h1 h2 h2' h3 h4 h5 h6 h7
 |ret=>
  obtain⟨v0,v,H2,H',J,h1,h2,h2',h3,h4,h5,h6,h7⟩:=hk;exact fin v0 v H2 H' J hd h1 h2 h2' h3 h4 h5 h6 h7
 |_=>exact hk.elim
theorem PX.env{E':Env}(h0:E'.w0=E.w0)(hF:E'.Fix=E.Fix){f:FuncId}{args:List AV}{H:Hp}{Q:AV->Hp->Prop}{R:Value->Hp->Prop}(h:PX P E' f args H Q R):PX P E f args H Q R:=
 ⟨h.1,fun w β Rd Ow cargs h1 h2 h3 h4=>(h.2 w β Rd Ow cargs (h1.env h0 hF) h2 h3 h4).mono fun e w' hh=>hh.imp (fun⟨c,v,H',β',Rd',Ow',he,hQ,hp⟩=>
  ⟨c,v,H',β',Rd',Ow',he,hQ,⟨hp.rel,hp.bnd,hp.own,hp.ne,hp.hr.env h0.symm hF.symm,hp.old,hp.len,hp.keep,hp.frame,hp.os,hp.tape,hp.output,hp.size⟩⟩) fun⟨c,H',β',Rd',Ow',he,hQ,hp⟩=>
  ⟨c,H',β',Rd',Ow',he,hQ,⟨hp.rel,hp.bnd,hp.own,hp.ne,hp.hr.env h0.symm hF.symm,hp.old,hp.len,hp.keep,hp.frame,hp.os,hp.tape,hp.output,hp.size⟩⟩⟩
theorem qbj(R:Value->Hp->Prop)(S:Nat->Prop){f:FuncId}{fn:Func}{c:Code}(hf:P.funcs[f]? =some fn)(hb:fn.body=some c)(B:List Tmp)(ND:List (Nat×List Nat))(hok:okBX P B ND fn=true){args:List AV}{H:Hp}{Q:AV->Hp->Prop}
  (h:∀E':Env,(E'.pan=fun _=>R)->E'.S=S->E'.w0=E.w0->E'.Fix=E.Fix->BndH H.length H->vc P E' B ND c (qcc P fn.results.toList H.length Q) (args++List.replicate (fn.ntmps-args.length) (.raw undef)) H):PX P E f args H Q R:=
 PX.env (E:=E) (E':={E with pan:=fun _=>R,S:=S}) rfl rfl (qoC (E:={E with pan:=fun _=>R,S:=S}) hf hb B ND hok (fun _ _ _ h=>h) (h _ rfl rfl rfl rfl))
end
def qai(P:Program)(E:Env)(B:List Tmp)(all:Array Oper)(K:List AV->Hp->Prop)(pu:List Nat)(rest:List Oper)(d:Option Tmp)(fr:List AV)(p:Nat)(H0:Hp)(v:AV)(H:Hp):Prop:=KP p E.S H0 H/\vcl P E B all K pu rest (aput fr d v) H
def Kseq(P:Program)(E:Env)(B:List Tmp)(ND:List (Nat×List Nat))(b:Code)(K:Exit->List AV->Hp->Prop):Exit->List AV->Hp->Prop:=fun e fr H=>match e with
 | .normal=>vc P E B ND b K fr H
 |e=>K e fr H
def Kblk(id:Nat)(K:Exit->List AV->Hp->Prop):Exit->List AV->Hp->Prop:=fun e fr H=>match e with
 | .exit id'=>if id'=id then K .normal fr H else K (.exit id') fr H
 |e=>K e fr H
def Kscp(K:Exit->List AV->Hp->Prop):Exit->List AV->Hp->Prop:=fun e fr H=>match e with
 | .goto _=>False
 |e=>K e fr H
def qn5(I:List AV->Hp->Prop)(m:Nat)(μ:List AV->Hp->Nat)(K:Exit->List AV->Hp->Prop):Exit->List AV->Hp->Prop:=fun e fr H=>match e with
 | .normal=>∃fr1 H1,nilL fr fr1/\nilH H H1/\I fr1 H1/\μ fr1 H1<m
 |e=>K e fr H
def VGo(w:Option Bool)(P:Program)(E:Env)(B:List Tmp)(all:Array Oper)(K:List AV->Hp->Prop)(p:Nat)(pu:List Nat)(o:Oper)(rest:List Oper)(fr:List AV)(H:Hp):Prop:=
 qdA w (qdP (acall fr o) (fun f args=>VPC P E p f args H fun v H'=>vcl P E B all K pu rest (aput fr o.dst v) H') (LP p E.S fr o/\qgl (aop P B fr H o) fun v fr' H'=>vcl P E B all K pu rest (aput fr' o.dst v) H')) (vcl P E B all K pu rest (aput fr o.dst (.raw undef)) H)
def VTry(c:Option (FuncId×List AV))(P:Program)(E:Env)(B:List Tmp)(all:Array Oper)(K:List AV->Hp->Prop)(p:Nat)(pu:List Nat)(o:Oper)(rest:List Oper)(fr:List AV)(H:Hp):Prop:=
 qdP c (fun f args=>VPC P E p f args H fun v H'=>vcl P E B all K pu rest (aput fr o.dst v) H') (LP p E.S fr o/\qgl (aop P B fr H o) fun v fr' H'=>vcl P E B all K pu rest (aput fr' o.dst v) H')
def VOp(r:Option (AV×List AV×Hp))(P:Program)(E:Env)(B:List Tmp)(all:Array Oper)(K:List AV->Hp->Prop)(pu:List Nat)(rest:List Oper)(d:Option Tmp):Prop:=qgl r fun v fr' H'=>vcl P E B all K pu rest (aput fr' d v) H'
def VXGo(w:Option Bool)(P:Program)(E:Env)(B:List Tmp)(all:Array Oper)(K:List AV->Hp->Prop)(pu:List Nat)(o:Oper)(rest:List Oper)(fr:List AV)(H:Hp):Prop:=
 qdA w (qdP (acall fr o) (fun f args=>PX P E f args H (fun v H'=>KP 2 E.S H H'/\vcl P E B all K pu rest (aput fr o.dst v) H') (E.pan (fr.take 8))) (qnw (abx P fr H o) fr o.dst (vcl P E B all K pu rest))) (vcl P E B all K pu rest (aput fr o.dst (.raw undef)) H)
def qrr(c:Option (FuncId×List AV))(P:Program)(E:Env)(B:List Tmp)(all:Array Oper)(K:List AV->Hp->Prop)(pu:List Nat)(o:Oper)(rest:List Oper)(fr:List AV)(H:Hp):Prop:=
 qdP c (fun f args=>PX P E f args H (fun v H'=>KP 2 E.S H H'/\vcl P E B all K pu rest (aput fr o.dst v) H') (E.pan (fr.take 8))) (qnw (abx P fr H o) fr o.dst (vcl P E B all K pu rest))
def VXOp(r:Option XR)(P:Program)(E:Env)(B:List Tmp)(all:Array Oper)(K:List AV->Hp->Prop)(pu:List Nat)(rest:List Oper)(d:Option Tmp)(fr:List AV):Prop:=qnw r fr d (vcl P E B all K pu rest)
def VGrow(n:Nat)(f:Nat->AV×Hp)(P:Program)(E:Env)(B:List Tmp)(all:Array Oper)(K:List AV->Hp->Prop)(pu:List Nat)(rest:List Oper)(d:Option Tmp)(fr:List AV):Prop:=∀c,n<=c->c<=maxLen->vcl P E B all K pu rest (aput fr d (f c).1) (f c).2
def qrx(p q:Prop):Prop:=p/\q
def VS(P:Program)(E:Env)(B:List Tmp)(ops:Array Oper)(K:List AV->Hp->Prop)(pu:List Nat)(fr:List AV)(H:Hp):Prop:=∃S:Nat->Prop,vcl P {E with S:=S} B ops K (qaN pu) ops.toList fr H
@[congr] theorem VS_congr {P:Program} {E:Env} {B:List Tmp} {ops:Array Oper} {K:List AV->Hp->Prop} {pu:List Nat} {fr fr':List AV} {H H':Hp} (h1:fr=fr') (h2:H=H'):VS P E B ops K pu fr H=VS P E B ops K pu fr' H':=by rw[h1,h2]
def VSet(o:Bool)(P:Program)(E:Env)(B:List Tmp)(ops:Array Oper)(K:List AV->Hp->Prop)(pu:List Nat)(fr:List AV)(H:Hp):Prop:=match o with
 |true=>VS P E B ops K pu fr H
 |false=>vcl P E B ops K (qaN pu) ops.toList fr H
@[congr] theorem VSet_congr {o o':Bool} {P:Program} {E:Env} {B:List Tmp} {ops:Array Oper} {K:List AV->Hp->Prop} {pu:List Nat} {fr:List AV} {H:Hp} (h1:o=o'):VSet o P E B ops K pu fr H=VSet o' P E B ops K pu fr H:=by rw[h1]
theorem qnW(P:Program)(E:Env)(B:List Tmp)(ops:Array Oper)(K:List AV->Hp->Prop)(pu:List Nat)(fr:List AV)(H:Hp):VSet true P E B ops K pu fr H=VS P E B ops K pu fr H:=_root_.id rfl
theorem qlu(P:Program)(E:Env)(B:List Tmp)(ops:Array Oper)(K:List AV->Hp->Prop)(pu:List Nat)(fr:List AV)(H:Hp):VSet false P E B ops K pu fr H=vcl P E B ops K (qaN pu) ops.toList fr H:=_root_.id rfl
theorem qot:setN []=false:=rfl
theorem setN_0(l:List Nat):setN (0::l)=false:=rfl
theorem setN_1(l:List Nat):setN (1::l)=false:=rfl
theorem setN_2(l:List Nat):setN (2::l)=false:=rfl
theorem setN_3(l:List Nat):setN (3::l)=false:=rfl
theorem setN_4(l:List Nat):setN (4::l)=false:=rfl
theorem setN_8(l:List Nat):setN (8::l)=false:=rfl
theorem setN_9(l:List Nat):setN (9::l)=true:=rfl
def VTwo(o:Option (Nat×Nat))(P:Program)(E:Env)(B:List Tmp)(ops:Array Oper)(K:List AV->Hp->Prop)(pu:List Nat)(fr:List AV)(H:Hp):Prop:=match o with
 |some (i,k)=>qrx (vcl P E B ops K (pu.drop 3) ops.toList fr H) (vcl P E B ops K (puQ (pu.drop 3) (swP ops.size i k)) (opsQ ops (swP ops.size i k)) fr H)
 |none=>VSet (setN pu) P E B ops K pu fr H
@[congr] theorem VTwo_congr {o o':Option (Nat×Nat)} {P:Program} {E:Env} {B:List Tmp} {ops:Array Oper} {K:List AV->Hp->Prop} {pu pu':List Nat} {fr:List AV} {H:Hp} (h1:o=o') (h2:pu=pu'):VTwo o P E B ops K pu fr H=VTwo o' P E B ops K pu' fr H:=by rw[h1,h2]
theorem qnU(P:Program)(E:Env)(B:List Tmp)(ops:Array Oper)(K:List AV->Hp->Prop)(pu:List Nat)(fr:List AV)(H:Hp):VTwo none P E B ops K pu fr H=VSet (setN pu) P E B ops K pu fr H:=_root_.id rfl
theorem qnT(i k:Nat)(P:Program)(E:Env)(B:List Tmp)(ops:Array Oper)(K:List AV->Hp->Prop)(pu:List Nat)(fr:List AV)(H:Hp):VTwo (some (i,k)) P E B ops K pu fr H=qrx (vcl P E B ops K (pu.drop 3) ops.toList fr H) (vcl P E B ops K (puQ (pu.drop 3) (swP ops.size i k)) (opsQ ops (swP ops.size i k)) fr H):=_root_.id rfl
theorem qoi:twoN []=none:=rfl
theorem twoN_0(l:List Nat):twoN (0::l)=none:=rfl
theorem twoN_1(l:List Nat):twoN (1::l)=none:=rfl
theorem twoN_2(l:List Nat):twoN (2::l)=none:=rfl
theorem twoN_3(l:List Nat):twoN (3::l)=none:=rfl
theorem twoN_4(l:List Nat):twoN (4::l)=none:=rfl
theorem twoN_7(i k:Nat)(l:List Nat):twoN (7::i::k::l)=some (i,k):=rfl
theorem twoN_8(l:List Nat):twoN (8::l)=none:=rfl
theorem twoN_9(l:List Nat):twoN (9::l)=none:=rfl
theorem frzN_9(l:List Nat):frzN (9::l)=none:=by cases l<;>rfl
theorem qmQ(l:List Nat):qaN (9::l)=l:=by cases l<;>rfl
theorem frzN_8(l:List Nat):frzN (8::l)=none:=by cases l<;>rfl
theorem qji:qaN []=[]:=rfl
theorem qmX(l:List Nat):qaN (0::l)=0::l:=by cases l<;>rfl
theorem qmW(l:List Nat):qaN (1::l)=1::l:=by cases l<;>rfl
theorem qmV(l:List Nat):qaN (2::l)=2::l:=by cases l<;>rfl
theorem qmU(l:List Nat):qaN (3::l)=3::l:=by cases l<;>rfl
theorem qmT(l:List Nat):qaN (4::l)=4::l:=by cases l<;>rfl
theorem qmR(m:Nat)(l:List Nat):qaN (8::m::l)=l:=rfl
theorem frzN_4(l:List Nat):frzN (4::l)=none:=by cases l<;>rfl
theorem frzN_7(l:List Nat):frzN (7::l)=none:=by cases l<;>rfl
def VReg(o:Option Nat)(P:Program)(E:Env)(B:List Tmp)(ops:Array Oper)(K:List AV->Hp->Prop)(pu:List Nat)(fr:List AV)(H:Hp):Prop:=match o with
 |some m=>VFrz m (fun fr H=>vcl P E B ops K (qaN pu) ops.toList fr H) fr H
 |none=>VTwo (twoN pu) P E B ops K pu fr H
@[congr] theorem VReg_congr {o o':Option Nat} {P:Program} {E:Env} {B:List Tmp} {ops:Array Oper} {K:List AV->Hp->Prop} {pu pu':List Nat} {fr:List AV} {H:Hp} (h1:o=o') (h2:pu=pu'):VReg o P E B ops K pu fr H=VReg o' P E B ops K pu' fr H:=by rw[h1,h2]
theorem qnY(P:Program)(E:Env)(B:List Tmp)(ops:Array Oper)(K:List AV->Hp->Prop)(pu:List Nat)(fr:List AV)(H:Hp):VReg none P E B ops K pu fr H=VTwo (twoN pu) P E B ops K pu fr H:=_root_.id rfl
def VFz(m:Nat)(P:Program)(E:Env)(B:List Tmp)(ops:Array Oper)(K:List AV->Hp->Prop)(pu:List Nat)(fr:List AV)(H:Hp):Prop:=VFrz m (fun fr H=>vcl P E B ops K (qaN pu) ops.toList fr H) fr H
@[congr] theorem VFz_congr {m:Nat} {P:Program} {E:Env} {B:List Tmp} {ops:Array Oper} {K:List AV->Hp->Prop} {pu:List Nat} {fr fr':List AV} {H H':Hp} (h1:fr=fr') (h2:H=H'):VFz m P E B ops K pu fr H=VFz m P E B ops K pu fr' H':=by rw[h1,h2]
theorem qnX(m:Nat)(P:Program)(E:Env)(B:List Tmp)(ops:Array Oper)(K:List AV->Hp->Prop)(pu:List Nat)(fr:List AV)(H:Hp):VReg (some m) P E B ops K pu fr H=VFz m P E B ops K pu fr H:=_root_.id rfl
theorem qiE{m:Nat}{P:Program}{E:Env}{B:List Tmp}{ops:Array Oper}{K:List AV->Hp->Prop}{pu:List Nat}{fr:List AV}{H:Hp}(keep:List Nat)(H1:Hp)(l:List AV)(h1:H=H1++[l])(h2:m<=H1.length)(h3:∀l'∈H1,∀x∈l',Bnd H1.length x)(h4:∀t∈keep,∀x,fr[t]? =some x->okF H1.length l x)
  (h5:∀y:Nat->AV,vcl P E B ops K (qaN pu) ops.toList (qfT keep H1.length l y 0 fr) H1):VFz m P E B ops K pu fr H:= .inr ⟨keep,H1,l,h1,h2,h3,h4,h5⟩
theorem qkr{m:Nat}{P:Program}{E:Env}{B:List Tmp}{ops:Array Oper}{K:List AV->Hp->Prop}{pu:List Nat}{fr:List AV}{H:Hp}(h:vcl P E B ops K (qaN pu) ops.toList fr H):VFz m P E B ops K pu fr H:= .inl h
theorem qo2:frzN []=none:=rfl
theorem frzN_0(l:List Nat):frzN (0::l)=none:=by cases l<;>rfl
theorem frzN_1(l:List Nat):frzN (1::l)=none:=by cases l<;>rfl
theorem frzN_2(l:List Nat):frzN (2::l)=none:=by cases l<;>rfl
theorem frzN_3(l:List Nat):frzN (3::l)=none:=by cases l<;>rfl
theorem frzN_5(m:Nat)(l:List Nat):frzN (5::m::l)=some m:=rfl
theorem qmS(m:Nat)(l:List Nat):qaN (5::m::l)=l:=rfl
def VC(x:AV)(P:Program)(E:Env)(B:List Tmp)(ND:List (Nat×List Nat))(a b:Code)(K:Exit->List AV->Hp->Prop)(fr:List AV)(H:Hp):Prop:=qhz x (vc P E B ND a K fr H) (vc P E B ND b K fr H)
def VL(P:Program)(E:Env)(B:List Tmp)(ND:List (Nat×List Nat))(c:Code)(K:Exit->List AV->Hp->Prop)(fr:List AV)(H:Hp):Prop:=qpD (fun K fr H=>vc P E B ND c K fr H) K fr H
section
variable {P:Program}{E:Env}{B:List Tmp}{ND:List (Nat×List Nat)}{all ops:Array Oper}{K:List AV->Hp->Prop}{KE:Exit->List AV->Hp->Prop}{rest:List Oper}{o:Oper}{fr:List AV}{H H0:Hp}{a b:Code}{d:Option Tmp}{v:AV}{p:Nat}{pu:List Nat}
variable {S:Nat->Prop}
theorem qpK:KP 0 S H0 H=True:=rfl
theorem LP_0:LP 0 S fr o=True:=rfl
theorem LP_1:LP 1 S fr o=True:=rfl
theorem LP_2:LP 2 S fr o=(LA S (aeval fr) o/\SA S (aeval fr) o):=rfl
theorem qrz:KP p S H H=True:=by unfold KP;split<;>simp[qae]
theorem KP_app(J:Hp):KP p S H (H++J)=True:=by
 unfold KP;split
 ·rfl
 ·simp[preH]
 ·refine eq_true ⟨by simp,fun i _ hi=>zqA hi⟩
theorem qqe:vcl P E B all K pu [] fr H=K fr H:=by rw[vcl]
theorem qlF:vcl P E B all K [] (o::rest) fr H=VGo (qbb all fr o) P E B all K 0 [] o rest fr H:=by rw[vcl];rfl
theorem qoa(h:p≠3):vcl P E B all K (p::pu) (o::rest) fr H=VGo (qbb all fr o) P E B all K p pu o rest fr H:=by rw[vcl,if_neg (by simpa using h)];rfl
theorem qlE:vcl P E B all K (3::pu) (o::rest) fr H=VXGo (qbb all fr o) P E B all K pu o rest fr H:=by rw[vcl,if_pos (show(3::pu).headD 0=3 from rfl)];rfl
theorem qnS:VXGo (some true) P E B all K pu o rest fr H=qrr (acall fr o) P E B all K pu o rest fr H:=_root_.id rfl
theorem qlo:qrr none P E B all K pu o rest fr H=VXOp (abx P fr H o) P E B all K pu rest o.dst fr:=_root_.id rfl
theorem qln(f:FuncId)(args:List AV):qrr (some (f,args)) P E B all K pu o rest fr H=PX P E f args H (qai P E B all K pu rest o.dst fr 2 H) (E.pan (fr.take 8)):=_root_.id rfl
theorem qlp:VXGo (some false) P E B all K pu o rest fr H=vcl P E B all K pu rest (aput fr o.dst (.raw undef)) H:=_root_.id rfl
theorem qpB(v:AV)(fr':List AV)(H':Hp):VXOp (some (.one v fr' H')) P E B all K pu rest d fr=vcl P E B all K pu rest (aput fr' d v) H':=_root_.id rfl
theorem qnR(n:Nat)(f:Nat->AV×Hp):VXOp (some (.grow n f)) P E B all K pu rest d fr=VGrow n f P E B all K pu rest d fr:=_root_.id rfl
theorem qc4{n:Nat}{f:Nat->AV×Hp}(h:∀c,n<=c->c<=maxLen->vcl P E B all K pu rest (aput fr d (f c).1) (f c).2):VGrow n f P E B all K pu rest d fr:=h
theorem qpE:VGo (some true) P E B all K p pu o rest fr H=VTry (acall fr o) P E B all K p pu o rest fr H:=_root_.id rfl
theorem qn0:VGo (some false) P E B all K p pu o rest fr H=vcl P E B all K pu rest (aput fr o.dst (.raw undef)) H:=_root_.id rfl
theorem qnV:VTry none P E B all K p pu o rest fr H=(LP p E.S fr o/\VOp (aop P B fr H o) P E B all K pu rest o.dst):=_root_.id rfl
theorem qlt(f:FuncId)(args:List AV):VTry (some (f,args)) P E B all K 0 pu o rest fr H=PC P E f args H (qai P E B all K pu rest o.dst fr 0 H):=_root_.id rfl
theorem qls(f:FuncId)(args:List AV):VTry (some (f,args)) P E B all K 1 pu o rest fr H=PC P E f args H (qai P E B all K pu rest o.dst fr 1 H):=_root_.id rfl
theorem qlr(f:FuncId)(args:List AV):VTry (some (f,args)) P E B all K 2 pu o rest fr H=PC P E f args H (qai P E B all K pu rest o.dst fr 2 H):=_root_.id rfl
def qks(P:Program)(E:Env)(f:FuncId)(args:List AV)(H:Hp)(K:AV->Hp->Prop):Prop:=∀J,PC P E f args (H++J) fun v H'=>H'=H++J/\K v H
@[congr] theorem qp5 {P:Program} {E:Env} {f f':FuncId} {args args':List AV} {H H':Hp} {K:AV->Hp->Prop} (h1:f=f') (h2:args=args') (h3:H=H'):qks P E f args H K=qks P E f' args' H' K:=by rw[h1,h2,h3]
theorem qdm{P:Program}{E:Env}{f:FuncId}{args:List AV}{H:Hp}{K:AV->Hp->Prop}(h:∀J,PC P E f args (H++J) fun v H'=>H'=H++J/\K v H):qks P E f args H K:=h
theorem qlq(f:FuncId)(args:List AV):VTry (some (f,args)) P E B all K 4 pu o rest fr H=qks P E f args H (fun v H'=>vcl P E B all K pu rest (aput fr o.dst v) H'):=_root_.id rfl
theorem qpC(v:AV)(fr':List AV)(H':Hp):VOp (some (v,fr',H')) P E B all K pu rest d=vcl P E B all K pu rest (aput fr' d v) H':=_root_.id rfl
theorem qpI:qai P E B all K pu rest d fr p H0 v H=(KP p E.S H0 H/\vcl P E B all K pu rest (aput fr d v) H):=_root_.id rfl
theorem qqf:vc P E B ND .skip KE fr H=KE .normal fr H:=_root_.id rfl
theorem qlG(id:Nat)(draw:Bool):vc P E B ND (.region id ops draw) KE fr H=VReg (frzN (ndOf ND id)) P E B ops (KE .normal) (ndOf ND id) fr H:=by
 rw[vc];unfold VReg VTwo qrx VSet VS;rfl
theorem vc_seq:vc P E B ND (.seq a b) KE fr H=vc P E B ND a (Kseq P E B ND b KE) fr H:=_root_.id rfl
theorem qqj(c:Operand):vc P E B ND (.cond c a b) KE fr H=VC (aeval fr c) P E B ND a b KE fr H:=_root_.id rfl
theorem qod(id:Nat):vc P E B ND (.block id a) KE fr H=vc P E B ND a (Kblk id KE) fr H:=_root_.id rfl
theorem qob:vc P E B ND (.scope a) KE fr H=vc P E B ND a (Kscp KE) fr H:=_root_.id rfl
theorem qoc(l:Nat):vc P E B ND (.label l) KE fr H=KE .normal fr H:=_root_.id rfl
theorem qjA:Kscp KE .normal fr H=KE .normal fr H:=_root_.id rfl
theorem qpH:Kscp KE .ret fr H=KE .ret fr H:=_root_.id rfl
theorem qn3(id:Nat):Kscp KE (.exit id) fr H=KE (.exit id) fr H:=_root_.id rfl
theorem qqh:vc P E B ND (.loop a) KE fr H=VL P E B ND a KE fr H:=_root_.id rfl
theorem qqi(id:Nat):vc P E B ND (.exit id) KE fr H=KE (.exit id) fr H:=_root_.id rfl
theorem vc_ret:vc P E B ND .ret KE fr H=KE .ret fr H:=_root_.id rfl
theorem qjz:Kseq P E B ND b KE .normal fr H=vc P E B ND b KE fr H:=_root_.id rfl
theorem qn2(id:Nat):Kseq P E B ND b KE (.exit id) fr H=KE (.exit id) fr H:=_root_.id rfl
theorem qpG:Kseq P E B ND b KE .ret fr H=KE .ret fr H:=_root_.id rfl
theorem qjB(id:Nat):Kblk id KE .normal fr H=KE .normal fr H:=_root_.id rfl
theorem qpJ(id:Nat):Kblk id KE .ret fr H=KE .ret fr H:=_root_.id rfl
theorem qn6(id id':Nat):Kblk id KE (.exit id') fr H=if id'=id then KE .normal fr H else KE (.exit id') fr H:=_root_.id rfl
theorem qn4(I:List AV->Hp->Prop)(m:Nat)(μ:List AV->Hp->Nat):qn5 I m μ KE .ret fr H=KE .ret fr H:=_root_.id rfl
theorem qlw(I:List AV->Hp->Prop)(m:Nat)(μ:List AV->Hp->Nat)(id:Nat):qn5 I m μ KE (.exit id) fr H=KE (.exit id) fr H:=_root_.id rfl
theorem qaC{I:List AV->Hp->Prop}{m:Nat}{μ:List AV->Hp->Nat}(h1:I fr H)(h2:μ fr H<m):qn5 I m μ KE .normal fr H:=⟨fr,H,qa8 _,qbl _,h1,h2⟩
theorem qrw:VC (.bool true) P E B ND a b KE fr H=vc P E B ND a KE fr H:=qlv _ _
theorem qpF:VC (.bool false) P E B ND a b KE fr H=vc P E B ND b KE fr H:=qjw _ _
end
attribute [simp] axm axmload axlook axmput axmdel axmlen ptrA axalloc qlE qnS qlo qln qlp qpB qnR abx axconv axcopy axapp axappend axlit axmake
attribute [simp] qnW qlu qot setN_0 setN_1 setN_2 setN_3 setN_4 setN_8 setN_9 twoN_9 frzN_9 qmQ qob qoc qjA qpH qn3 qpK qrz KP_app qnY qnU qnT qoi twoN_0 twoN_1 twoN_2 twoN_3 twoN_4 twoN_7 twoN_8 frzN_4 frzN_7 frzN_8 qji qmX qmW qmV qmU qmT qmR qnX qo2 frzN_0 frzN_1 frzN_2 frzN_3 frzN_5 qmS qpu qgm qqU LP_0 LP_1 LP_2 LA SA qqe qlF qoa qpE qn0 qnV qlt qls qlr qlq qpC qpI qqf qlG vc_seq qqj qod qqh qqi vc_ret qjz qn2 qpG qjB qpJ qn6 qn4 qlw qrw qpF
attribute [simp] qbb acall qix qny qnx amkf aop aput inB ndOf cval0 qnO abSh isSh aun abound aextract anil acells abuild arows alit aload astore abase asrc aappend abuiltin amake afaddr afield alen aconv qgQ aslice ubyte ubytes setR
def aget(fr:List AV)(t:Nat):AV:=fr.getD t (.raw undef)
@[simp] theorem aget_zero (x:AV) (l:List AV):aget (x::l) 0=x:=rfl
@[simp] theorem aget_succ (x:AV) (l:List AV) (n:Nat):aget (x::l) (n+1)=aget l n:=rfl
@[simp] theorem aeval_tmp (fr:List AV) (t:Nat):aeval fr (.tmp t)=aget fr t:=rfl
@[simp] theorem qro (fr:List AV) (v:Value):aeval fr (.const v)=cval v:=rfl
@[simp] theorem qp3 (fr:List AV) (g:Nat):aeval fr (.global g)= .raw (.pointer (some ⟨g,0,none⟩)):=rfl
@[simp] theorem aeval_func (fr:List AV) (f:Nat):aeval fr (.func f)= .fn f []:=rfl
def qk7:List Oper->Nat->Option Tmp
 |[],_=>none
 |o::_,0=>o.dst
 |_::l,n+1=>qk7 l n
def qgo:AV->Option (Option Bool)
 | .bool b=>some (some b)
 | .raw (.tuple _)=>some none
 |_=>none
def qjC(fr:List AV):Option Tmp->Option (Option Bool)
 |none=>some none
 |some d=>qgo (aget fr d)
attribute [simp] qk7
@[simp] theorem qp7 (b:Bool):qgo (.bool b)=some (some b):=rfl
@[simp] theorem qpM:qgo (.raw undef)=some none:=rfl
@[simp] theorem qp9 (fr:List AV):qjC fr none=some none:=rfl
@[simp] theorem qp8 (fr:List AV) (d:Tmp):qjC fr (some d)=qgo (aget fr d):=rfl
theorem qkb:∀(l:List Oper) (j:Nat),qk7 l j=(l[j]?).bind (·.dst)
 |[],_=>by simp[qk7]
 |o::_,0=>rfl
 |_::l,n+1=>by simp[qk7,qkb l n]
@[simp] theorem yieldA_eq (all:Array Oper) (fr:List AV) (j:Nat):qeN all fr j=qjC fr (qk7 all.toList j):=by
 rw[qkb];unfold qeN qjC;simp only[Array.getElem?_toList];split
 ·rename_i h;rw[h]
 ·rename_i d h;rw[h];simp only[aget,List.getD];split
  ·rename_i h2;rw[h2];rfl
  ·rename_i b h2;rw[h2];rfl
  ·rename_i vs h2;rw[h2];rfl
  ·rename_i x h2 h3 h4;cases hx:fr[d]? with
   |none=>exact absurd hx h2
   |some v=>
    show none=qgo v;unfold qgo;split
    ·exact absurd hx (h3 _)
    ·exact absurd hx (h4 _)
    ·rfl
@[simp] theorem fdis_tmp (fr:List AV) (t:Nat):fdis fr (.tmp t)=fr.set t (aget fr t).dis:=rfl
@[simp] theorem fdis_const (fr:List AV) (v:Value):fdis fr (.const v)=fr:=rfl
@[simp] theorem qq0 (fr:List AV) (v:Nat):fdis fr (.global v)=fr:=rfl
@[simp] theorem fdis_func (fr:List AV) (v:Nat):fdis fr (.func v)=fr:=rfl
def lat{α:Type}(l:List α)(n:Nat):Option α:=l[n]?
@[simp] theorem lat_zero {α:Type} (x:α) (l:List α):lat (x::l) 0=some x:=rfl
@[simp] theorem lat_succ {α:Type} (x:α) (l:List α) (n:Nat):lat (x::l) (n+1)=lat l n:=rfl
theorem qaP{α:Type}{l:List α}{n:Nat}{x:α}(h:l[n]? =some x):lat l n=some x:=h
@[simp] theorem aixaddr_sl (P:Program) (t:TypeId) (own:Bool) (k:Nat) (rows:List (List AV)) (kk:IntKind) (n:Int):aixaddr P t (.sl own k rows) (.int kk n)=if tel P t=some k/\0<=n then(lat rows n.toNat).map .elt else none:=by
 cases h:rows[n.toNat]? <;>simp[aixaddr,lat,h]
@[simp] theorem qrn (P:Program) (t:TypeId) (i o:Nat) (kk:IntKind) (n:Int):aixaddr P t (.ptr (some (i,o))) (.int kk n)=(match tarr P t with
  |some (m,k,_)=>if 0<=n/\n.toNat<m then some (.ptr (some (i,o+n.toNat*k)))else none
  |none=>none):=rfl
@[simp] theorem aixaddr_bx (P:Program) (t:TypeId) (i o m c k:Nat) (kk:IntKind) (n:Int):aixaddr P t (.bx i o m c k) (.int kk n)=if tel P t=some k/\0<=n/\n.toNat<m then some (.ptr (some (i,o+n.toNat*k)))else none:=rfl
@[simp] theorem dis_bx (i o n c k):(AV.bx i o n c k).dis= .bx i o n c k:=rfl
@[simp] theorem free_bx (i o n c k):(AV.bx i o n c k).free=true:=rfl
@[simp] theorem aix_str (P:Program) (t:TypeId) (l:List UInt8) (kk:IntKind) (n:Int):aix P t (.str l) (.int kk n)=if tstr P t=true/\0<=n then(lat l n.toNat).map (fun b=> .int .u8 (b.toNat:Int))else none:=by
 cases h:l[n.toNat]? <;>simp[aix,lat,h]
@[simp] theorem dis_int (k n):(AV.int k n).dis= .int k n:=rfl
@[simp] theorem dis_bool (b):(AV.bool b).dis= .bool b:=rfl
@[simp] theorem dis_str (b):(AV.str b).dis= .str b:=rfl
@[simp] theorem dis_ptr (b):(AV.ptr b).dis= .ptr b:=rfl
@[simp] theorem dis_elt (b):(AV.elt b).dis= .elt b:=rfl
@[simp] theorem dis_sl (o k r):(AV.sl o k r).dis= .sl false k r:=rfl
@[simp] theorem dis_nil:AV.nil.dis= .nil:=rfl
@[simp] theorem dis_agg (b):(AV.agg b).dis= .agg b:=rfl
@[simp] theorem dis_tup (b):(AV.tup b).dis= .tup b:=rfl
@[simp] theorem dis_fn (b c):(AV.fn b c).dis= .fn b c:=rfl
@[simp] theorem dis_raw (b):(AV.raw b).dis= .raw b:=rfl
@[simp] theorem dis_ex (b c):(AV.ex b c).dis= .ex b c:=rfl
@[simp] theorem free_int (k n):(AV.int k n).free=true:=rfl
@[simp] theorem free_bool (b):(AV.bool b).free=true:=rfl
@[simp] theorem free_str (b):(AV.str b).free=true:=rfl
@[simp] theorem free_ptr (b):(AV.ptr b).free=true:=rfl
@[simp] theorem free_elt (b):(AV.elt b).free=true:=rfl
@[simp] theorem free_slf (k r):(AV.sl false k r).free=true:=rfl
@[simp] theorem free_slt (k r):(AV.sl true k r).free=false:=rfl
@[simp] theorem free_nil:AV.nil.free=true:=rfl
@[simp] theorem free_agg (b):(AV.agg b).free=true:=rfl
@[simp] theorem free_tup (b):(AV.tup b).free=true:=rfl
@[simp] theorem free_fn (b c):(AV.fn b c).free=true:=rfl
@[simp] theorem free_raw (b):(AV.raw b).free=true:=rfl
@[simp] theorem free_ex (b c):(AV.ex b c).free=false:=rfl
@[simp] theorem cval_int (k n):cval (.int k n)= .int k n:=rfl
@[simp] theorem cval_bool (b):cval (.bool b)= .bool b:=rfl
@[simp] theorem cval_ptr:cval (.pointer none)= .ptr none:=rfl
@[simp] theorem cval_nil:cval (.slice none 0 0)= .nil:=rfl
@[simp] theorem qp1:cval .nilFunc= .raw .nilFunc:=rfl
@[simp] theorem qpi:cval .nilIface= .raw .nilIface:=rfl
theorem qph(s:ByteArray)(h:s.size<=maxLen):cval (.string s)= .str s.data.toList:=by simp[cval,cval0,h]
@[simp] theorem cval_lit (l:List UInt8) (h:l.length<=1000):cval (.string ⟨l.toArray⟩)= .str l:=by
 rw[qph _ (by unfold maxLen;show l.toArray.size<=_;simp;omega)]
@[simp] theorem abin_int (P:Program) (op:BinOp) (t:TypeId) (k k':IntKind) (a b:Int):abin P op t (.int k a) (.int k' b)=if isSh op then abSh op k a b else if k=k' then qnO op k a b else none:=rfl
@[simp] theorem abin_add (P:Program) (t:TypeId) (a b:List UInt8):abin P .add t (.str a) (.str b)=if a.length+b.length<=maxLen then some (.str (a++b))else none:=rfl
@[simp] theorem abin_seql (P:Program) (t:TypeId) (a b:List UInt8):abin P .eql t (.str a) (.str b)=some (.bool (a==b)):=rfl
@[simp] theorem abin_sneq (P:Program) (t:TypeId) (a b:List UInt8):abin P .neq t (.str a) (.str b)=some (.bool (a !=b)):=rfl
@[simp] theorem abin_beql (P:Program) (t:TypeId) (a b:Bool):abin P .eql t (.bool a) (.bool b)=if tbool P t then some (.bool (a==b))else none:=rfl
@[simp] theorem abin_bneq (P:Program) (t:TypeId) (a b:Bool):abin P .neq t (.bool a) (.bool b)=if tbool P t then some (.bool (a !=b))else none:=rfl
@[simp] theorem abin_peql (P:Program) (t:TypeId) (p:Option (Nat×Nat)):abin P .eql t (.ptr p) (.ptr none)=if tptr P t then some (.bool p.isNone)else none:=rfl
@[simp] theorem abin_pneq (P:Program) (t:TypeId) (p:Option (Nat×Nat)):abin P .neq t (.ptr p) (.ptr none)=if tptr P t then some (.bool p.isSome)else none:=rfl
@[simp] theorem abin_feql (P:Program) (t:TypeId) (f:FuncId) (c:List AV):abin P .eql t (.fn f c) (.raw .nilFunc)=if tfunc P t then some (.bool false)else none:=rfl
@[simp] theorem abin_fneq (P:Program) (t:TypeId) (f:FuncId) (c:List AV):abin P .neq t (.fn f c) (.raw .nilFunc)=if tfunc P t then some (.bool true)else none:=rfl
@[simp] theorem abin_zeql (P:Program) (t:TypeId):abin P .eql t (.raw .nilFunc) (.raw .nilFunc)=if tfunc P t then some (.bool true)else none:=rfl
@[simp] theorem abin_zneq (P:Program) (t:TypeId):abin P .neq t (.raw .nilFunc) (.raw .nilFunc)=if tfunc P t then some (.bool false)else none:=rfl
@[simp] theorem abin_aeql (P:Program) (t:TypeId) (l m:List AV):abin P .eql t (.agg l) (.agg m)=(match tflat P t with
  |some cs=>(aeqs cs l m).map .bool
  |none=>none):=by
 simp only[abin];cases tflat P t with
 |none=>rfl
 |some cs=>dsimp only;cases aeqs cs l m<;>rfl
@[simp] theorem abin_aneq (P:Program) (t:TypeId) (l m:List AV):abin P .neq t (.agg l) (.agg m)=(match tflat P t with
  |some cs=>(aeqs cs l m).map fun b=> .bool !b
  |none=>none):=by
 simp only[abin];cases tflat P t with
 |none=>rfl
 |some cs=>dsimp only;cases aeqs cs l m<;>rfl
attribute [simp] aeqs aeq1 afill
@[simp] theorem aix_agg (P:Program) (t:TypeId) (l:List AV) (kk:IntKind) (n:Int):aix P t (.agg l) (.int kk n)=(match tarr P t with
  |some (m,k,b)=>if 0<=n/\n.toNat<m then(if b then(if n.toNat*k+k<=l.length then some (.agg ((l.drop (n.toNat*k)).take k))else none)else lat l (n.toNat*k))else none
  |none=>none):=rfl
@[simp] theorem ares_one (P:Program) (fr:List AV) (H:Hp) (t:Nat):ares P fr H [.tmp t]=some (aget fr t):=rfl
@[simp] theorem ares_two (P:Program) (fr:List AV) (H:Hp) (r s:ResultVar) (l:List ResultVar):ares P fr H (r::s::l)=match qiz P fr H (r::s::l)with
  |some [v]=>some v.dis
  |some l=>some (.tup (l.map AV.dis))
  |none=>none:=by cases r<;>rfl
@[simp] theorem ares_cell (P:Program) (fr:List AV) (H:Hp) (a t:Nat):ares P fr H [.cell a t]=match qiz P fr H [.cell a t]with
  |some [v]=>some v.dis
  |some l=>some (.tup (l.map AV.dis))
  |none=>none:=rfl
attribute [simp] qiz
@[simp] theorem ares1_tmp (P:Program) (fr:List AV) (H:Hp) (t:Nat):ares1 P fr H (.tmp t)=some (aget fr t):=rfl
@[simp] theorem ares1_cell (P:Program) (fr:List AV) (H:Hp) (a t:Nat):ares1 P fr H (.cell a t)=match aget fr a with
  | .ptr p=>match aload P [] none t fr H (.ptr p)with
   |some (v,_)=>some v
   |none=>none
  |_=>none:=rfl
@[simp] theorem bts_length (l:List UInt8):(bts l).length=l.length:=qc2 l
@[simp] theorem qql (l:List UInt8):ubytes (bts l)=some l:=qku l
theorem qc1(l:List UInt8)(b:UInt8):bts l++[[AV.int .u8 (b.toNat:Int)]]=bts (l++[b]):=by simp[bts]
theorem qax{x:Int}(h1: -9223372036854775808<=x)(h2:x<=9223372036854775807):IntKind.i64.wrap x=x:=IntWalk.i64_in _ ⟨h1,h2⟩
@[simp] theorem nat_neg (i:Nat):((i:Int)<0)=False:=eq_false (by omega)
def ai:AV->Int
 | .int _ n=>n
 |_=>0
@[simp] theorem ai_int (k n):ai (.int k n)=n:=rfl
theorem qal{pat:(Nat->AV)->List AV}{fr:List AV}(h:fr=pat (fun i=>aget fr i)):∃x,fr=pat x:=⟨_,h⟩
theorem qkO{x y z:AV}(h:nil1 x y)(k:nil1 y z):nil1 x z:=by
 rcases h with rfl|⟨rfl,b,n,rfl⟩
 ·exact k
 ·rcases k with rfl|⟨h,_⟩
  ·exact .inr ⟨rfl,b,n,rfl⟩
  ·cases h
theorem qeF:∀{x y z:List AV},nilL x y->nilL y z->nilL x z
 |[],[],[],_,_=>trivial
 |_::_,_::_,_::_,h,k=>⟨qkO h.1 k.1,qeF h.2 k.2⟩
 |[],[],_::_,_,k=>k.elim
 |[],_::_,_,h,_=>h.elim
 |_::_,[],_,h,_=>h.elim
 |_::_,_::_,[],_,k=>k.elim
theorem qgA:∀{x y z:Hp},nilH x y->nilH y z->nilH x z
 |[],[],[],_,_=>trivial
 |_::_,_::_,_::_,h,k=>⟨qeF h.1 k.1,qgA h.2 k.2⟩
 |[],[],_::_,_,k=>k.elim
 |[],_::_,_,h,_=>h.elim
 |_::_,[],_,h,_=>h.elim
 |_::_,_::_,[],_,k=>k.elim
theorem qg1:∀(l:List AV) (t k:Nat),l[t]? =some .nil->nilL l (l.set t (.sl true k []))
 |[],_,_,h=>by simp at h
 |x::l,0,k,h=>by simp at h;subst h;exact⟨.inr ⟨rfl,true,k,rfl⟩,qa8 l⟩
 |x::l,t+1,k,h=>⟨.inl rfl,qg1 l t k (by simpa using h)⟩
theorem qch:∀(l:Hp) (t:Nat) (c c':List AV),l[t]? =some c->nilL c c'->nilH l (l.set t c')
 |[],_,_,_,h,_=>by simp at h
 |x::l,0,c,c',h,k=>by simp at h;subst h;exact⟨k,qbl l⟩
 |x::l,t+1,c,c',h,k=>⟨qa8 x,qch l t c c' (by simpa using h) k⟩
section
variable {P:Program}{E:Env}{B:List Tmp}{ND:List (Nat×List Nat)}{KE:Exit->List AV->Hp->Prop}{fr:List AV}{H:Hp}{a:Code}
theorem qes(t k:Nat)(h:fr[t]? =some .nil)(hv:VL P E B ND a KE (fr.set t (.sl true k [])) H):VL P E B ND a KE fr H:=by
 obtain⟨I,μ,fr1,H1,h1,h2,h3,h4⟩:=hv;exact⟨I,μ,fr1,H1,qeF (qg1 fr t k h) h1,h2,h3,h4⟩
theorem qnZ(i:Nat)(c:List AV)(t k:Nat)(hc:H[i]? =some c)(h:c[t]? =some .nil)(hv:VL P E B ND a KE fr (H.set i (c.set t (.sl true k [])))):VL P E B ND a KE fr H:=by
 obtain⟨I,μ,fr1,H1,h1,h2,h3,h4⟩:=hv;exact⟨I,μ,fr1,H1,h1,qgA (qch H i c _ hc (qg1 c t k h)) h2,h3,h4⟩
theorem qaG(I:List AV->Hp->Prop)(μ:List AV->Hp->Nat)(h3:I fr H)(h4:∀fr H,I fr H->vc P E B ND a (qn5 I (μ fr H) μ KE) fr H):VL P E B ND a KE fr H:=⟨I,μ,fr,H,qa8 _,qbl _,h3,h4⟩
end
theorem qg2:∀(H:Hp) {J K:Hp},nilH J K->nilH (H++J) (H++K)
 |[],_,_,h=>h
 |x::H,_,_,h=>⟨qa8 x,qg2 H h⟩
theorem qac{P:Program}{rs:List ResultVar}{Q:AV->Hp->Prop}{fr:List AV}{H J:Hp}{v0 v:AV}(hB:BndH H.length H)(h1:ares P fr (H++J) rs=some v0)(h2:nilV v0 v)(h5:Bnd H.length v)(h6:Q v H):
  qcc P rs H.length Q .ret fr (H++J):=⟨v0,v,H++J,H,J,h1,h2,qbl _,rfl,Nat.le_refl _,hB,h5,h6⟩
theorem qap{P:Program}{rs:List ResultVar}{Q:AV->Hp->Prop}{fr:List AV}{H:Hp}{v0 v:AV}(hB:BndH H.length H)(h1:ares P fr H rs=some v0)(h2:nilV v0 v)(h5:Bnd H.length v)(h6:Q v H):
  qcc P rs H.length Q .ret fr H:=⟨v0,v,H,H,[],h1,h2,qbl _,(List.append_nil H).symm,Nat.le_refl _,hB,h5,h6⟩
theorem qaa(v:AV):nilV v v:= .inl (.inl rfl)
@[simp] theorem bnd_int' {N:Nat} (k n):Bnd N (.int k n):= .int k n
@[simp] theorem bnd_bool' {N:Nat} (b):Bnd N (.bool b):= .bool b
@[simp] theorem bnd_str' {N:Nat} (b):Bnd N (.str b):= .str b
@[simp] theorem bnd_nil' {N:Nat}:Bnd N .nil:= .nil
@[simp] theorem bnd_raw' {N:Nat} (b):Bnd N (.raw b):= .raw b
@[simp] theorem bnd_ex' {N:Nat} (b c):Bnd N (.ex b c):= .ex b c
@[simp] theorem bnd_ptr0' {N:Nat}:Bnd N (.ptr none):= .ptr0
@[simp] theorem bnd_ptr' {N:Nat} (i o):Bnd N (.ptr (some (i,o)))↔i<N:=⟨fun h=>by cases h;assumption,.ptr i o⟩
@[simp] theorem bnd_bx' {N:Nat} (i o n c k):Bnd N (.bx i o n c k)↔i<N:=⟨fun h=>by cases h;assumption,.bx i o n c k⟩
@[simp] theorem qrh {N:Nat} (b k r):Bnd N (.sl b k r)↔∀l∈r,∀x∈l,Bnd N x:=⟨fun h=>by cases h;assumption,.sl b k r⟩
@[simp] theorem bnd_agg' {N:Nat} (r):Bnd N (.agg r)↔∀x∈r,Bnd N x:=⟨fun h=>by cases h;assumption,.agg r⟩
@[simp] theorem bnd_tup' {N:Nat} (r):Bnd N (.tup r)↔∀x∈r,Bnd N x:=⟨fun h=>by cases h;assumption,.tup r⟩
@[simp] theorem bnd_elt' {N:Nat} (r):Bnd N (.elt r)↔∀x∈r,Bnd N x:=⟨fun h=>by cases h;assumption,.elt r⟩
@[simp] theorem bnd_fn' {N:Nat} (f r):Bnd N (.fn f r)↔∀x∈r,Bnd N x:=⟨fun h=>by cases h;assumption,.fn f r⟩
theorem qjq{N:Nat}(l:List UInt8):∀r∈bts l,∀x∈r,Bnd N x:=fun r hr x hx=>by
 obtain⟨c,_,rfl⟩:=List.mem_map.1 hr;simp at hx;subst hx;exact .int _ _
@[simp high] theorem qlf {N:Nat} (b k) (l:List UInt8):Bnd N (.sl b k (bts l)):= .sl _ _ _ (qjq l)
theorem qnQ{P:Program}{rs:List ResultVar}{n:Nat}{Q:AV->Hp->Prop}{fr:List AV}{H' J:Hp}{v0 v:AV}(h1:ares P fr (H'++J) rs=some v0)(h2:nilV v0 v)(h3:n<=H'.length)(h4:BndH H'.length H')(h5:Bnd H'.length v)(h6:Q v H'):
  qcc P rs n Q .ret fr (H'++J):=⟨v0,v,H'++J,H',J,h1,h2,qbl _,rfl,h3,h4,h5,h6⟩
theorem aQz{P:Program}{rs:List ResultVar}{Q:AV->Hp->Prop}{fr:List AV}{H:Hp}{v:AV}(hB:BndH H.length H)(h1:ares P fr H rs=some v:=by rfl)(h5:Bnd H.length v:=by simp)(h6:Q v H):qcc P rs H.length Q .ret fr H:=qap hB h1 (qaa _) h5 h6
theorem aQy{P:Program}{rs:List ResultVar}{Q:AV->Hp->Prop}{fr:List AV}{H J:Hp}{v:AV}(hB:BndH H.length H)(h1:ares P fr (H++J) rs=some v:=by simp)(h5:Bnd H.length v:=by simp)(h6:Q v H):qcc P rs H.length Q .ret fr (H++J):=qac hB h1 (qaa _) h5 h6
theorem wiz{z:Int}(h1: -9223372036854775808<=z:=by omega)(h2:z<=9223372036854775807:=by omega):IntKind.i64.wrap z=z:=qax h1 h2
theorem friz{pat:(Nat->AV)->List AV}{fr:List AV}(h:fr=pat (fun i=>aget fr i):=by simp):∃x,fr=pat x:=⟨_,h⟩
theorem Klz{KE:Exit->List AV->Hp->Prop}{fr:List AV}{H:Hp}{I:List AV->Hp->Prop}{m:Nat}{μ:List AV->Hp->Nat}(h1:I fr H)(h2:μ fr H<m:=by simp;omega):qn5 I m μ KE .normal fr H:=qaC h1 h2
def old(W:World):Nat->Nat->Prop:=fun g _=>g<W.heap.size
theorem qjX{W:World}{g o:Nat}{u:Value}(h:W.cell? ⟨g,o,none⟩=some u):old W g o:=by
 unfold old;by_cases hg:g<W.heap.size
 ·exact hg
 ·have:W.heap[g]? =none:=Array.getElem?_eq_none (by omega);simp[World.cell?,this]at h
theorem qjR{W:World}(k:Nat)(rows:List (List AV))(bo:Option Addr)(len cap:Nat)(hk:∀r∈rows,r.length=k)(hk0:0<k)(hl:rows.length=len)(h1:len<=cap)(h2:cap<=maxLen)
  (hc:∀i r,rows[i]? =some r->∃g o,bo=some ⟨g,o,none⟩/\∀(j:Nat) x,r[j]? =some x->x.free=true/\x.one=true/\∃u,W.cell? ⟨g,o+i*k+j,none⟩=some u/\Rel W (fun _=>0) (old W) x u):
  Rel W (fun _=>0) (old W) (.sl false k rows) (.slice bo len cap):=by
 subst hl;have hflat:=qei hk
 have hat:∀t,t<rows.length*k->∃g o u x,bo=some ⟨g,o,none⟩/\W.cell? ⟨g,o+t,none⟩=some u/\rows.flatten[t]? =some x/\x.free=true/\x.one=true/\Rel W (fun _=>0) (old W) x u:=fun t ht=>by
  have hi:t/k<rows.length:=Nat.div_lt_of_lt_mul (by rw[Nat.mul_comm];exact ht);have hj:t%k<k:=Nat.mod_lt _ hk0;obtain⟨g,o,hb,hx⟩:=hc (t/k) rows[t/k] (zqD hi);have hrl:=hk rows[t/k] (List.getElem_mem _);obtain⟨f1,f2,u,hu,hr⟩:=hx (t%k) (rows[t/k])[t%k] (zqD (by omega));have e:t/k*k+t%k=t:=by rw[Nat.mul_comm];exact Nat.div_add_mod t k
  refine⟨g,o,u,_,hb,?_,?_,f1,f2,hr⟩
  ·rw[show o+t=o+t/k*k+t%k by omega];exact hu
  ·have:=qhi hk (zqD hi) (t%k) hj;rw[e]at this;rw[this];exact zqD (by omega)
 obtain⟨xs,hxl,hxs⟩:∃xs:List Value,xs.length=rows.length*k/\∀t u,xs[t]? =some u->∃g o x,bo=some ⟨g,o,none⟩/\W.cell? ⟨g,o+t,none⟩=some u/\rows.flatten[t]? =some x/\x.free=true/\x.one=true/\Rel W (fun _=>0) (old W) x u:=by
  have:∀n,n<=rows.length*k->∃xs:List Value,xs.length=n/\∀t u,xs[t]? =some u->∃g o x,bo=some ⟨g,o,none⟩/\W.cell? ⟨g,o+t,none⟩=some u/\rows.flatten[t]? =some x/\x.free=true/\x.one=true/\Rel W (fun _=>0) (old W) x u:=by
   intro n
   induction n with
   |zero=>exact fun _=>⟨[],rfl,fun t u h=>by simp at h⟩
   |succ n ih=>
    intro hn;obtain⟨xs,h1,h2⟩:=ih (by omega);obtain⟨g,o,u,x,h3⟩:=hat n (by omega);refine⟨xs++[u],by simp[h1],fun t v hv=>?_⟩;by_cases ht:t<xs.length
    ·exact h2 t v (by rwa[zqA ht]at hv)
    ·have:=(zqC.1 hv).1;simp at this;obtain rfl:t=n:=by omega
     rw[zqB (by omega),h1]at hv;simp at hv;subst hv;exact⟨g,o,x,h3⟩
  exact this _ (Nat.le_refl _)
 refine .sl false k rows _ xs hk ⟨hxl,bo,cap,rfl,h1,h2,fun hp=>?_⟩ (fun g o n c hv j hj=>?_) (fun h=>by cases h) (fun r hr x hx=>?_) (fun j x u hx hu=>?_)
 ·have hp':0<rows.length*k:=Nat.mul_pos hp hk0;obtain⟨g,o,_,_,hb,_⟩:=hat 0 hp';refine⟨g,o,hb,fun j hj=>?_⟩;obtain⟨g',o',x,hb',hcell,_⟩:=hxs j xs[j] (zqD (by omega));rw[hb]at hb';cases hb';rw[hcell,zqD]
 ·obtain⟨g',o',u,x,hb,hcell,_⟩:=hat j hj;cases hv;cases hb;exact qjX hcell
 ·obtain⟨i,hi⟩:=List.getElem?_of_mem hr;obtain⟨j,hj⟩:=List.getElem?_of_mem hx;obtain⟨g,o,_,h⟩:=hc i r hi;exact⟨(h j x hj).1,(h j x hj).2.1⟩
 ·obtain⟨g,o,x',_,_,hx',_,_,hr⟩:=hxs j u hu;rw[hx]at hx';cases hx';exact hr
theorem qb5{E:Env}{w w':World}{β:Nat->Nat}{Rd:Nat->Nat->Prop}{Ow:Nat->Option Hold}{H:Hp}(hHR:HR E w β Rd Ow H)(hf:Frm (fun _=>False) w w')(N:Nat->Nat->Prop)(hN:∀g o,N g o->w.heap.size<=g/\g<w'.heap.size){v:AV}{c:Value}
  (hrel:Rel w' β (fun g o=>Rd g o\/N g o) v c) (hb:Bnd H.length v) (hfree:v.free=true):Post E w β Rd Ow H w' β (fun g o=>Rd g o\/N g o) Ow H v c:=by
 have h3:S3 E w (fun _=>False) Rd w β Rd Ow [] H #[]:=⟨hHR,⟨rfl,fun t x u hx=>by simp at hx⟩,⟨fun _ h=>h.elim,fun _ h=>h.elim,fun _ h=>h.elim,fun _ _ h=>h.elim,fun _ _ h=>h.elim,rfl,rfl,rfl,Nat.le_refl _,fun g o h=>⟨h,rfl⟩⟩,fun x hx=>by cases hx⟩
 have h4:S3 E w (fun _=>False) Rd w' β (fun g o=>Rd g o\/N g o) Ow [] H #[]:=h3.move
  (fun g o hg=>⟨.inl hg,World.cell?_of_block (a:=⟨g,o,none⟩) (hf.block g (hHR.rds g o hg) (fun h=>h))⟩)
  (fun b hb'=>⟨hf.block b hb' (fun h=>h),fun o ho=>ho.resolve_right (fun e=>by have:=(hN _ _ e).1;omega)⟩)
  (fun g o ho=>by
   rcases ho with h1|h1
   ·exact Nat.lt_of_lt_of_le (hHR.rds g o h1) hf.size
   ·exact(hN _ _ h1).2) hf.size hf.os hf.tape hf.output
 refine⟨hrel,hb,fun g hg=>?_,?_,h4.hr,fun _ _=>rfl,Nat.le_refl _,fun g o hg=>⟨.inl hg,World.cell?_of_block (a:=⟨g,o,none⟩) (hf.block g (hHR.rds g o hg) (fun h=>h))⟩,
  fun b hb' hbox how=>⟨hf.block b hb' (fun h=>h),how,hbox,fun o ho=>ho.resolve_right (fun e=>by have:=(hN _ _ e).1;omega)⟩,hf.os,hf.tape,hf.output,hf.size⟩
 ·rw[qaw hfree]at hg;cases hg
 ·cases v<;>simp_all [AV.dis,AV.free]
theorem qao{P:Program}{E:Env}{f:FuncId}{args:List AV}{H:Hp}{Q:AV->Hp->Prop}{v:AV}(hB:hasB P f=true)(G:World->Prop)(hE:∀w:World,(∀b,E.Fix b->w.heap[b]? =E.w0.heap[b]?)->G w)
  (h:∀(w:World) (β:Nat->Nat) (Rd:Nat->Nat->Prop) (cargs:Array Value),G w->cargs.size=args.length->(∀(t:Nat) x u,args[t]? =some x->cargs[t]? =some u->Rel w β Rd x u)->
   Calls P f cargs w fun e w'=>∃c,e= .returned c/\Frm (fun _=>False) w w'/\Rel w' β (fun g o=>Rd g o\/False) v c)
  (hb:Bnd H.length v) (hf:v.free=true) (hQ:Q v H):PC P E f args H Q:=by
 refine⟨hB,fun w β Rd Ow cargs hHR hOw hsz hargs=>?_⟩;refine(h w β Rd cargs (hE w fun b hb=>(hHR.fix b hb).1) hsz (fun t x u hx hu=>(hargs t x u hx hu).1)).mono ?_;rintro e w' ⟨c,rfl,hF,hr⟩;exact⟨c,v,H,β,_,Ow,rfl,hQ,qb5 hHR hF (fun _ _=>False) (fun _ _ h=>h.elim) hr hb hf⟩
theorem qiv{P:Program}{f:FuncId}{args:List AV}{cargs:Array Value}{W:World}(Fix:Nat->Prop)(hFix:∀b,Fix b->b<W.heap.size)(Rd:Nat->Nat->Prop)(hrd:∀g o,Rd g o->g<W.heap.size)(hsz:cargs.size=args.length)
  (hargs:∀(t:Nat) x u,args[t]? =some x->cargs[t]? =some u->Rel W (fun _=>0) Rd x u/\Bnd 0 x/\x.free=true)
  (h:∀(E:Env) (Q:AV->Hp->Prop),E.w0=W->E.Fix=Fix->Q (.bool true) []->PC P E f args [] Q):Calls P f cargs W fun e w'=>e= .returned (.bool true)/\Frm (fun _=>False) W w':=by
 have hp:=h ⟨W,Fix,fun _=>True,fun _ _ _=>False⟩ (fun v H'=>v= .bool true) rfl rfl rfl;refine(hp.2 W (fun _=>0) Rd (fun _=>none) cargs ⟨fun i l hl=>by simp at hl,fun i j hi=>by simp at hi,fun i hi=>by simp at hi,fun g h hg=>(by cases hg),hrd,fun l hl=>by simp at hl,fun b hb=>⟨rfl,rfl,fun i hi=>by simp at hi,hFix b hb⟩,fun i l t hl=>by simp at hl⟩ (fun g h hg=>by cases hg) hsz hargs).mono ?_;rintro e w' ⟨c,v,H',β',Rd',Ow',rfl,rfl,hP⟩;refine⟨by rw[qbX hP.rel],?_⟩;exact⟨hP.os,hP.tape,hP.output,hP.size,fun b hb _=>(hP.frame b hb (fun i hi=>by simp at hi) rfl).1⟩
end Go.Proofs.YtnnhdehmlkkfjaaGreatDoor
